/-
  Contracts of same and three of layer 6.
-/
import Derived.Test.YtnbihffkaagmjaaRows
import Derived.Test.YtnbihffkaagmjaaLaw
import Derived.Test.YtnbihffkaagmjaaM
import Derived.WalkKit
import Derived.ProofKit
import Derived.OpenShut
import Derived.Below
import Derived.Deep.QuietTactic
import Derived.BigQuiet
import Derived.KernelRfl
namespace Go.Proofs.Ytnbihffkaagmjaa.RunsP
open Go.RowKit Go.RunLaws Go.Proofs.Ytnbihffkaagmjaa.Pl
set_option linter.unusedVariables false

/-- a fact kept from the walk -/
structure Kp (p : Prop) : Prop where
  out : p

theorem own : ownKnob Try.prog.godebug = none := by kernel_rfl

theorem byte_at (s : ByteArray) (k : Nat) (h : k < s.size) : s[k] = at_ s.data.toList k := by
  rw [at_eq (by simpa using h)]
  rfl

set_option maxRecDepth 100000 in
set_option maxHeartbeats 1000000 in
theorem same_any (s : ByteArray) (a : Nat) (w : World) (ha : a < s.size) (hs : s.size ≤ 140737488351232) :
    Calls Try.prog 14 #[.string s, .int .i64 a] w fun e w' => e = .returned (.int .i64 (run s.data.toList a)) ∧ ∃ n, w' = w.drewN n := by
  have hl : s.data.toList.length = s.size := by rw [Array.length_toList]; rfl
  have Hl := Kp.mk hl
  clear hl
  go_enter Try.func14, Try.ntmps14
  go_wp2_with fail
  go_loopw [5] (fun v wr => ∃ n : Nat, v = .int .i64 n ∧ 1 ≤ n ∧ n ≤ 130 ∧ a + n ≤ s.size ∧ Kp (run s.data.toList a = runF s.data.toList a (130 - n) n) ∧ ∃ m, wr = w.drewN m) (fun v _ => 130 - (intOf v).toNat)
  case atStart => exact ⟨1, rfl, Nat.le_refl _, by omega, by omega, ⟨(run_from_one (by rw [Hl.out]; exact ha)).symm⟩, 0, rfl⟩
  case round =>
    obtain ⟨n, rfl, h1, h130, han, HF, m, rfl⟩ := hrel
    by_cases c1 : n < 130
    · have c1' : decide ((n : Int) < 130) = true := by simp; omega
      have hw1 : IntKind.i64.wrap ((a : Int) + n) = (a : Int) + n := IntWalk.i64_in _ (by omega)
      by_cases c2 : a + n < s.size
      · have c2' : decide ((a : Int) + n < s.size) = true := by simp; omega
        have g0 : (0 : Int) ≤ (a : Int) + n := by omega
        have g1 : (a : Int) + n < s.size := by omega
        have g2 : ((a : Int) + n).toNat = a + n := by omega
        have g3 : (a : Int) < s.size := by omega
        by_cases c3 : at_ s.data.toList (a + n) = at_ s.data.toList a
        · have c3' : (((s[a + n]).toNat : Int) == ((s[a]).toNat : Int)) = true := by rw [byte_at s _ c2, byte_at s _ ha, c3]; simp
          have HF2 : Kp (run s.data.toList a = runF s.data.toList a (130 - (n + 1)) (n + 1)) := ⟨by
            rw [HF.out, show 130 - n = 130 - (n + 1) + 1 by omega, runF, if_pos ⟨by rw [Hl.out]; exact c2, c1, c3⟩]⟩
          clear c3
          go_wp2_with fail
          go_quiet (fail)
          go_wp2_with fail
          go_roundw
          case measure => simp [intOf]; omega
          case rel => exact ⟨n + 1, by go_num, by omega, by omega, by omega, HF2, _, rfl⟩
        · have c3' : (((s[a + n]).toNat : Int) == ((s[a]).toNat : Int)) = false := by
            rw [byte_at s _ c2, byte_at s _ ha]
            simp only [beq_eq_false_iff_ne, ne_eq, Int.natCast_inj]
            exact fun h => c3 (UInt8.toNat_inj.1 h)
          have HF2 : Kp (run s.data.toList a = n) := ⟨by
            rw [HF.out, show 130 - n = 130 - (n + 1) + 1 by omega, runF, if_neg (fun h => c3 h.2.2)]⟩
          clear c3
          go_wp2_with fail
          go_quiet (fail)
          go_wp2_with fail
          go_ret
          exact ⟨by rw [HF2.out]; rfl, _, World.drewN_drewN _ _ _⟩
      · have c2' : decide ((a : Int) + n < s.size) = false := by simp; omega
        have HF2 : Kp (run s.data.toList a = n) := ⟨by
          rw [HF.out, show 130 - n = 130 - (n + 1) + 1 by omega, runF, if_neg (fun h => by rw [Hl.out] at h; exact c2 h.1)]⟩
        go_wp2_with fail
        go_quiet (fail)
        go_wp2_with fail
        go_ret
        exact ⟨by rw [HF2.out]; rfl, _, World.drewN_drewN _ _ _⟩
    · have c1' : decide ((n : Int) < 130) = false := by simp; omega
      have HF2 : Kp (run s.data.toList a = n) := ⟨by
        rw [HF.out, show 130 - n = 0 by omega]; rfl⟩
      go_wp2_with fail
      go_quiet (fail)
      go_wp2_with fail
      go_ret
      exact ⟨by rw [HF2.out]; rfl, _, World.drewN_drewN _ _ _⟩

set_option maxRecDepth 100000 in
set_option maxHeartbeats 1000000 in
theorem three_any (s : ByteArray) (a : Nat) (w : World) (hs : s.size ≤ 140737488351232) (has : a ≤ s.size) :
    Calls Try.prog 15 #[.string s, .int .i64 a] w fun e w' => e = .returned (.bool (three s.data.toList a)) ∧ ∃ n, w' = w.drewN n := by
  have hl : s.data.toList.length = s.size := by rw [Array.length_toList]; rfl
  have Hl := Kp.mk hl
  clear hl
  obtain ⟨t, ht⟩ : ∃ t, three s.data.toList a = t := ⟨_, rfl⟩
  rw [ht]
  have hw1 : IntKind.i64.wrap ((a : Int) + 2) = (a : Int) + 2 := IntWalk.i64_in _ (by omega)
  have hw2 : IntKind.i64.wrap ((a : Int) + 1) = (a : Int) + 1 := IntWalk.i64_in _ (by omega)
  by_cases c1 : a + 2 < s.size
  · have c1' : decide ((a : Int) + 2 < s.size) = true := by simp; omega
    have g0 : (0 : Int) ≤ (a : Int) + 2 := by omega
    have g1 : (a : Int) + 2 < s.size := by omega
    have g2 : ((a : Int) + 2).toNat = a + 2 := by omega
    have g3 : (a : Int) < s.size := by omega
    have g4 : (0 : Int) ≤ (a : Int) + 1 := by omega
    have g5 : (a : Int) + 1 < s.size := by omega
    have g6 : ((a : Int) + 1).toNat = a + 1 := by omega
    have g7 : a < s.size := by omega
    have g8 : a + 1 < s.size := by omega
    by_cases c2 : at_ s.data.toList a = at_ s.data.toList (a + 1)
    · have c2' : (((s[a]).toNat : Int) == ((s[a + 1]).toNat : Int)) = true := by rw [byte_at s _ g7, byte_at s _ g8, c2]; simp
      by_cases c3 : at_ s.data.toList a = at_ s.data.toList (a + 2)
      · have c3' : (((s[a]).toNat : Int) == ((s[a + 2]).toNat : Int)) = true := by rw [byte_at s _ g7, byte_at s _ c1, c3]; simp
        have ht2 : t = true := by rw [← ht]; unfold three; rw [Hl.out]; simp [c1, ← c2, ← c3]
        subst ht2
        clear c2 c3 ht
        go_enter Try.func15, Try.ntmps15
        go_wp2_with fail
        go_quiet (fail)
        go_wp2_with fail
        go_ret
        exact ⟨rfl, _, rfl⟩
      · have c3' : (((s[a]).toNat : Int) == ((s[a + 2]).toNat : Int)) = false := by
          rw [byte_at s _ g7, byte_at s _ c1]
          simp only [beq_eq_false_iff_ne, ne_eq, Int.natCast_inj]
          exact fun h => c3 (UInt8.toNat_inj.1 h)
        have ht2 : t = false := by rw [← ht]; unfold three; rw [Hl.out]; simp [c3]
        subst ht2
        clear c2 c3 ht
        go_enter Try.func15, Try.ntmps15
        go_wp2_with fail
        go_quiet (fail)
        go_wp2_with fail
        go_ret
        exact ⟨rfl, _, rfl⟩
    · have c2' : (((s[a]).toNat : Int) == ((s[a + 1]).toNat : Int)) = false := by
        rw [byte_at s _ g7, byte_at s _ g8]
        simp only [beq_eq_false_iff_ne, ne_eq, Int.natCast_inj]
        exact fun h => c2 (UInt8.toNat_inj.1 h)
      have ht2 : t = false := by rw [← ht]; unfold three; rw [Hl.out]; simp [c2]
      subst ht2
      clear c2 ht
      go_enter Try.func15, Try.ntmps15
      go_wp2_with fail
      go_quiet (fail)
      go_wp2_with fail
      go_ret
      exact ⟨rfl, _, rfl⟩
  · have c1' : decide ((a : Int) + 2 < s.size) = false := by simp; omega
    have ht2 : t = false := by rw [← ht]; unfold three; rw [Hl.out]; simp [c1]
    subst ht2
    clear ht
    go_enter Try.func15, Try.ntmps15
    go_wp2_with fail
    go_quiet (fail)
    go_wp2_with fail
    go_ret
    exact ⟨rfl, _, rfl⟩

end Go.Proofs.Ytnbihffkaagmjaa.RunsP
