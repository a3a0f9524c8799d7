/-
  The laws of layer 6: walks.
-/
import Derived.Test.YtnbihffkaagmjaaC11
import Derived.Test.YtnbihffkaagmjaaC5
import Derived.Test.YtnbihffkaagmjaaC6
import Derived.Test.YtnbihffkaagmjaaC7
namespace Go.Proofs.Ytnbihffkaagmjaa.RunsP
open Go.RowKit Go.RunLaws Go.Proofs.Ytnbihffkaagmjaa.Pl
set_option linter.unusedVariables false


set_option maxHeartbeats 4000000 in
theorem law_back (s : ByteArray) (less : Int) (w : World) (hs : s.size ≤ 140737488351232) (h1 : -9223372036854775808 ≤ less) (h2 : less ≤ 9223372036854775807) :
    Calls Try.prog 5 #[.string s, .int .i64 less] w fun e w' => e = .returned (.bool true) ∧ Below w.heap.size w w' := by
  have hl := strOf_size_le s hs
  have hls : s.data.toList.length = s.size := by rw [Array.length_toList]; rfl
  have hb := unpack_back s.data.toList
  rw [hls] at hb
  have hless : 1 ≤ less → less ≤ s.size → unpack (pack s.data.toList) ((s.size : Int) - less) = ([], 3) := fun a b => unpack_less _ _ (by omega) (by rw [hls]; omega)
  obtain ⟨p, hp⟩ : ∃ p, strOf (pack s.data.toList) = p := ⟨_, rfl⟩
  have H1 : Kp (∀ W, Calls Try.prog 9 #[.string s] W fun e w' => e = .returned (.string p) ∧ Below W.heap.size W w') := ⟨fun W => by rw [← hp]; exact pack_any s W hs⟩
  rw [show pack s.data.toList = p.data.toList by rw [← hp]; rfl] at hb hless
  rw [hp] at hl
  have hf : ∀ m : Int, m ≤ s.size → ∀ n : Nat, (n : Int) ≤ m → n ≤ 65 * p.size → Fit n := fun m hm n h _ => by unfold Fit; omega
  have H2 : Kp (∀ W, Calls Try.prog 11 #[.string p, .int .i64 s.size] W fun e w' => e = .returned (.tuple #[.string s, .int .i64 0]) ∧ Below W.heap.size W w') := ⟨fun W => by
    have := unpack_any p s.size W (by omega) (by omega) (by omega) (hf _ (Int.le_refl _))
    rw [hb] at this
    exact this⟩
  clear hp hb
  by_cases c : 1 ≤ less ∧ less ≤ s.size
  · have H3 : Kp (∀ W, Calls Try.prog 11 #[.string p, .int .i64 ((s.size : Int) - less)] W fun e w' => e = .returned (.tuple #[.string ⟨#[]⟩, .int .i64 3]) ∧ Below W.heap.size W w') := ⟨fun W => by
      have := unpack_any p ((s.size : Int) - less) W (by omega) (by omega) (by omega) (hf _ (by omega))
      rw [hless c.1 c.2] at this
      exact this⟩
    have c1 : decide (less < 1) = false := by simp; omega
    have c2 : decide ((s.size : Int) < less) = false := by simp; omega
    have hw : IntKind.i64.wrap ((s.size : Int) - less) = (s.size : Int) - less := IntWalk.i64_in _ (by omega)
    clear hless hf hls hl
    go_enter Try.func5, Try.ntmps5
    go_wp2_with (first
      | (go_at_call 8; refine (awake_any _).mono ?_; rintro e w3 ⟨rfl, hk⟩; have Hb3 := Kp.mk hk; clear hk)
      | (go_at_call 9; refine (H1.out _).mono ?_; rintro e w1 ⟨rfl, hk⟩; have Hb1 := Kp.mk hk; clear hk)
      | (go_at_call 11; with_reducible refine (H2.out _).mono ?_; rintro e w2 ⟨rfl, hk⟩; have Hb2 := Kp.mk hk; clear hk)
      | (go_at_call 11; with_reducible refine (H3.out _).mono ?_; rintro e w4 ⟨rfl, hk⟩; have Hb4 := Kp.mk hk; clear hk))
    go_ret
    have b3 := (Hb1.out.trans (Hb2.out.mono Hb1.out.size)).trans (Hb3.out.mono (Hb1.out.trans (Hb2.out.mono Hb1.out.size)).size)
    exact ⟨rfl, b3.trans (Hb4.out.mono b3.size)⟩
  · clear hless hf hls hl
    by_cases d : less < 1
    · have c1 : decide (less < 1) = true := by simp; omega
      go_enter Try.func5, Try.ntmps5
      go_wp2_with (first
        | (go_at_call 8; refine (awake_any _).mono ?_; rintro e w3 ⟨rfl, hk⟩; have Hb3 := Kp.mk hk; clear hk)
        | (go_at_call 9; refine (H1.out _).mono ?_; rintro e w1 ⟨rfl, hk⟩; have Hb1 := Kp.mk hk; clear hk)
        | (go_at_call 11; with_reducible refine (H2.out _).mono ?_; rintro e w2 ⟨rfl, hk⟩; have Hb2 := Kp.mk hk; clear hk))
      go_ret
      exact ⟨rfl, (Hb1.out.trans (Hb2.out.mono Hb1.out.size)).trans (Hb3.out.mono (Hb1.out.trans (Hb2.out.mono Hb1.out.size)).size)⟩
    · have c1 : decide (less < 1) = false := by simp; omega
      have c2 : decide ((s.size : Int) < less) = true := by simp; omega
      go_enter Try.func5, Try.ntmps5
      go_wp2_with (first
        | (go_at_call 8; refine (awake_any _).mono ?_; rintro e w3 ⟨rfl, hk⟩; have Hb3 := Kp.mk hk; clear hk)
        | (go_at_call 9; refine (H1.out _).mono ?_; rintro e w1 ⟨rfl, hk⟩; have Hb1 := Kp.mk hk; clear hk)
        | (go_at_call 11; with_reducible refine (H2.out _).mono ?_; rintro e w2 ⟨rfl, hk⟩; have Hb2 := Kp.mk hk; clear hk))
      go_ret
      exact ⟨rfl, (Hb1.out.trans (Hb2.out.mono Hb1.out.size)).trans (Hb3.out.mono (Hb1.out.trans (Hb2.out.mono Hb1.out.size)).size)⟩

end Go.Proofs.Ytnbihffkaagmjaa.RunsP
