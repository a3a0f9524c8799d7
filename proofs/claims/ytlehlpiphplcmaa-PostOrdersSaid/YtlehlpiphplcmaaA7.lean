/-
  PostAgain.
-/
import Derived.Test.YtlehlpiphplcmaaA6
namespace Go.Proofs.Ytlehlpiphplcmaa.Pl
/-- what is known of one batch, told each n -/
def Ag (h : Int → Option Int) (L T : Int) (n k : Nat) : Prop := (k = 0 ∧ h L = none) ∨ ∃ j, j % n = 0 ∧ j < k ∧ k - j ≤ n ∧ h L = some (T + j)
theorem ag_due {h : Int → Option Int} {L T : Int} {n k : Nat} (ha : Ag h L T n k) : due n (T + k) (cutd h L (L + (0 : Nat))) = decide (k % n = 0) := by
  have e : cutd h L (L + (0 : Nat)) = h L := by unfold cutd; rw [if_neg (by omega)]; simp
  rw [e]
  rcases ha with ⟨rfl, h1⟩ | ⟨j, h1, h2, h3, h4⟩
  · rw [h1]; simp [due]
  · rw [h4]
    have e1 : decide (T + (k : Int) < T + j) = false := by simp; omega
    rw [due, e1, Bool.false_or]
    by_cases hk : k - j = n
    · have : k % n = 0 := by rw [show k = j + n by omega, Nat.add_mod_right]; exact h1
      simp [this]
      omega
    · have h5 : k % n = k - j := by
        have := Nat.div_add_mod j n
        rw [h1, Nat.add_zero] at this
        rw [show k = n * (j / n) + (k - j) by omega, Nat.mul_add_mod, Nat.mod_eq_of_lt (by omega)]
        omega
      have : ¬ k % n = 0 := by omega
      simp [this]
      omega
theorem ag_told {h : Int → Option Int} {L T : Int} {n k : Nat} (hn : 1 ≤ n) (ha : Ag h L T n k) (hk : k % n = 0) : told n (T + k) (cutd h L) L 1 = [L] ∧ Ag (aft n (T + k) (cutd h L) L 1) L T n (k + 1) := by
  have hd := ag_due ha
  rw [decide_eq_true hk] at hd
  refine ⟨by rw [told, if_pos hd, told]; simp, .inr ⟨k, hk, by omega, by omega, ?_⟩⟩
  unfold aft
  have e : cutd h L L = cutd h L (L + (0 : Nat)) := by simp
  rw [if_pos ⟨by omega, by omega, by rw [e]; exact hd⟩]
theorem ag_not {h : Int → Option Int} {L T : Int} {n k : Nat} (ha : Ag h L T n k) (hk : ¬ k % n = 0) : told n (T + k) (cutd h L) L 1 = [] ∧ Ag (aft n (T + k) (cutd h L) L 1) L T n (k + 1) := by
  have hd := ag_due ha
  rw [decide_eq_false hk] at hd
  refine ⟨by rw [told, if_neg (by rw [hd]; decide), told], ?_⟩
  rcases ha with ⟨rfl, h1⟩ | ⟨j, h1, h2, h3, h4⟩
  · simp at hk
  · refine .inr ⟨j, h1, by omega, ?_, ?_⟩
    · have : k - j ≠ n := fun e => hk (by rw [show k = j + n by omega, Nat.add_mod_right]; exact h1)
      omega
    · unfold aft
      have e : cutd h L L = cutd h L (L + (0 : Nat)) := by simp
      rw [if_neg (fun hh => by have := hh.2.2; rw [e, hd] at this; cases this)]
      unfold cutd
      rw [if_neg (by omega)]
      exact h4
end Go.Proofs.Ytlehlpiphplcmaa.Pl
namespace Go.Proofs.Ytlehlpiphplcmaa.PostP
open Go.RowKit Go.PostLaws Go.Maps Go.Proofs.Ytlehlpiphplcmaa.Pl
set_option linter.unusedVariables false

set_option maxRecDepth 100000 in
set_option maxHeartbeats 8000000 in
theorem law_again (a t b : Nat) (w : World) (ha : a < 256) (ht : t < 65536) (hb : b < 256) : Calls Try.prog 4 #[.int .u8 a, .int .u16 t, .int .u8 b] w fun e w' => e = .returned (.bool true) ∧ Below w.heap.size w w' := by
  obtain ⟨P, hP⟩ : ∃ P, a % 40 + 1 = P := ⟨_, rfl⟩
  have hP1 : 1 ≤ P := by omega
  have hP2 : P ≤ 40 := by omega
  have hPi : (a : Int) % 40 + 1 = (P : Int) := by omega
  have hw1 : IntKind.i64.wrap (3 * (P : Int)) = 3 * (P : Int) := IntWalk.i64_in _ (by omega)
  have hw2 : IntKind.i64.wrap ((b : Int) + 1) = (b : Int) + 1 := IntWalk.i64_in _ (by omega)
  have hPz : ((P : Int) == 0) = false := by simp; omega
  have hPz2 : (P : Int) ≠ 0 := by omega
  have Hnew := Kp.mk (new_any w P 1 (by omega) (by omega) (by omega) (by omega))
  clear hP
  go_enter Try.func4, Try.ntmps4
  go_wp2_with (first
    | (go_at_call 7; refine (Hnew.out).mono ?_; rintro e w1 ⟨rfl, hP, hbl, hz⟩; have HP1 := Kp.mk hP; have Hb1 := Kp.mk hbl; clear hP hbl)
    | (go_at_call 8; refine (awake_b _ HP1.out).mono ?_; rintro e w2 ⟨rfl, hbl, hP⟩; have HP2 := Kp.mk hP; have Hb2 := Kp.mk (Hb1.out.trans (hbl.mono (by omega))); have hs2 := hbl.size; clear hP hbl))
  clear hPi
  go_loopw [12] (fun v12 wr => ∃ (k n : Nat) (h : Int → Option Int), v12 = .int .i64 k ∧ k ≤ 3 * P ∧ n ≤ 64 * k ∧ Kp (Po wr w.heap.size (w.heap.size + 1) n P 1 h) ∧ Kp (Hi h) ∧ Kp (Ag h b t P k) ∧ Kp (Below w.heap.size w wr) ∧ w.heap.size + 2 ≤ wr.heap.size) (fun v12 _ => 3 * P - (intOf v12).toNat)
  case atStart => exact ⟨0, 0, _, rfl, Nat.zero_le _, Nat.zero_le _, HP2, ⟨Hi.none⟩, ⟨.inl ⟨rfl, rfl⟩⟩, Hb2, by omega⟩
  case round =>
    clear HP1 HP2 Hb1 Hb2
    obtain ⟨k, n, h, rfl, hk, hn, HP, HHi, HA, Hbl, hws⟩ := hrel
    by_cases hkK : k < 3 * P
    · have d1 : decide ((k : Int) < 3 * (P : Int)) = true := by simp; omega
      have wk : IntKind.i64.wrap ((k : Int) + 1) = (k : Int) + 1 := IntWalk.i64_in _ (by omega)
      have wt : IntKind.i64.wrap ((t : Int) + k) = (t : Int) + k := IntWalk.i64_in _ (by omega)
      have e1 : reach (1 : Int) (b : Int) ((b : Int) + 1) = 1 := by unfold reach; omega
      have Hlook := look_any HP.out ((t : Int) + k) (b : Int) ((b : Int) + 1) (by omega) (by omega) (by omega) (by omega) (by omega) (by omega) (by omega) (by omega) (by omega) (by omega) HHi.out (by omega)
      rw [e1] at Hlook
      have Hi2 : Kp (Hi (aft P ((t : Int) + k) (cutd h b) b 1)) := ⟨HHi.out.aft (by omega) (by omega)⟩
      clear e1
      obtain ⟨r, hr⟩ : ∃ r, k % P = r := ⟨_, rfl⟩
      have hr1 : (k : Int) % (P : Int) = (r : Int) := by rw [← hr]; omega
      have hr2 : (k : Int).tmod (P : Int) = (r : Int) := by rw [Int.tmod_eq_emod_of_nonneg (by omega), hr1]
      have hrP : r < P := by rw [← hr]; exact Nat.mod_lt _ (by omega)
      have wr1 : IntKind.i64.wrap (r : Int) = (r : Int) := IntWalk.i64_in _ (by omega)
      have Hr := Kp.mk hr
      clear hr
      by_cases hr0 : r = 0
      · have q1 : ((r : Int) == 0) = true := by simp; omega
        have q2 : decide (0 < r) = false := by simp; omega
        have hag := ag_told hP1 HA.out (by rw [Hr.out]; exact hr0)
        rw [hag.1] at Hlook
        have HL := Kp.mk Hlook
        have HA2 := Kp.mk hag.2
        clear hag Hlook
        go_wp2_with (go_at_call 9; refine (HL.out).mono ?_; rintro e w3 ⟨A, c, rfl, ho, hP, hf⟩; have Ho := Kp.mk ho; have HP3 := Kp.mk hP; have Hf := Kp.mk hf; have hs3 := hf.size; clear ho hP hf)
        obtain ⟨g, rfl⟩ := ownI_some Ho.out (by simp)
        have cz : w3.cell? ⟨g, 0, none⟩ = some (.int .i64 b) := ownI_cell Ho.out (show 0 < [(b : Int)].length by simp)
        go_quiet (fail)
        go_wp2_with fail
        go_roundw
        case measure => simp [intOf]; omega
        case rel => exact ⟨k + 1, n + 64, _, by go_num, by omega, by omega, ⟨HP3.out.below (belowN (Below.refl _ _) _)⟩, Hi2, HA2, ⟨belowN (Hbl.out.trans (Hf.out.below (Nat.le_refl _) (by omega))) _⟩, by simp; omega⟩
      · have q1 : ((r : Int) == 0) = false := by simp; omega
        have q2 : decide (0 < r) = true := by simp; omega
        have hag := ag_not HA.out (by rw [Hr.out]; exact hr0)
        rw [hag.1] at Hlook
        have HL := Kp.mk Hlook
        have HA2 := Kp.mk hag.2
        clear hag Hlook
        go_wp2_with (go_at_call 9; refine (HL.out).mono ?_; rintro e w3 ⟨A, c, rfl, ho, hP, hf⟩; have HP3 := Kp.mk hP; have Hf := Kp.mk hf; have hs3 := hf.size; clear ho hP hf)
        go_quiet (fail)
        go_wp2_with fail
        go_roundw
        case measure => simp [intOf]; omega
        case rel => exact ⟨k + 1, n + 64, _, by go_num, by omega, by omega, ⟨HP3.out.below (belowN (Below.refl _ _) _)⟩, Hi2, HA2, ⟨belowN (Hbl.out.trans (Hf.out.below (Nat.le_refl _) (by omega))) _⟩, by simp; omega⟩
    · have d1 : decide ((k : Int) < 3 * (P : Int)) = false := by simp; omega
      go_wp2_with fail
      go_ret
      exact ⟨rfl, Hbl.out⟩
end Go.Proofs.Ytlehlpiphplcmaa.PostP
