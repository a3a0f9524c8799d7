/-
  PostCovers.
-/
import Derived.Test.YtlehlpiphplcmaaA5
namespace Go.Proofs.Ytlehlpiphplcmaa.Pl
theorem told_all {P H L : Int} {h : Int → Option Int} : ∀ m : Nat, (∀ i : Nat, i < m → h (L + i) = none) → told P H h L m = (List.range m).map fun i : Nat => L + (i : Int)
  | 0, _ => rfl
  | m + 1, hh => by
    rw [told, hh m (Nat.lt_succ_self _), if_pos (show due P H none = true from rfl), told_all m (fun i hi => hh i (by omega)), List.range_succ, List.map_append]
    rfl
/-- told ahead of L only -/
def Lo (h : Int → Option Int) (L : Int) : Prop := ∀ k v, h k = some v → k < L
theorem Lo.cut {h : Int → Option Int} {L : Int} (hl : Lo h L) : cutd h L = fun _ => none := by
  funext k
  unfold cutd
  by_cases hk : k < L
  · rw [if_pos hk]
  · rw [if_neg hk]
    cases hh : h k with
    | none => rfl
    | some v => exact absurd (hl k v hh) hk
theorem Lo.told {h : Int → Option Int} {L : Int} (hl : Lo h L) (P H : Int) (m : Nat) : told P H (cutd h L) L m = (List.range m).map fun i : Nat => L + (i : Int) := by
  rw [hl.cut]
  exact told_all m (fun i _ => rfl)
theorem Lo.aft {h : Int → Option Int} {L : Int} (hl : Lo h L) (P H : Int) (m : Nat) : Lo (aft P H (cutd h L) L m) (L + m) := by
  rw [hl.cut]
  intro k v e
  unfold Pl.aft at e
  split at e
  · omega
  · cases e
/-- how far one is behind k looks -/
def at_ (W C k : Nat) : Nat := min (k * W) C
theorem at_next (W C k : Nat) (hW : W ≤ 64) : at_ W C (k + 1) = at_ W C k + reach W (at_ W C k) C := by
  unfold at_ reach
  rw [Nat.add_mul]
  omega
theorem at_end (W C : Nat) (hW : 1 ≤ W) : at_ W C ((C + W - 1) / W) = C := by
  unfold at_
  have h1 : (C + W - 1) / W * W + (C + W - 1) % W = C + W - 1 := by rw [Nat.mul_comm]; exact Nat.div_add_mod _ _
  have h2 := Nat.mod_lt (C + W - 1) (show 0 < W by omega)
  omega
end Go.Proofs.Ytlehlpiphplcmaa.Pl
namespace Go.Proofs.Ytlehlpiphplcmaa.PostP
open Go.RowKit Go.PostLaws Go.Maps Go.Proofs.Ytlehlpiphplcmaa.Pl
set_option linter.unusedVariables false

theorem awake_b (w : World) {M B n : Nat} {P W : Int} {h : Int → Option Int} (hP : Po w M B n P W h) : Calls Try.prog 8 #[] w fun e w' => e = .returned (.bool true) ∧ Below w.heap.size w w' ∧ Po w' M B n P W h :=
  (awake_any w).mono fun e w' hh => ⟨hh.1, hh.2, hP.below hh.2⟩

set_option maxRecDepth 100000 in
set_option maxHeartbeats 8000000 in
theorem law_covers (a b : Nat) (w : World) (ha : a < 256) (hb : b < 256) : Calls Try.prog 5 #[.int .u8 a, .int .u8 b] w fun e w' => e = .returned (.bool true) ∧ Below w.heap.size w w' := by
  obtain ⟨W, hW⟩ : ∃ W, a % 64 + 1 = W := ⟨_, rfl⟩
  have hW1 : 1 ≤ W := by omega
  have hW2 : W ≤ 64 := by omega
  have hWi : (a : Int) % 64 + 1 = (W : Int) := by omega
  obtain ⟨K, hK⟩ : ∃ K, (b + W - 1) / W = K := ⟨_, rfl⟩
  have hKb : K ≤ 319 := by rw [← hK]; exact Nat.le_trans (Nat.div_le_self _ _) (by omega)
  have hend := at_end W b hW1
  rw [hK] at hend
  have Hend := Kp.mk hend
  have hKi : ((b : Int) + W - 1) / W = (K : Int) := by
    rw [show (b : Int) + W - 1 = ((b + W - 1 : Nat) : Int) by omega, ← Int.natCast_ediv, hK]
  have hKt : ((b : Int) + W - 1).tdiv W = (K : Int) := by
    rw [Int.tdiv_eq_ediv_of_nonneg (by omega), hKi]
  have hw1 : IntKind.i64.wrap ((b : Int) + W) = (b : Int) + W := IntWalk.i64_in _ (by omega)
  have hw2 : IntKind.i64.wrap ((b : Int) + W - 1) = (b : Int) + W - 1 := IntWalk.i64_in _ (by omega)
  have hw3 : IntKind.i64.wrap (K : Int) = (K : Int) := IntWalk.i64_in _ (by omega)
  have hWz : ((W : Int) == 0) = false := by simp; omega
  have hWz2 : (W : Int) ≠ 0 := by omega
  have Hnew := Kp.mk (new_any w 5 W (by omega) (by omega) (by omega) (by omega))
  clear hW hK hend
  go_enter Try.func5, Try.ntmps5
  go_wp2_with (first
    | (go_at_call 7; refine (Hnew.out).mono ?_; rintro e w1 ⟨rfl, hP, hbl, hz⟩; have HP1 := Kp.mk hP; have Hb1 := Kp.mk hbl; clear hP hbl)
    | (go_at_call 8; refine (awake_b _ HP1.out).mono ?_; rintro e w2 ⟨rfl, hbl, hP⟩; have HP2 := Kp.mk hP; have Hb2 := Kp.mk (Hb1.out.trans (hbl.mono (by omega))); have hs2 := hbl.size; clear hP hbl))
  clear hWi
  go_loopw [9, 10] (fun v9 v10 wr => ∃ (L k n : Nat) (h : Int → Option Int), v9 = .int .i64 L ∧ v10 = .int .i64 k ∧ k ≤ K ∧ n ≤ 64 * k ∧ L ≤ b ∧ Kp (L = at_ W b k) ∧ Kp (Po wr w.heap.size (w.heap.size + 1) n 5 W h) ∧ Kp (Hi h) ∧ Kp (Lo h L) ∧ Kp (Below w.heap.size w wr) ∧ w.heap.size + 2 ≤ wr.heap.size) (fun _ v10 _ => K - (intOf v10).toNat)
  case atStart => exact ⟨0, 0, 0, _, rfl, rfl, Nat.zero_le _, Nat.zero_le _, Nat.zero_le _, ⟨by unfold at_; omega⟩, HP2, ⟨Hi.none⟩, ⟨fun k v e => by cases e⟩, Hb2, by omega⟩
  case round =>
    clear HP1 HP2 Hb1 Hb2
    obtain ⟨L, k, n, h, rfl, rfl, hk, hn, hL, HL, HP, HHi, HLo, Hbl, hws⟩ := hrel
    by_cases hkK : k < K
    · have d1 : decide (k < K) = true := by simpa using hkK
      obtain ⟨m, hm⟩ : ∃ m, reach (W : Int) (L : Int) (b : Int) = m := ⟨_, rfl⟩
      have hm64 : m ≤ 64 ∧ L + m ≤ b := by rw [← hm]; unfold reach; omega
      have hnx := at_next W b k hW2
      rw [← HL.out, hm] at hnx
      have Hnx := Kp.mk hnx
      obtain ⟨ts, hts⟩ : ∃ ts, (List.range m).map (fun i : Nat => (L : Int) + (i : Int)) = ts := ⟨_, rfl⟩
      have htl : ts.length = m := by rw [← hts]; simp
      have Hlook : Kp (Calls Try.prog 9 #[.pointer (some ⟨w.heap.size + 1, 0, none⟩), .int .i64 k, .int .i64 L, .int .i64 b] wr fun e w' => ∃ (A : Option Addr) (c : Nat), e = .returned (.slice A ts.length c) ∧ OwnI w' wr.heap.size (.slice A ts.length c) ts ∧ Po w' w.heap.size (w.heap.size + 1) (n + 64) 5 W (aft 5 k (cutd h L) L m) ∧ Fr wr w' w.heap.size) := ⟨by
        have := look_any HP.out (k : Int) (L : Int) (b : Int) (by omega) (by omega) (by omega) (by omega) (by omega) (by omega) (by omega) (by omega) (by omega) (by omega) HHi.out (by omega)
        rw [hm, HLo.out.told, hts] at this
        exact this⟩
      have Hts : Kp (∀ i, i < m → ts.getD i 0 = (L : Int) + i) := ⟨fun i hi => by
        rw [← hts, List.getD_eq_getElem?_getD, List.getElem?_map, List.getElem?_range hi]
        rfl⟩
      have Hm := Kp.mk hm
      have wk : IntKind.i64.wrap ((k : Int) + 1) = (k : Int) + 1 := IntWalk.i64_in _ (by omega)
      have Htl := Kp.mk htl
      clear hm hnx hts htl
      go_wp2_with (go_at_call 9; refine (Hlook.out).mono ?_; rintro e w3 ⟨A, c, rfl, ho, hP, hf⟩; have Ho := Kp.mk ho; have HP3 := Kp.mk hP; have Hf := Kp.mk hf; have hs3 := hf.size; clear ho hP hf)
      obtain ⟨w4, rfl⟩ : ∃ w4, w4 = w3 := ⟨w3, rfl⟩
      go_loopw [9, 12] (fun v9 v12 wr => ∃ i : Nat, v9 = .int .i64 ((L : Int) + i) ∧ v12 = .int .i64 i ∧ i ≤ ts.length ∧ wr = w4) (fun _ v12 _ => ts.length - (intOf v12).toNat)
      case atStart => exact ⟨0, by simp, rfl, Nat.zero_le _, rfl⟩
      case round =>
        obtain ⟨i, rfl, rfl, hi, rfl⟩ := hrel
        by_cases him : i < ts.length
        · have d2 : decide (i < ts.length) = true := by simpa using him
          have him2 := Htl.out
          obtain ⟨g, rfl⟩ := ownI_some Ho.out (by omega)
          have cz := ownI_cell Ho.out him
          rw [Hts.out i (by omega)] at cz
          have i1 : (0 : Int) ≤ i := by omega
          have i2 : (i : Int) < ts.length := by omega
          have w5 : IntKind.i64.wrap ((i : Int) + 1) = (i : Int) + 1 := IntWalk.i64_in _ (by omega)
          have w6 : IntKind.i64.wrap ((L : Int) + i + 1) = (L : Int) + i + 1 := IntWalk.i64_in _ (by omega)
          clear him2
          go_wp2_with fail
          go_roundw
          case measure => simp [intOf]; omega
          case rel => exact ⟨i + 1, by simp; omega, by go_num, by omega, by first | rfl | trivial⟩
        · have d2 : decide (i < ts.length) = false := by simpa using him
          have hie : i = m := by have := Htl.out; omega
          go_wp2_with fail
          go_roundw
          case measure => simp [intOf]; omega
          case rel => exact ⟨L + i, k + 1, n + 64, _, by simp, by go_num, by omega, by omega, by omega, ⟨by rw [hie, Hnx.out]⟩, HP3, ⟨HHi.out.aft (by omega) (by omega)⟩, ⟨by rw [hie]; exact HLo.out.aft _ _ _⟩, ⟨Hbl.out.trans (Hf.out.below (Nat.le_refl _) (by omega))⟩, by omega⟩
    · have d1 : decide (k < K) = false := by simpa using hkK
      have hLb : L = b := by rw [HL.out, show k = K by omega]; exact Hend.out
      subst hLb
      have Hlook : Kp (Calls Try.prog 9 #[.pointer (some ⟨w.heap.size + 1, 0, none⟩), .int .i64 1000, .int .i64 L, .int .i64 L] wr fun e w' => ∃ (A : Option Addr) (c : Nat), e = .returned (.slice A 0 c) ∧ Fr wr w' w.heap.size) := ⟨by
        refine (look_any HP.out 1000 (L : Int) (L : Int) (by omega) (by omega) (by omega) (by omega) (by omega) (by omega) (by omega) (by omega) (by omega) (by omega) HHi.out (by omega)).mono ?_
        rintro e w' ⟨A, c, rfl, ho, hP, hf⟩
        have e0 : reach (W : Int) (L : Int) (L : Int) = 0 := by unfold reach; omega
        refine ⟨A, c, ?_, hf⟩
        rw [e0]
        rfl⟩
      go_wp2_with (go_at_call 9; refine (Hlook.out).mono ?_; rintro e w3 ⟨A, c, rfl, hf⟩; have Hf := Kp.mk hf; clear hf)
      go_ret
      exact ⟨by simp, Hbl.out.trans (Hf.out.below (Nat.le_refl _) (by omega))⟩
end Go.Proofs.Ytlehlpiphplcmaa.PostP
