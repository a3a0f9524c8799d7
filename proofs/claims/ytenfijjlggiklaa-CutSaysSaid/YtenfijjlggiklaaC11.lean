/-
  The walk of CutEnds.
-/
import Derived.Test.YtenfijjlggiklaaC9
import Derived.Deep.DeepCutAuto
namespace Go.Proofs.Ytenfijjlggiklaa.CutP
open Go.RowKit Go.CutLaws
set_option linter.unusedVariables false

theorem fitN_parts (p : Int) : ∀ (l : List Nat) (L : Int) (k : Nat), (k : Int) ≤ p → (fitN p L k l : Int) ≤ p
  | [], L, k, h => by simpa [fitN] using h
  | s :: l, L, k, h => by
    simp only [fitN]
    split
    · rename_i hc
      exact fitN_parts p l _ (k + 1) (by omega)
    · exact h
theorem fitN_ge (p : Int) : ∀ (l : List Nat) (L : Int) (k : Nat), k ≤ fitN p L k l
  | [], L, k => by simp [fitN]
  | s :: l, L, k => by
    simp only [fitN]
    split
    · have := fitN_ge p l (L - min L s) (k + 1)
      omega
    · exact Nat.le_refl _
theorem fitsR_pos {rs : List Rc} {ru : Ru} (h : ru.ok) (hn : rs ≠ []) : 1 ≤ fitsR rs ru := by
  unfold fitsR
  rw [if_pos h]
  match rs, hn with
  | r :: l, _ =>
    obtain ⟨h1, _⟩ := h
    simp only [List.map_cons, fitN]
    rw [if_pos ⟨by simp; omega, .inr trivial⟩]
    exact fitN_ge _ _ _ _
/-- nothing is due: what that means -/
theorem due_zero {rs : List Rc} {now : Int} {ru : Ru} (h : ru.ok) (hd : dueR rs now ru = 0) : fitsR rs ru = rs.length ∧ (rs.length : Int) < ru.parts ∧ ∀ r ∈ rs, isOldR now ru r = false := by
  by_cases hn : rs = []
  · subst hn
    have h0 : fitsR [] ru = 0 := by unfold fitsR; rw [if_pos h]; rfl
    obtain ⟨h1, _⟩ := h
    exact ⟨h0, by simp; omega, fun r hr => by simp at hr⟩
  · have h1 := fitsR_pos h hn
    have h2 := fitsR_le rs ru
    have h3 : (fitsR rs ru : Int) ≤ ru.parts := by
      unfold fitsR
      rw [if_pos h]
      exact fitN_parts _ _ _ _ (by obtain ⟨h1, _⟩ := h; omega)
    unfold dueR at hd
    by_cases hc : fitsR rs ru = 0 ∨ fitsR rs ru < rs.length ∨ (fitsR rs ru : Int) = ru.parts
    · rw [if_pos hc] at hd
      omega
    · rw [if_neg hc] at hd
      refine ⟨by omega, by omega, fun r hr => ?_⟩
      by_cases ha : rs.any (isOldR now ru) = true
      · rw [if_pos ha] at hd
        omega
      · simp only [Bool.not_eq_true, List.any_eq_false] at ha
        simpa using ha r hr
theorem due_le {rs : List Rc} {now : Int} {ru : Ru} : dueR rs now ru ≤ rs.length := by
  have := fitsR_le rs ru
  unfold dueR
  split
  · exact this
  · split <;> omega
theorem young {now : Int} {ru : Ru} {r : Rc} (h : ru.ok) (h0 : 0 ≤ now) (ho : isOldR now ru r = false) : now - ru.age < r.time ∧ (r.kind = 2 → now - ru.lag < r.time) := by
  obtain ⟨_, _, _, _, o5, o6, o7, o8⟩ := h
  unfold isOldR oldB at ho
  by_cases hk : r.kind = 2
  · rw [if_pos hk] at ho
    simp at ho
    have := ho (by omega)
    exact ⟨by omega, fun _ => by omega⟩
  · rw [if_neg hk] at ho
    simp at ho
    have := ho (by omega)
    exact ⟨by omega, fun h => absurd h hk⟩

/-- a cut of a slice of receipts -/
theorem LR.cut {w : World} {B : Nat} {b o : Nat} {rs : List Rc} (h : LR w B (some ⟨b, o, none⟩) rs) (n : Nat) : LR w B (some ⟨b, o + n * 68, none⟩) (rs.drop n) :=
  ⟨fun r hr => h.len r (List.mem_of_mem_drop hr), fun r hr => h.fit r (List.mem_of_mem_drop hr), fun r hr => h.one r (List.mem_of_mem_drop hr), fun hn => by
    have : 0 < rs.length := by
      rw [List.length_drop] at hn
      omega
    obtain ⟨b', o', e, hb, hc⟩ := h.head this
    injection e with e
    injection e with e1 e2
    subst e1 e2
    refine ⟨b, o + n * 68, rfl, hb, fun i r hr j v hv => ?_⟩
    rw [List.getElem?_drop] at hr
    have := hc (n + i) r hr j v hv
    rw [show o + (n + i) * 68 + j = o + n * 68 + i * 68 + j by omega] at this
    exact this⟩
theorem LR.empty (w : World) (B : Nat) (A : Option Addr) : LR w B A [] := ⟨fun r hr => by simp at hr, fun r hr => by simp at hr, fun r hr => by simp at hr, fun hn => by simp at hn⟩

/-- the law behind the first cut: at most 200 receipts -/
def Ends (A : Option Addr) (cap : Nat) (rs : List Rc) : Prop := rs.length ≤ 200 ∧ rs.length ≤ cap

set_option maxRecDepth 100000 in
set_option maxHeartbeats 8000000 in
theorem law_ends (rs0 : List Rc) (A0 : Option Addr) (cap0 : Nat) (now : Int) (ru : Ru) (w : World) (hl0 : LR w w.heap.size A0 rs0) (hm0 : rs0.length * 104 ≤ 140737488351232) (hcap0 : rs0.length ≤ cap0)
    (hn0 : -9223372036854775808 ≤ now) (hn1 : now ≤ 9223372036854775807) :
    Calls Try.prog 6 #[.slice A0 rs0.length cap0, .int .i64 now, ru.val] w fun e w' => e = .returned (.bool true) ∧ Below w.heap.size w w' := by
  obtain ⟨c, hc⟩ : ∃ c : Int, ru.chk = c := ⟨_, rfl⟩
  have Hc := Kp.mk hc
  have Hok : Kp (c = 0 → ru.ok) := ⟨fun h => by
    by_cases hk : ru.ok
    · exact hk
    · rw [Ru.chk, if_neg hk] at hc; omega⟩
  clear hc
  obtain ⟨p, b, a, l⟩ := ru
  unfold Ru.val
  dsimp only
  have hc2 : ∀ W, Calls Try.prog 10 #[.agg #[.int .i64 p, .int .i64 b, .int .i64 a, .int .i64 l]] W fun e w' => e = .returned (.int .i64 c) ∧ Below W.heap.size W w' := fun W => by
    have := rcheck_any ⟨p, b, a, l⟩ W
    rw [Hc.out] at this
    exact this
  have Hc2 := Kp.mk hc2
  have Hl0 := Kp.mk hl0
  clear hc2 hl0
  go_enter Try.func6, Try.ntmps6
  go_upto_if 12 with fail
  go_cut [0] (fun s0 wx => ∃ rs : List Rc, s0 = .slice A0 rs.length cap0 ∧ LR w w.heap.size A0 rs ∧ rs.length ≤ 200 ∧ rs.length ≤ cap0 ∧ wx = w.alloc (.cells #[.int .i64 p, .int .i64 b, .int .i64 a, .int .i64 l] 24))
  case first =>
    by_cases h200 : 200 < rs0.length
    · have h200' : decide (200 < rs0.length) = true := by simpa using h200
      have hll : (rs0.take 200).length = 200 := by rw [List.length_take]; omega
      have Hll := Kp.mk hll
      clear hll
      go_wp2_with fail
      go_meet
      exact ⟨rs0.take 200, by rw [Hll.out], Hl0.out.take 200, by rw [Hll.out]; omega, by rw [Hll.out]; omega, rfl⟩
    · have h200' : decide (200 < rs0.length) = false := by simpa using h200
      go_wp2_with fail
      go_meet
      exact ⟨rs0, rfl, Hl0.out, by omega, hcap0, rfl⟩
  case rest =>
    obtain ⟨rs, rfl, hl, hL, hcap, rfl⟩ := hcut
    have Hl := Kp.mk hl
    clear hl Hl0 hm0 hcap0
    by_cases hc0 : c = 0
    rotate_left
    · have hc0' : (c != 0) = true := by simpa using hc0
      clear Hok
      go_wp2_with fail
      refine (awake_any _).mono ?_
      rintro e w1 ⟨rfl, hb1⟩
      have HB1 : Kp (Below w.heap.size w w1) := ⟨((Below.refl _ w).alloc (Nat.le_refl _) _).trans (hb1.mono (by simp))⟩
      have hz1 : w.heap.size < w1.heap.size := by have := hb1.size; simp at this; omega
      have hbox : w1.heap[w.heap.size]? = some (.cells #[.int .i64 p, .int .i64 b, .int .i64 a, .int .i64 l] 24 (0, 0)) := (hb1.block _ (by simp)).trans (heap_alloc_new _ _)
      have k0 : w1.cell? ⟨w.heap.size, 0, none⟩ = some (.int .i64 p) := by rw [cell_of_row w1 _ 0 _ _ _ hbox]; rfl
      have k1 : w1.cell? ⟨w.heap.size, 1, none⟩ = some (.int .i64 b) := by rw [cell_of_row w1 _ 1 _ _ _ hbox]; rfl
      have k2 : w1.cell? ⟨w.heap.size, 2, none⟩ = some (.int .i64 a) := by rw [cell_of_row w1 _ 2 _ _ _ hbox]; rfl
      have k3 : w1.cell? ⟨w.heap.size, 3, none⟩ = some (.int .i64 l) := by rw [cell_of_row w1 _ 3 _ _ _ hbox]; rfl
      clear hb1 hbox
      go_wp2_with fail
      refine (Hc2.out _).mono ?_
      rintro e w2 ⟨rfl, hb2⟩
      have HB2 : Kp (Below w.heap.size w w2) := ⟨HB1.out.trans (hb2.mono (by omega))⟩
      clear hb2
      go_wp2_with fail
      refine (awake_any _).mono ?_
      rintro e w3 ⟨rfl, hb3⟩
      have HB3 : Kp (Below w.heap.size w w3) := ⟨HB2.out.trans (hb3.mono HB2.out.size)⟩
      clear hb3
      go_wp2_with fail
      go_ret
      exact ⟨rfl, HB3.out⟩
    have hok := Hok.out hc0
    subst hc0
    by_cases hneg : now < 0
    · go_wp2_with fail
      refine (awake_any _).mono ?_
      rintro e w1 ⟨rfl, hb1⟩
      have HB1 : Kp (Below w.heap.size w w1) := ⟨((Below.refl _ w).alloc (Nat.le_refl _) _).trans (hb1.mono (by simp))⟩
      have hz1 : w.heap.size < w1.heap.size := by have := hb1.size; simp at this; omega
      have hbox : w1.heap[w.heap.size]? = some (.cells #[.int .i64 p, .int .i64 b, .int .i64 a, .int .i64 l] 24 (0, 0)) := (hb1.block _ (by simp)).trans (heap_alloc_new _ _)
      have k0 : w1.cell? ⟨w.heap.size, 0, none⟩ = some (.int .i64 p) := by rw [cell_of_row w1 _ 0 _ _ _ hbox]; rfl
      have k1 : w1.cell? ⟨w.heap.size, 1, none⟩ = some (.int .i64 b) := by rw [cell_of_row w1 _ 1 _ _ _ hbox]; rfl
      have k2 : w1.cell? ⟨w.heap.size, 2, none⟩ = some (.int .i64 a) := by rw [cell_of_row w1 _ 2 _ _ _ hbox]; rfl
      have k3 : w1.cell? ⟨w.heap.size, 3, none⟩ = some (.int .i64 l) := by rw [cell_of_row w1 _ 3 _ _ _ hbox]; rfl
      clear hb1 hbox
      go_wp2_with fail
      refine (Hc2.out _).mono ?_
      rintro e w2 ⟨rfl, hb2⟩
      have HB2 : Kp (Below w.heap.size w w2) := ⟨HB1.out.trans (hb2.mono (by omega))⟩
      clear hb2
      go_wp2_with fail
      refine (awake_any _).mono ?_
      rintro e w3 ⟨rfl, hb3⟩
      have HB3 : Kp (Below w.heap.size w w3) := ⟨HB2.out.trans (hb3.mono HB2.out.size)⟩
      clear hb3
      go_wp2_with fail
      go_ret
      exact ⟨rfl, HB3.out⟩
    by_cases hbig : 1099511627776 < now
    · go_wp2_with fail
      refine (awake_any _).mono ?_
      rintro e w1 ⟨rfl, hb1⟩
      have HB1 : Kp (Below w.heap.size w w1) := ⟨((Below.refl _ w).alloc (Nat.le_refl _) _).trans (hb1.mono (by simp))⟩
      have hz1 : w.heap.size < w1.heap.size := by have := hb1.size; simp at this; omega
      have hbox : w1.heap[w.heap.size]? = some (.cells #[.int .i64 p, .int .i64 b, .int .i64 a, .int .i64 l] 24 (0, 0)) := (hb1.block _ (by simp)).trans (heap_alloc_new _ _)
      have k0 : w1.cell? ⟨w.heap.size, 0, none⟩ = some (.int .i64 p) := by rw [cell_of_row w1 _ 0 _ _ _ hbox]; rfl
      have k1 : w1.cell? ⟨w.heap.size, 1, none⟩ = some (.int .i64 b) := by rw [cell_of_row w1 _ 1 _ _ _ hbox]; rfl
      have k2 : w1.cell? ⟨w.heap.size, 2, none⟩ = some (.int .i64 a) := by rw [cell_of_row w1 _ 2 _ _ _ hbox]; rfl
      have k3 : w1.cell? ⟨w.heap.size, 3, none⟩ = some (.int .i64 l) := by rw [cell_of_row w1 _ 3 _ _ _ hbox]; rfl
      clear hb1 hbox
      go_wp2_with fail
      refine (Hc2.out _).mono ?_
      rintro e w2 ⟨rfl, hb2⟩
      have HB2 : Kp (Below w.heap.size w w2) := ⟨HB1.out.trans (hb2.mono (by omega))⟩
      clear hb2
      go_wp2_with fail
      refine (awake_any _).mono ?_
      rintro e w3 ⟨rfl, hb3⟩
      have HB3 : Kp (Below w.heap.size w w3) := ⟨HB2.out.trans (hb3.mono HB2.out.size)⟩
      clear hb3
      go_wp2_with fail
      go_ret
      exact ⟨rfl, HB3.out⟩
    have HO := Kp.mk hok
    obtain ⟨o1, o2, o3, o4, o5, o6, o7, o8⟩ := hok
    dsimp only at o1 o2 o3 o4 o5 o6 o7 o8
    go_wp2_with fail
    refine (awake_any _).mono ?_
    rintro e w1 ⟨rfl, hb1⟩
    have HB1 : Kp (Below w.heap.size w w1) := ⟨((Below.refl _ w).alloc (Nat.le_refl _) _).trans (hb1.mono (by simp))⟩
    have hz1 : w.heap.size < w1.heap.size := by have := hb1.size; simp at this; omega
    have hbox : w1.heap[w.heap.size]? = some (.cells #[.int .i64 p, .int .i64 b, .int .i64 a, .int .i64 l] 24 (0, 0)) := (hb1.block _ (by simp)).trans (heap_alloc_new _ _)
    have k0 : w1.cell? ⟨w.heap.size, 0, none⟩ = some (.int .i64 p) := by rw [cell_of_row w1 _ 0 _ _ _ hbox]; rfl
    have k1 : w1.cell? ⟨w.heap.size, 1, none⟩ = some (.int .i64 b) := by rw [cell_of_row w1 _ 1 _ _ _ hbox]; rfl
    have k2 : w1.cell? ⟨w.heap.size, 2, none⟩ = some (.int .i64 a) := by rw [cell_of_row w1 _ 2 _ _ _ hbox]; rfl
    have k3 : w1.cell? ⟨w.heap.size, 3, none⟩ = some (.int .i64 l) := by rw [cell_of_row w1 _ 3 _ _ _ hbox]; rfl
    have Hbox := Kp.mk hbox
    clear hb1 hbox
    go_wp2_with fail
    refine (Hc2.out _).mono ?_
    rintro e w2 ⟨rfl, hb2⟩
    have HB2 : Kp (Below w.heap.size w w2) := ⟨HB1.out.trans (hb2.mono (by omega))⟩
    have hz2 : w.heap.size < w2.heap.size := by have := hb2.size; omega
    have hbox2 : w2.heap[w.heap.size]? = some (.cells #[.int .i64 p, .int .i64 b, .int .i64 a, .int .i64 l] 24 (0, 0)) := (hb2.block _ hz1).trans Hbox.out
    have Hbox2 := Kp.mk hbox2
    clear hb2 hbox2 Hbox k0 k1 k2 k3
    go_wp2_with fail
    go_loopw [0, 7] (fun v n wr => ∃ (m k : Nat) (A : Option Addr) (cap : Nat), n = .int .i64 k ∧ v = .slice A (rs.length - m) cap ∧ k ≤ m ∧ m ≤ rs.length ∧ rs.length - m ≤ cap ∧ Kp (LR w2 w.heap.size A (rs.drop m)) ∧
      Below w2.heap.size w2 wr) (fun _ n wr => 300 - (intOf n).toNat)
    case atStart => exact ⟨0, 0, A0, cap0, rfl, rfl, Nat.le_refl _, Nat.zero_le _, by omega, ⟨by simpa using Hl.out.below HB2.out⟩, Below.refl _ _⟩
    case round =>
      obtain ⟨m, k, A, cap, rfl, rfl, hkm, hmL, hcp, HLm, hbw⟩ := hrel
      have hboxr : wr.heap[w.heap.size]? = some (.cells #[.int .i64 p, .int .i64 b, .int .i64 a, .int .i64 l] 24 (0, 0)) := (hbw.block _ hz2).trans Hbox2.out
      have k0 : wr.cell? ⟨w.heap.size, 0, none⟩ = some (.int .i64 p) := by rw [cell_of_row wr _ 0 _ _ _ hboxr]; rfl
      have k1 : wr.cell? ⟨w.heap.size, 1, none⟩ = some (.int .i64 b) := by rw [cell_of_row wr _ 1 _ _ _ hboxr]; rfl
      have k2 : wr.cell? ⟨w.heap.size, 2, none⟩ = some (.int .i64 a) := by rw [cell_of_row wr _ 2 _ _ _ hboxr]; rfl
      have k3 : wr.cell? ⟨w.heap.size, 3, none⟩ = some (.int .i64 l) := by rw [cell_of_row wr _ 3 _ _ _ hboxr]; rfl
      have Hboxr := Kp.mk hboxr
      have HLr := Kp.mk (HLm.out.below (hbw.mono (by omega)))
      have hk3 : decide ((k : Int) < 300) = true := by simp; omega
      have hlen : (rs.drop m).length = rs.length - m := by simp
      have Hlen := Kp.mk hlen
      have hwz : w2.heap.size ≤ wr.heap.size := hbw.size
      have HBr : Kp (Below w.heap.size w wr) := ⟨HB2.out.trans (hbw.mono (by omega))⟩
      have Hbw := Kp.mk hbw
      clear hboxr hlen hbw
      obtain ⟨d, hd⟩ : ∃ d, dueR (rs.drop m) now ⟨p, b, a, l⟩ = d := ⟨_, rfl⟩
      have hdl : d ≤ rs.length - m := by have := due_le (rs := rs.drop m) (now := now) (ru := ⟨p, b, a, l⟩); rw [hd, Hlen.out] at this; exact this
      have Hd := Kp.mk hd
      clear hd
      have HDue : Kp (Calls Try.prog 13 #[.slice A (rs.length - m) cap, .int .i64 now, .agg #[.int .i64 p, .int .i64 b, .int .i64 a, .int .i64 l]] wr fun e w' => e = .returned (.int .i64 d) ∧ Below wr.heap.size wr w') := ⟨by
        have := due_is (rs.drop m) A cap now ⟨p, b, a, l⟩ wr d (HLr.out.more (by omega)) (by rw [Hlen.out]; unfold maxLen; omega) hn0 hn1 (by rw [Hd.out])
        rw [Hlen.out] at this
        exact this⟩
      go_wp2_with fail
      refine HDue.out.mono ?_
      rintro e w3 ⟨rfl, hb3⟩
      have HB3 : Kp (Below w.heap.size w w3) := ⟨HBr.out.trans (hb3.mono (by omega))⟩
      have hz3 : w.heap.size < w3.heap.size := by have := hb3.size; omega
      have hbox3 : w3.heap[w.heap.size]? = some (.cells #[.int .i64 p, .int .i64 b, .int .i64 a, .int .i64 l] 24 (0, 0)) := (hb3.block _ (by omega)).trans Hboxr.out
      have Hbox3 := Kp.mk hbox3
      have Hb3 : Kp (Below w2.heap.size w2 w3) := ⟨Hbw.out.trans (hb3.mono (by omega))⟩
      clear hb3 hbox3 k0 k1 k2 k3
      have hd0 : (0 : Int) ≤ d := by omega
      have hdL : (d : Int) ≤ ((rs.length - m : Nat) : Int) := by omega
      have hdd : decide (rs.length - m < d) = false := by simp; omega
      by_cases hdz : d = 0
      · have hdz' : ((d : Int) == 0) = true := by simp [hdz]
        have HZ := due_zero (HO.out) (Hd.out.trans hdz)
        obtain ⟨z1, z2, z3⟩ := HZ
        rw [Hlen.out] at z1 z2
        dsimp only at z2
        have Z1 := Kp.mk z1
        have Z3 := Kp.mk z3
        subst hdz
        clear z1 z3 hd0 hdL hdd
        have hL3 : Kp (LR w3 w.heap.size A (rs.drop m)) := ⟨HLm.out.below (Hb3.out.mono (by omega))⟩
        go_wp2_with fail
        go_loopw [9] (fun n wr => ∃ i : Nat, n = .int .i64 i ∧ i ≤ rs.length - m ∧ Below w3.heap.size w3 wr) (fun n _ => rs.length - m - (intOf n).toNat)
        case atStart => exact ⟨0, rfl, Nat.zero_le _, Below.refl _ _⟩
        case round =>
          obtain ⟨i, rfl, hi, hbv⟩ := hrel
          have hboxv : wr.heap[w.heap.size]? = some (.cells #[.int .i64 p, .int .i64 b, .int .i64 a, .int .i64 l] 24 (0, 0)) := (hbv.block _ hz3).trans Hbox3.out
          have k0 : wr.cell? ⟨w.heap.size, 0, none⟩ = some (.int .i64 p) := by rw [cell_of_row wr _ 0 _ _ _ hboxv]; rfl
          have k1 : wr.cell? ⟨w.heap.size, 1, none⟩ = some (.int .i64 b) := by rw [cell_of_row wr _ 1 _ _ _ hboxv]; rfl
          have k2 : wr.cell? ⟨w.heap.size, 2, none⟩ = some (.int .i64 a) := by rw [cell_of_row wr _ 2 _ _ _ hboxv]; rfl
          have k3 : wr.cell? ⟨w.heap.size, 3, none⟩ = some (.int .i64 l) := by rw [cell_of_row wr _ 3 _ _ _ hboxv]; rfl
          have HLv : Kp (LR wr w.heap.size A (rs.drop m)) := ⟨hL3.out.below (hbv.mono (by omega))⟩
          have hvz : w3.heap.size ≤ wr.heap.size := hbv.size
          have Hbv := Kp.mk hbv
          clear hboxv hbv
          by_cases hlt : i < rs.length - m
          · obtain ⟨r, hr⟩ : ∃ r, (rs.drop m)[i]? = some r := ⟨_, List.getElem?_eq_getElem (by rw [Hlen.out]; exact hlt)⟩
            obtain ⟨y1, y2⟩ := young HO.out (by omega) (Z3.out r (List.mem_of_getElem? hr))
            dsimp only at y1 y2
            obtain ⟨bk, of, rfl, hbk, _, ck, ct, _, _, _⟩ := HLv.out.get hr
            have hlt' : decide (i < rs.length - m) = true := by simpa using hlt
            have hiL : (0 : Int) ≤ i := by omega
            have hiN : (i : Int) < ((rs.length - m : Nat) : Int) := by omega
            have hw1 : IntKind.i64.wrap (now - a) = now - a := IntWalk.i64_in _ (by omega)
            have hw2 : IntKind.i64.wrap (now - l) = now - l := IntWalk.i64_in _ (by omega)
            have y1' : decide (r.time ≤ now - a) = false := by simp; omega
            clear hr
            by_cases hk : r.kind = 2
            · have hk' : (r.kind == 2) = true := by simpa using hk
              have y2' : decide (r.time ≤ now - l) = false := by have := y2 hk; simp; omega
              clear y2 hk
              go_wp2_with fail
              go_quiet (fail)
              clear hw1 hw2
              go_wp2_with fail
              go_roundw
              case measure => simp [intOf]; omega
              case rel => exact ⟨i + 1, by go_num, by omega, below_drewN Hbv.out _⟩
            · have hk' : (r.kind == 2) = false := by simpa using hk
              clear y2 hk
              go_wp2_with fail
              go_quiet (fail)
              clear hw1 hw2
              go_wp2_with fail
              go_roundw
              case measure => simp [intOf]; omega
              case rel => exact ⟨i + 1, by go_num, by omega, below_drewN Hbv.out _⟩
          · have hlt' : decide (i < rs.length - m) = false := by simpa using hlt
            have HRF : Kp (Calls Try.prog 12 #[.slice A (rs.length - m) cap, .agg #[.int .i64 p, .int .i64 b, .int .i64 a, .int .i64 l]] wr fun e w' => e = .returned (.int .i64 ((rs.length - m : Nat) : Int)) ∧ Below wr.heap.size wr w') := ⟨by
              have := rfits_is (rs.drop m) A cap ⟨p, b, a, l⟩ wr ((rs.length - m : Nat) : Int) (HLv.out.more (by omega)) (by rw [Hlen.out]; unfold maxLen; omega) (by rw [Z1.out])
              rw [Hlen.out] at this
              exact this⟩
            have HBv : Kp (Below w.heap.size w wr) := ⟨HB3.out.trans (Hbv.out.mono (by omega))⟩
            go_wp2_with fail
            refine HRF.out.mono ?_
            rintro e w4 ⟨rfl, hb4⟩
            have HB4 : Kp (Below w.heap.size w w4) := ⟨HBv.out.trans (hb4.mono (by omega))⟩
            clear hb4
            go_wp2_with fail
            go_ret
            exact ⟨rfl, HB4.out⟩
      · have hdz' : ((d : Int) == 0) = false := by simpa using hdz
        obtain ⟨bk, of, rfl, hbk, _⟩ := HLr.out.head (by rw [Hlen.out]; omega)
        by_cases hcd : cap = d
        · go_wp2_with fail
          go_roundw
          case measure => simp [intOf]; omega
          case rel => exact ⟨m + d, k + 1, _, 0, by go_num, by rw [Nat.sub_sub], by omega, by omega, by omega, ⟨by rw [List.drop_of_length_le (by omega)]; exact LR.empty _ _ _⟩, Hb3.out⟩
        · go_wp2_with fail
          go_roundw
          case measure => simp [intOf]; omega
          case rel => exact ⟨m + d, k + 1, some ⟨bk, of + d * 68, none⟩, cap - d, by go_num, by rw [Nat.sub_sub], by omega, by omega, by omega, ⟨by rw [← List.drop_drop]; exact HLm.out.cut d⟩, Hb3.out⟩

end Go.Proofs.Ytenfijjlggiklaa.CutP
