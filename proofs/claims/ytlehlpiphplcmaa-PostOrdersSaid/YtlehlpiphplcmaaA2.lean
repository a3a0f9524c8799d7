/-
  (*Poster).Out.
-/
import Derived.Test.YtlehlpiphplcmaaS1
namespace Go.Proofs.Ytlehlpiphplcmaa.PostP
open Go.RowKit Go.PostLaws Go.Maps
set_option linter.unusedVariables false

/-- a poster, as it lies -/
structure Po (w : World) (M B n : Nat) (P W : Int) (h : Int → Option Int) : Prop where
  r : w.heap[B]? = some (.cells #[.int .i64 P, .int .i64 W, .map (some M)] 40 (0, 0))
  m : Mh w M n h

namespace Po
variable {w w' : World} {M B n : Nat} {P W : Int} {h : Int → Option Int}
theorem c0 (k : Po w M B n P W h) : w.cell? ⟨B, 0, none⟩ = some (.int .i64 P) := by rw [cell_of_row w _ 0 _ _ _ k.r]; rfl
theorem c1 (k : Po w M B n P W h) : w.cell? ⟨B, 1, none⟩ = some (.int .i64 W) := by rw [cell_of_row w _ 1 _ _ _ k.r]; rfl
theorem c2 (k : Po w M B n P W h) : w.cell? ⟨B, 2, none⟩ = some (.map (some M)) := by rw [cell_of_row w _ 2 _ _ _ k.r]; rfl
theorem lt (k : Po w M B n P W h) : B < w.heap.size := lt_of_block k.r
theorem below (k : Po w M B n P W h) (b : Below w.heap.size w w') : Po w' M B n P W h :=
  ⟨(b.block B k.lt).trans k.r, k.m.of_block (b.block M k.m.lt)⟩
theorem mono (k : Po w M B n P W h) {n' : Nat} (hn : n ≤ n') : Po w M B n' P W h := ⟨k.r, k.m.mono hn⟩
end Po

theorem grown_low {w w' : World} {B : Nat} {row : Option Nat} (h : w.grownBy w' row) (hr : ∀ j, row = some j → B ≤ j) (hB : B ≤ w.heap.size) : Below B w w' :=
  ⟨h.os, h.tape, h.output, h.size, fun j hj => h.block j (by omega) (fun e => by have := hr j e.symm; omega)⟩

set_option maxRecDepth 100000 in
set_option maxHeartbeats 8000000 in
theorem out_any {w : World} {M B n : Nat} {P W : Int} {h : Int → Option Int} (hP : Po w M B n P W h) (hn : n ≤ 1073741824) :
    Calls Try.prog 10 #[.pointer (some ⟨B, 0, none⟩)] w fun e w' => ∃ (A : Option Addr) (c : Nat) (zs : List Int), e = .returned (.slice A zs.length c) ∧ OwnI w' (w.heap.size + 1) (.slice A zs.length c) zs ∧ (∀ k, (h k).isSome = true → k ∈ zs) ∧ zs.length ≤ n ∧ (∀ z ∈ zs, -9223372036854775808 ≤ z ∧ z ≤ 9223372036854775807) ∧ Below w.heap.size w w' := by
  obtain ⟨D, k1, k2, k3, k4⟩ := hP.m.out
  have c2 := hP.c2
  have hMl := hP.m.lt
  have hsz := k1.size_le
  have K1 := Kp.mk k1
  clear k1
  go_enter Try.func10, Try.ntmps10
  go_wp2_with (first
    | (at_range; refine wpList_range_own _ rfl _ 38 rfl 3 3 law3 Try.underlying38 _ M n D rfl K1.out ?_; intro w0 hrg0 hg0 hs0)
    | go_in)
  go_frame
  have Hb0 : Kp (Below w.heap.size w w0) := ⟨grown_low hg0 (fun j e => by cases e) (Nat.le_refl _)⟩
  have Hrg0 := Kp.mk hrg0
  have hs0' : w.heap.size + 1 ≤ w0.heap.size := by omega
  have Hs0 := Kp.mk hs0'
  clear hs0 hg0 hrg0 hs0'
  go_loopw [3] (fun v3 wr => ∃ (left : Lit → Bool) (cnt : Nat) (A : Option Addr) (c : Nat) (zs : List Int), v3 = .slice A zs.length c ∧ wr.ranges Try.prog 3 (plainElem Try.prog 3) M w.heap.size n D left cnt ∧ OwnI wr (w.heap.size + 1) (.slice A zs.length c) zs ∧
      (∀ k, has D (.int .i64 k) = true → left (.int .i64 k) = false → k ∈ zs) ∧ zs.length + cnt ≤ size D ∧ (∀ z ∈ zs, -9223372036854775808 ≤ z ∧ z ≤ 9223372036854775807) ∧ Below w.heap.size w wr ∧ w.heap.size + 1 ≤ wr.heap.size) (fun _ wr => wr.rangeLeft M w.heap.size)
  case atStart => exact ⟨_, _, none, 0, [], rfl, Hrg0.out, nilI _ _, (fun k h1 h2 => by rw [h1] at h2; cases h2), by simp, (fun z hz => by cases hz), Hb0.out, Hs0.out⟩
  case round =>
    obtain ⟨left, cnt, A, c, zs, rfl, hrg, ho, hall, hcs, hin, hbl, hws⟩ := hrel
    have Hrg := Kp.mk hrg
    have Ho := Kp.mk ho
    have Hbl := Kp.mk hbl
    have Hall := Kp.mk hall
    have Hin := Kp.mk hin
    clear hrg ho hbl hall hin
    go_wp2_with (first
      | (at_next; refine wpList_next_ranges_ii _ rfl _ rfl 3 3 .i64 .i64 law3 Try.underlying3 Try.underlying3 M w.heap.size n _ _ _ rfl Hrg.out ?_ ?_)
      | go_in)
    · intro hc0 hl0
      have hsort := Kp.mk (sort_any Ho.out (by omega))
      have Hl0 := Kp.mk hl0
      clear hl0
      go_wp2_with (go_at_call 12; refine (hsort.out).mono ?_; rintro e w3 ⟨rfl, ts, hl, hmem, ho3, hg3⟩; have Ho3 := Kp.mk ho3; have Hg3 := Kp.mk hg3; have Hmem := Kp.mk hmem; have Hlt := Kp.mk hl; clear ho3 hg3 hmem hl)
      go_ret
      have hl := Hlt.out
      refine ⟨A, c, ts, by rw [hl]; rfl, by rw [hl]; exact Ho3.out, fun k hk => (Hmem.out k).2 (Hall.out k (by rw [k3]; exact hk) (Hl0.out _)), by omega, fun z hz => Hin.out z ((Hmem.out z).1 hz), Hbl.out.trans (grown_low Hg3.out (fun j e => by have := (World.ownsRow.lt Ho.out j e).1; omega) (by omega))⟩
    · intro x y w1 cnt1 hwx hwc hlx hat hrg1 hlt hg1 hs1 hen
      have hxr : -9223372036854775808 ≤ x ∧ x ≤ 9223372036854775807 := by simpa [Lit.wf, IntKind.min, IntKind.max, IntKind.signed, IntKind.bits] using hwx
      have Hb1 : Kp (Below w.heap.size w w1) := ⟨Hbl.out.trans (grown_low hg1 (fun j e => by cases e; exact Nat.le_refl _) (by omega))⟩
      have ho1 : OwnI w1 (w.heap.size + 1) (.slice A zs.length c) zs := World.ownsRow.kept Ho.out hg1 (by
        cases hA : (Value.slice A zs.length c).ownBlock with
        | none => exact .inl rfl
        | some g => exact .inr (fun e => by have := (World.ownsRow.lt Ho.out g hA).1; cases e; omega))
      have Ho1 := Kp.mk ho1
      have hws1 : w.heap.size + 1 ≤ w1.heap.size := by omega
      have Hrg1 := Kp.mk hrg1
      clear hs1 hg1 hrg1 ho1 hwx hwc
      go_wp2_with (first
        | (at_builtin; refine list_int rfl (.tmp 16) (.tmp 18) rfl (w.heap.size + 1) (.slice A zs.length c) zs rfl (ownI_kept Ho1.out ((Below.refl w1.heap.size w1).alloc (Nat.le_refl _) _) (Nat.le_refl _)) w1.heap.size x rfl (heap_alloc_new w1 _) (by omega) (by simp; omega) ?_; intro A2 c2 w2 ho2 hg2 hb2; have Ho2 := Kp.mk ho2; have Hg2 := Kp.mk hg2; have Hb2 := Kp.mk hb2; clear ho2 hg2 hb2; go_frame)
        | go_in)
      have hrg2 : w2.ranges Try.prog 3 (plainElem Try.prog 3) M w.heap.size n D (fun z => left z && !z.sameKey (.int .i64 x)) cnt1 := by
        refine (Hrg1.out.alloc _).kept Hg2.out ?_ ?_
        · intro e
          have := (World.ownsRow.lt Ho1.out M e.symm).1
          omega
        · intro e
          have := (World.ownsRow.lt Ho1.out w.heap.size e.symm).1
          omega
      go_roundw
      case measure => rw [hrg2.left_eq, Hrg.out.left_eq]; exact hlt
      case rel =>
        refine ⟨_, cnt1, A2, c2, zs ++ [x], by simp, hrg2, Ho2.out, fun k h1 h2 => ?_, by simp; omega, fun z hz => ?_, (Hb1.out.alloc (by omega) _).trans (Hb2.out.mono (by omega)), by have := Hb2.out.size; simp at this; omega⟩
        · by_cases hk : k = x
          · rw [hk]; simp
          · refine List.mem_append_left _ (Hall.out k h1 ?_)
            have : (Lit.int .i64 k).sameKey (.int .i64 x) = false := sameKey_ne (by simpa using hk)
            rw [this] at h2
            simpa using h2
        · rcases List.mem_append.1 hz with hz | hz
          · exact Hin.out z hz
          · simp at hz; rw [hz]; exact hxr
end Go.Proofs.Ytlehlpiphplcmaa.PostP
