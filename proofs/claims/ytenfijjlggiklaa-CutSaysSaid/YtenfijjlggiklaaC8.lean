/-
  Contract of awake.
-/
import Derived.Test.YtenfijjlggiklaaC3
import Derived.Test.YtenfijjlggiklaaC5
import Derived.Deep.RegionWith
namespace Go.Proofs.Ytenfijjlggiklaa.CutP
open Go.RowKit Go.CutLaws Go.Great
set_option linter.unusedVariables false

def rcz (k t : Int) (b : ByteArray) : Rc := ⟨0, k, t, b, List.replicate 64 (.int .u8 0)⟩

theorem built_t (t : Int) : Try.prog.built 44 [(2, .int .i64 t)] = some (rcz 0 t ⟨#[]⟩).cells.toArray := by kernel_rfl
theorem built_a : Try.prog.built 44 [(1, .int .i64 1), (3, .string ⟨#[97]⟩)] = some (rcz 1 0 ⟨#[97]⟩).cells.toArray := by kernel_rfl
theorem builtS_3 : Try.prog.builtSlice 44 3 [(0, .agg (rcz 0 3 ⟨#[]⟩).cells.toArray), (1, .agg (rcz 0 4 ⟨#[]⟩).cells.toArray), (2, .agg (rcz 0 4 ⟨#[]⟩).cells.toArray)] =
    some ((rcz 0 3 ⟨#[]⟩).cells ++ ((rcz 0 4 ⟨#[]⟩).cells ++ (rcz 0 4 ⟨#[]⟩).cells)).toArray := by kernel_rfl
theorem builtS_1 : Try.prog.builtSlice 44 1 [(0, .agg (rcz 1 0 ⟨#[97]⟩).cells.toArray)] = some (rcz 1 0 ⟨#[97]⟩).cells.toArray := by kernel_rfl

theorem rcz_ones (k t : Int) (b : ByteArray) : ∀ v ∈ (rcz k t b).rest, v.oneCell' = true := by
  intro v hv
  have : v = .int .u8 0 := List.eq_of_mem_replicate hv
  subst this
  rfl

/-- receipts one behind the other in a block -/
theorem LR.of_block {w : World} {b : Nat} {rs : List Rc} {C : Array Value} {t : TypeId} (hb : w.heap[b]? = some (.cells C t (0, 0))) (hl : ∀ r ∈ rs, r.rest.length = 64) (hf : ∀ r ∈ rs, r.body.size ≤ 140737488351232)
    (h1 : ∀ r ∈ rs, ∀ v ∈ r.rest, v.oneCell' = true) (hc : ∀ i r, rs[i]? = some r → ∀ j v, r.cells[j]? = some v → C[i * 68 + j]? = some v) : LR w w.heap.size (some ⟨b, 0, none⟩) rs :=
  ⟨hl, hf, h1, fun _ => ⟨b, 0, rfl, lt_of_block hb, fun i r hr j v hv => by
    rw [cell_of_row w b _ C t (0, 0) hb, Nat.zero_add]
    exact hc i r hr j v hv⟩⟩

def three : List Rc := [rcz 0 3 ⟨#[]⟩, rcz 0 4 ⟨#[]⟩, rcz 0 4 ⟨#[]⟩]
def one : List Rc := [rcz 1 0 ⟨#[97]⟩]

theorem get_three (i : Nat) (r : Rc) (hr : three[i]? = some r) (j : Nat) (v : Value) (hv : r.cells[j]? = some v) : ((rcz 0 3 ⟨#[]⟩).cells ++ ((rcz 0 4 ⟨#[]⟩).cells ++ (rcz 0 4 ⟨#[]⟩).cells)).toArray[i * 68 + j]? = some v := by
  have hl : ∀ k t b, (rcz k t b).cells.length = 68 := fun k t b => rfl
  have hj : j < r.cells.length := (List.getElem?_eq_some_iff.1 hv).1
  rw [List.getElem?_toArray]
  match i, hr with
  | 0, hr =>
    obtain rfl : rcz 0 3 ⟨#[]⟩ = r := by simpa [three] using hr
    rw [hl] at hj
    rw [List.getElem?_append_left (by rw [hl]; omega), show 0 * 68 + j = j by omega]
    exact hv
  | 1, hr =>
    obtain rfl : rcz 0 4 ⟨#[]⟩ = r := by simpa [three] using hr
    rw [hl] at hj
    rw [List.getElem?_append_right (by rw [hl]; omega), List.getElem?_append_left (by rw [hl, hl]; omega), hl, show 1 * 68 + j - 68 = j by omega]
    exact hv
  | 2, hr =>
    obtain rfl : rcz 0 4 ⟨#[]⟩ = r := by simpa [three] using hr
    rw [hl] at hj
    rw [List.getElem?_append_right (by rw [hl]; omega), List.getElem?_append_right (by rw [hl, hl]; omega), hl, hl, show 2 * 68 + j - 68 - 68 = j by omega]
    exact hv
  | (i + 3), hr => simp [three] at hr

theorem three_ok : (∀ r ∈ three, r.rest.length = 64) ∧ (∀ r ∈ three, r.body.size ≤ 140737488351232) ∧ ∀ r ∈ three, ∀ v ∈ r.rest, v.oneCell' = true := by
  refine ⟨?_, ?_, ?_⟩
  · intro r hr; simp [three] at hr; rcases hr with rfl | rfl <;> rfl
  · intro r hr; simp [three] at hr; rcases hr with rfl | rfl <;> decide
  · intro r hr; simp [three] at hr; rcases hr with rfl | rfl <;> exact rcz_ones _ _ _

theorem LR.take {w : World} {B : Nat} {A : Option Addr} {rs : List Rc} (h : LR w B A rs) (n : Nat) : LR w B A (rs.take n) :=
  ⟨fun r hr => h.len r (List.mem_of_mem_take hr), fun r hr => h.fit r (List.mem_of_mem_take hr), fun r hr => h.one r (List.mem_of_mem_take hr), fun hn => by
    have : 0 < rs.length := by
      rw [List.length_take] at hn
      omega
    obtain ⟨b, o, e, hb, hc⟩ := h.head this
    refine ⟨b, o, e, hb, fun i r hr j v hv => hc i r ?_ j v hv⟩
    rw [List.getElem?_take] at hr
    split at hr
    · exact hr
    · cases hr⟩

theorem due_is (rs : List Rc) (A : Option Addr) (cap : Nat) (now : Int) (ru : Ru) (w : World) (n : Int) (hl : LR w w.heap.size A rs) (hm : rs.length ≤ maxLen)
    (hn0 : -9223372036854775808 ≤ now) (hn1 : now ≤ 9223372036854775807) (hn : (dueR rs now ru : Int) = n) :
    Calls Try.prog 13 #[.slice A rs.length cap, .int .i64 now, ru.val] w fun e w' => e = .returned (.int .i64 n) ∧ Below w.heap.size w w' := by
  subst hn
  exact due_any rs A cap now ru w hl hm hn0 hn1

theorem d1 : (dueR (three.take 1) 7 ⟨2, 700, 5, 5⟩ : Int) = 0 := by decide +kernel
theorem d2 : (dueR (three.take 1) 8 ⟨2, 700, 5, 5⟩ : Int) = 1 := by decide +kernel
theorem d3 : (dueR three 4 ⟨2, 700, 5, 5⟩ : Int) = 2 := by decide +kernel

set_option maxHeartbeats 8000000 in
theorem awake_any (w : World) : Calls Try.prog 8 #[] w fun e w' => e = .returned (.bool true) ∧ Below w.heap.size w w' := by
  go_enter Try.func8, Try.ntmps8
  go_wp2_with (first
    | (refine wpList_building rfl 44 _ rfl _ rfl (rcz 0 3 ⟨#[]⟩).cells.toArray (built_t 3) ?_)
    | (refine wpList_building rfl 44 _ rfl _ rfl (rcz 0 4 ⟨#[]⟩).cells.toArray (built_t 4) ?_)
    | (refine wpList_building rfl 44 _ rfl _ rfl (rcz 1 0 ⟨#[97]⟩).cells.toArray built_a ?_)
    | (refine wpList_buildingSlice rfl 22 44 3 _ rfl Try.underlying22 _ rfl ((rcz 0 3 ⟨#[]⟩).cells ++ ((rcz 0 4 ⟨#[]⟩).cells ++ (rcz 0 4 ⟨#[]⟩).cells)).toArray builtS_3 ?_)
    | (refine wpList_buildingSlice rfl 22 44 1 _ rfl Try.underlying22 _ rfl (rcz 1 0 ⟨#[97]⟩).cells.toArray builtS_1 ?_))
  obtain ⟨w0, hw0⟩ : ∃ w0, ((w.alloc (Obj.cells #[Value.int IntKind.i64 2, Value.int IntKind.i64 700, Value.int IntKind.i64 5, Value.int IntKind.i64 5] 24)).alloc
      (Obj.cells ((rcz 0 3 ⟨#[]⟩).cells ++ ((rcz 0 4 ⟨#[]⟩).cells ++ (rcz 0 4 ⟨#[]⟩).cells)).toArray 44)).alloc (Obj.cells (rcz 1 0 ⟨#[97]⟩).cells.toArray 44) = w0 := ⟨_, rfl⟩
  rw [hw0]
  have hB : Below w.heap.size w w0 := by
    rw [← hw0]
    exact (((Below.refl _ _).alloc (Nat.le_refl _) _).alloc (by simp) _).alloc (by simp <;> omega) _
  have hz : w0.heap.size = w.heap.size + 3 := by rw [← hw0]; simp
  have h0 : w0.heap[w.heap.size]? = some (.cells #[.int .i64 2, .int .i64 700, .int .i64 5, .int .i64 5] 24 (0, 0)) := by
    rw [← hw0, Below.heap_alloc _ _ _ (by simp <;> omega)]; exact heap_alloc2_old w _ _
  have h1 : w0.heap[w.heap.size + 1]? = some (.cells ((rcz 0 3 ⟨#[]⟩).cells ++ ((rcz 0 4 ⟨#[]⟩).cells ++ (rcz 0 4 ⟨#[]⟩).cells)).toArray 44 (0, 0)) := by
    rw [← hw0, Below.heap_alloc _ _ _ (by simp <;> omega)]; exact heap_alloc2_new w _ _
  have h2 : w0.heap[w.heap.size + 1 + 1]? = some (.cells (rcz 1 0 ⟨#[97]⟩).cells.toArray 44 (0, 0)) := by
    have := heap_alloc_new ((w.alloc (Obj.cells #[Value.int IntKind.i64 2, Value.int IntKind.i64 700, Value.int IntKind.i64 5, Value.int IntKind.i64 5] 24)).alloc
      (Obj.cells ((rcz 0 3 ⟨#[]⟩).cells ++ ((rcz 0 4 ⟨#[]⟩).cells ++ (rcz 0 4 ⟨#[]⟩).cells)).toArray 44)) (Obj.cells (rcz 1 0 ⟨#[97]⟩).cells.toArray 44)
    rw [hw0] at this
    simpa using this
  have hl1 : LR w0 w0.heap.size (some ⟨w.heap.size + 1 + 1, 0, none⟩) one := LR.of_block h2 (by intro r hr; simp [one] at hr; subst hr; rfl) (by intro r hr; simp [one] at hr; subst hr; decide)
    (by intro r hr; simp [one] at hr; subst hr; exact rcz_ones _ _ _) (by
      intro i r hr j v hv
      match i, hr with
      | 0, hr =>
        obtain rfl : rcz 1 0 ⟨#[97]⟩ = r := by simpa [one] using hr
        rw [List.getElem?_toArray, show 0 * 68 + j = j by omega]
        exact hv
      | (i + 1), hr => simp [one] at hr)
  have hl3 : LR w0 w0.heap.size (some ⟨w.heap.size + 1, 0, none⟩) three := LR.of_block h1 three_ok.1 three_ok.2.1 three_ok.2.2 get_three
  refine (make_any ⟨0, 0, 0, 1⟩ one (some ⟨w.heap.size + 1 + 1, 0, none⟩) 1 w0 hl1 (by decide)).mono ?_
  rintro e w1 ⟨hb1, hm⟩
  rw [show makeOk ⟨0, 0, 0, 1⟩ one = true from rfl, if_pos rfl] at hm
  obtain ⟨v, rfl, hpr⟩ := hm
  obtain ⟨A, c, rfl, hc⟩ := hpr.ex
  obtain ⟨bp, op, rfl, hbp, hcell⟩ := hc (by decide)
  have hcell0 := (hcell 0 (false, ⟨#[97]⟩) rfl).2
  have Hl3 := Kp.mk (hl3.below hb1)
  have hs1 := hb1.size
  have k0 : w1.cell? ⟨w.heap.size, 0, none⟩ = some (.int .i64 2) := by rw [hb1.cell (by dsimp only; omega), cell_of_row w0 _ 0 _ _ _ h0]; rfl
  have k1 : w1.cell? ⟨w.heap.size, 1, none⟩ = some (.int .i64 700) := by rw [hb1.cell (by dsimp only; omega), cell_of_row w0 _ 1 _ _ _ h0]; rfl
  have k2 : w1.cell? ⟨w.heap.size, 2, none⟩ = some (.int .i64 5) := by rw [hb1.cell (by dsimp only; omega), cell_of_row w0 _ 2 _ _ _ h0]; rfl
  have k3 : w1.cell? ⟨w.heap.size, 3, none⟩ = some (.int .i64 5) := by rw [hb1.cell (by dsimp only; omega), cell_of_row w0 _ 3 _ _ _ h0]; rfl
  have HB := Kp.mk (hB.trans (hb1.mono (by omega)))
  clear hw0 hB h0 h1 h2 hl1 hl3 hb1 hpr hc hcell
  rw [show batchV ⟨0, 0, 0, 1⟩ (.slice (some ⟨bp, op, none⟩) (one.map partOf).length c) = .agg #[.int .i64 0, .int .i64 0, .int .i64 0, .slice (some ⟨bp, op, none⟩) 1 c] from rfl]
  go_wp2_with fail
  obtain ⟨w2, hw2⟩ : ∃ w2, w1.alloc (Obj.cells #[Value.int IntKind.i64 0, Value.int IntKind.i64 0, Value.int IntKind.i64 0, Value.slice (some ⟨bp, op, none⟩) 1 c] 36) = w2 := ⟨_, rfl⟩
  rw [hw2]
  have hb2 : Below w1.heap.size w1 w2 := by rw [← hw2]; exact (Below.refl _ _).alloc (Nat.le_refl _) _
  have hx0 : ∀ x : Ext w2, x.val.cell? ⟨w.heap.size, 0, none⟩ = some (.int .i64 2) := fun x => x.cell (by rw [hb2.cell (by dsimp only; omega)]; exact k0)
  have hx1 : ∀ x : Ext w2, x.val.cell? ⟨w.heap.size, 1, none⟩ = some (.int .i64 700) := fun x => x.cell (by rw [hb2.cell (by dsimp only; omega)]; exact k1)
  have hx2 : ∀ x : Ext w2, x.val.cell? ⟨w.heap.size, 2, none⟩ = some (.int .i64 5) := fun x => x.cell (by rw [hb2.cell (by dsimp only; omega)]; exact k2)
  have hx3 : ∀ x : Ext w2, x.val.cell? ⟨w.heap.size, 3, none⟩ = some (.int .i64 5) := fun x => x.cell (by rw [hb2.cell (by dsimp only; omega)]; exact k3)
  have hxp : ∀ x : Ext w2, x.val.cell? ⟨w1.heap.size, 3, none⟩ = some (.slice (some ⟨bp, op, none⟩) 1 c) := fun x => x.cell (by rw [← hw2, cell_of_row _ _ 3 _ _ _ (heap_alloc_new w1 _)]; rfl)
  have hxt : ∀ x : Ext w2, x.val.cell? ⟨bp, op + 1, none⟩ = some (.string ⟨#[97]⟩) := fun x => x.cell (by rw [hb2.cell hbp]; simpa using hcell0)
  have Hl4 : Kp (∀ x : Ext w2, LR x.val x.val.heap.size (some ⟨w.heap.size + 1, 0, none⟩) three) := ⟨fun x => by
    have h4 := (Hl3.out.more (show w0.heap.size ≤ w1.heap.size from hs1)).below hb2
    exact ((h4.more hb2.size).below x.ok).more x.ok.size⟩
  have HB2 := Kp.mk (HB.out.trans (hb2.mono (by omega)))
  clear hw2 hb2 k0 k1 k2 k3 hcell0
  refine wp_region_ext (by kernel_rfl) (by kernel_rfl) ?_
  repeat (go_big_quiet_step ((first
    | (go_at_call_of 13 (Value.int IntKind.i64 7); exact Ext.calls (due_is (three.take 1) _ _ 7 ⟨2, 700, 5, 5⟩ _ 0 ((Hl4.out _).take 1) (by decide) (by omega) (by omega) d1))
    | (go_at_call_of 13 (Value.int IntKind.i64 8); exact Ext.calls (due_is (three.take 1) _ _ 8 ⟨2, 700, 5, 5⟩ _ 1 ((Hl4.out _).take 1) (by decide) (by omega) (by omega) d2))
    | (go_at_call_of 13 (Value.int IntKind.i64 4); exact Ext.calls (due_is three _ _ 4 ⟨2, 700, 5, 5⟩ _ 2 (Hl4.out _) (by decide) (by omega) (by omega) d3)))))
  refine wpQuiet_nil ?_
  intro x
  go_wp2
  go_ret
  exact ⟨rfl, HB2.out.trans (x.ok.mono (by have := HB2.out.size; omega))⟩

end Go.Proofs.Ytenfijjlggiklaa.CutP
