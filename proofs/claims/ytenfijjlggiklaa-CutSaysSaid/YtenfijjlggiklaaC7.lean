/-
  Contract of Batches at two batches that say the same.
-/
import Derived.Test.YtenfijjlggiklaaC5
namespace Go.Proofs.Ytenfijjlggiklaa.CutP
open Go.RowKit Go.CutLaws
set_option linter.unusedVariables false

theorem PR.below {w w' : World} {v : Value} {ps : List (Bool × ByteArray)} (h : PR w v ps) (hb : Below w.heap.size w w') : PR w' v ps := by
  obtain ⟨A, c, rfl, hc⟩ := h.ex
  refine ⟨⟨A, c, rfl, fun hn => ?_⟩⟩
  obtain ⟨b, o, e, hlt, hcell⟩ := hc hn
  exact ⟨b, o, e, Nat.lt_of_lt_of_le hlt hb.size, fun i p hp => ⟨(hb.cell (p := ⟨b, o + i * 2, none⟩) hlt).trans (hcell i p hp).1, (hb.cell (p := ⟨b, o + i * 2 + 1, none⟩) hlt).trans (hcell i p hp).2⟩⟩

set_option maxHeartbeats 8000000 in
theorem batches_same (c : Ct) (v v' : Value) (ps : List (Bool × ByteArray)) (w : World) (h : PR w v ps) (h' : PR w v' ps) (hm : ps.length ≤ maxLen) :
    Calls Try.prog 17 #[batchV c v, batchV c v'] w fun e w' => e = .returned (.bool true) ∧ Below w.heap.size w w' := by
  have H := Kp.mk h
  have H' := Kp.mk h'
  obtain ⟨A, cp, rfl, hc⟩ := h.ex
  obtain ⟨A', cp', rfl, hc'⟩ := h'.ex
  obtain ⟨sq, fi, be, co⟩ := c
  unfold batchV
  dsimp only
  unfold maxLen at hm
  have Hc := Kp.mk hc
  have Hc' := Kp.mk hc'
  clear h h' hc hc'
  go_enter Try.func17, Try.ntmps17
  go_wp2_with fail
  go_loopw [5] (fun n wr => ∃ (k : Nat), n = .int .i64 k ∧ k ≤ ps.length ∧ Below (w.heap.size + 2) ((w.alloc (Obj.cells #[Value.int IntKind.i64 sq, Value.int IntKind.i64 fi, Value.int IntKind.i64 be, Value.slice A ps.length cp] 36)).alloc
      (Obj.cells #[Value.int IntKind.i64 sq, Value.int IntKind.i64 fi, Value.int IntKind.i64 be, Value.slice A' ps.length cp'] 36)) wr) (fun n wr => ps.length - (intOf n).toNat)
  case atStart => exact ⟨0, rfl, Nat.zero_le _, Below.refl _ _⟩
  case round =>
    obtain ⟨k, rfl, hk, hb⟩ := hrel
    have hx : wr.heap[w.heap.size]? = some (.cells #[.int .i64 sq, .int .i64 fi, .int .i64 be, .slice A ps.length cp] 36 (0, 0)) := (hb.block _ (by omega)).trans (heap_alloc2_old w _ _)
    have hy : wr.heap[w.heap.size + 1]? = some (.cells #[.int .i64 sq, .int .i64 fi, .int .i64 be, .slice A' ps.length cp'] 36 (0, 0)) := (hb.block _ (by omega)).trans (heap_alloc2_new w _ _)
    have x3 : wr.cell? ⟨w.heap.size, 3, none⟩ = some (.slice A ps.length cp) := by rw [cell_of_row wr _ 3 _ _ _ hx]; rfl
    have y3 : wr.cell? ⟨w.heap.size + 1, 3, none⟩ = some (.slice A' ps.length cp') := by rw [cell_of_row wr _ 3 _ _ _ hy]; rfl
    have hbw : Below w.heap.size w wr := (((Below.refl _ w).alloc (Nat.le_refl _) _).alloc (by simp) _).trans (hb.mono (by omega))
    have HBw := Kp.mk hbw
    have HB := Kp.mk hb
    clear hx hy hb
    by_cases hlt : k < ps.length
    · obtain ⟨b, o, rfl, hbl, hcell⟩ := Hc.out (by omega)
      obtain ⟨b', o', rfl, hbl', hcell'⟩ := Hc'.out (by omega)
      obtain ⟨p, hp⟩ : ∃ p, ps[k]? = some p := ⟨_, List.getElem?_eq_getElem hlt⟩
      obtain ⟨e1, e2⟩ := hcell k p hp
      obtain ⟨e1', e2'⟩ := hcell' k p hp
      have g1 := (hbw.cell (p := ⟨b, o + k * 2, none⟩) hbl).trans e1
      have g2 := (hbw.cell (p := ⟨b, o + k * 2 + 1, none⟩) hbl).trans e2
      have g1' := (hbw.cell (p := ⟨b', o' + k * 2, none⟩) hbl').trans e1'
      have g2' := (hbw.cell (p := ⟨b', o' + k * 2 + 1, none⟩) hbl').trans e2'
      clear e1 e2 e1' e2' hcell hcell' hp hbw
      have hlt' : decide (k < ps.length) = true := by simpa using hlt
      have hkL : (0 : Int) ≤ k := by omega
      have hkN' : (k : Int) < ps.length := by omega
      go_wp2_with fail
      go_quiet (fail)
      go_wp2_with fail
      go_roundw
      case measure => simp [intOf]; omega
      case rel => exact ⟨k + 1, by go_num, by omega, below_drewN HB.out _⟩
    · have hlt' : decide (k < ps.length) = false := by simpa using hlt
      go_wp2_with fail
      go_ret
      exact ⟨rfl, HBw.out⟩

end Go.Proofs.Ytenfijjlggiklaa.CutP
