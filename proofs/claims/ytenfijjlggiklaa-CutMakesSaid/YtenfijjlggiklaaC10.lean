/-
  The walk of CutMakes.
-/
import Derived.Test.YtenfijjlggiklaaC6
import Derived.Test.YtenfijjlggiklaaC7
import Derived.Test.YtenfijjlggiklaaC8
namespace Go.Proofs.Ytenfijjlggiklaa.CutP
open Go.RowKit Go.CutLaws
set_option linter.unusedVariables false

/-- what both make, as one -/
theorem make_one {c : Ct} {rs : List Rc} {w : World} {e : Ending} {w' : World} (h : MakePost c rs w e w') :
    ∃ (d : Ct) (v : Value) (er : Int), e = .returned (.tuple #[batchV d v, .int .i64 er]) ∧ PR w' v (if makeOk c rs then rs.map partOf else []) ∧ Below w.heap.size w w' ∧
      d = (if makeOk c rs then c else ⟨0, 0, 0, 0⟩) ∧ er = (if makeOk c rs then 0 else 2) := by
  obtain ⟨hb, h⟩ := h
  by_cases hk : makeOk c rs = true
  · rw [if_pos hk] at h
    obtain ⟨v, rfl, hp⟩ := h
    exact ⟨c, v, 0, rfl, by rw [if_pos hk]; exact hp, hb, by rw [if_pos hk], by rw [if_pos hk]⟩
  · rw [if_neg hk] at h
    subst h
    exact ⟨⟨0, 0, 0, 0⟩, .slice none 0 0, 2, rfl, by rw [if_neg hk]; exact ⟨⟨none, 0, rfl, fun hn => by simp at hn⟩⟩, hb, by rw [if_neg hk], by rw [if_neg hk]⟩

set_option maxHeartbeats 8000000 in
theorem law_makes (c : Ct) (rs : List Rc) (A : Option Addr) (cap : Nat) (w : World) (hl : LR w w.heap.size A rs) (hm : rs.length * 104 ≤ 140737488351232) :
    Calls Try.prog 5 #[c.val, .slice A rs.length cap] w fun e w' => e = .returned (.bool true) ∧ Below w.heap.size w w' := by
  obtain ⟨ps, hps⟩ : ∃ ps, (if makeOk c rs then rs.map partOf else []) = ps := ⟨_, rfl⟩
  have hpl : ps.length ≤ maxLen := by rw [← hps]; unfold maxLen; split <;> simp <;> omega
  have HM1 : Kp (∀ W, LR W W.heap.size A rs → Calls Try.prog 15 #[c.val, .slice A rs.length cap] W fun e w' => ∃ (d : Ct) (v : Value) (er : Int), e = .returned (.tuple #[batchV d v, .int .i64 er]) ∧ PR w' v ps ∧ Below W.heap.size W w' ∧
      d = (if makeOk c rs then c else ⟨0, 0, 0, 0⟩) ∧ er = (if makeOk c rs then 0 else 2)) := ⟨fun W h => (make_any c rs A cap W h hm).mono fun e w' hh => by rw [← hps]; exact make_one hh⟩
  have HM2 : Kp (∀ W, LR W W.heap.size A rs → Calls Try.prog 16 #[c.val, .slice A rs.length cap] W fun e w' => ∃ (d : Ct) (v : Value) (er : Int), e = .returned (.tuple #[batchV d v, .int .i64 er]) ∧ PR w' v ps ∧ Below W.heap.size W w' ∧
      d = (if makeOk c rs then c else ⟨0, 0, 0, 0⟩) ∧ er = (if makeOk c rs then 0 else 2)) := ⟨fun W h => (rmake_any c rs A cap W h hm).mono fun e w' hh => by rw [← hps]; exact make_one hh⟩
  have Hpl := Kp.mk hpl
  clear hps hpl
  obtain ⟨sq, fi, be, co⟩ := c
  have Hl := Kp.mk hl
  clear hl hm
  obtain ⟨D, hD⟩ : ∃ D : Ct, D = (if makeOk ⟨sq, fi, be, co⟩ rs then ⟨sq, fi, be, co⟩ else ⟨0, 0, 0, 0⟩) := ⟨_, rfl⟩
  obtain ⟨E, hE⟩ : ∃ E : Int, E = (if makeOk ⟨sq, fi, be, co⟩ rs then 0 else 2) := ⟨_, rfl⟩
  rw [← hD, ← hE] at HM1 HM2
  clear hD hE
  unfold Ct.val
  dsimp only
  go_enter Try.func5, Try.ntmps5
  go_wp2_with fail
  refine (HM1.out _ ((Hl.out.keep (fun q hq => World.cell?_alloc_lt w _ q hq)).more (by simp))).mono ?_
  rintro e w1 ⟨d, v, er, rfl, hp1, hb1, rfl, rfl⟩
  obtain ⟨A1, c1, rfl, hc1⟩ := hp1.ex
  clear hc1
  unfold batchV
  have hz1 : w.heap.size < w1.heap.size := by have := hb1.size; simp at this; omega
  have hbox : w1.heap[w.heap.size]? = some (.cells #[.int .i64 sq, .int .i64 fi, .int .i64 be, .int .i64 co] 33 (0, 0)) := (hb1.block _ (by simp)).trans (heap_alloc_new _ _)
  have HB1 : Kp (Below w.heap.size w w1) := ⟨((Below.refl _ w).alloc (Nat.le_refl _) _).trans (hb1.mono (by simp))⟩
  have HP1 := Kp.mk hp1
  have k0 : w1.cell? ⟨w.heap.size, 0, none⟩ = some (.int .i64 sq) := by rw [cell_of_row w1 _ 0 _ _ _ hbox]; rfl
  have k1 : w1.cell? ⟨w.heap.size, 1, none⟩ = some (.int .i64 fi) := by rw [cell_of_row w1 _ 1 _ _ _ hbox]; rfl
  have k2 : w1.cell? ⟨w.heap.size, 2, none⟩ = some (.int .i64 be) := by rw [cell_of_row w1 _ 2 _ _ _ hbox]; rfl
  have k3 : w1.cell? ⟨w.heap.size, 3, none⟩ = some (.int .i64 co) := by rw [cell_of_row w1 _ 3 _ _ _ hbox]; rfl
  clear hp1 hb1 hbox
  go_wp2_with fail
  obtain ⟨u1, hu1⟩ : ∃ u1, w1.alloc (Obj.cells #[Value.int IntKind.i64 d.seq, Value.int IntKind.i64 d.first, Value.int IntKind.i64 d.before, Value.slice A1 ps.length c1] 36) = u1 := ⟨_, rfl⟩
  rw [hu1]
  have hbu1 : Below w1.heap.size w1 u1 := by rw [← hu1]; exact (Below.refl _ _).alloc (Nat.le_refl _) _
  have hg1 : u1.heap[w1.heap.size]? = some (.cells #[.int .i64 d.seq, .int .i64 d.first, .int .i64 d.before, .slice A1 ps.length c1] 36 (0, 0)) := by rw [← hu1]; exact heap_alloc_new w1 _
  have hzu1 : u1.heap.size = w1.heap.size + 1 := by rw [← hu1]; simp
  clear hu1 k0 k1 k2 k3
  have HBu1 : Kp (Below w.heap.size w u1) := ⟨HB1.out.trans (hbu1.mono (by omega))⟩
  have HPu1 := Kp.mk (HP1.out.below hbu1)
  refine (HM2.out _ ((Hl.out.below HBu1.out).more (by omega))).mono ?_
  rintro e w2 ⟨d2, v2, er2, rfl, hp2, hb2, rfl, rfl⟩
  obtain ⟨A2, c2, rfl, hc2⟩ := hp2.ex
  clear hc2
  have HPw2 := Kp.mk (HPu1.out.below hb2)
  have HP2 := Kp.mk hp2
  have HB2 : Kp (Below w.heap.size w w2) := ⟨HBu1.out.trans (hb2.mono (by omega))⟩
  have Hg1 : Kp (w2.heap[w1.heap.size]? = some (.cells #[.int .i64 d2.seq, .int .i64 d2.first, .int .i64 d2.before, .slice A1 ps.length c1] 36 (0, 0))) := ⟨(hb2.block _ (by omega)).trans hg1⟩
  have hzz : w1.heap.size < w2.heap.size := lt_of_block Hg1.out
  clear hp2 hb2 hg1 hbu1
  unfold batchV
  go_wp2_with fail
  refine (awake_any _).mono ?_
  rintro e w3 ⟨rfl, hb3⟩
  have hq1 : w3.heap[w1.heap.size]? = some (.cells #[.int .i64 d2.seq, .int .i64 d2.first, .int .i64 d2.before, .slice A1 ps.length c1] 36 (0, 0)) := (hb3.block _ (by simp; omega)).trans ((Below.heap_alloc w2 _ _ hzz).trans Hg1.out)
  have hq2 : w3.heap[w2.heap.size]? = some (.cells #[.int .i64 d2.seq, .int .i64 d2.first, .int .i64 d2.before, .slice A2 ps.length c2] 36 (0, 0)) := (hb3.block _ (by simp)).trans (heap_alloc_new w2 _)
  have hbw2 : Below w2.heap.size w2 w3 := ((Below.refl _ w2).alloc (Nat.le_refl _) _).trans (hb3.mono (by simp))
  have HPa := Kp.mk (HPw2.out.below hbw2)
  have HPb := Kp.mk (HP2.out.below hbw2)
  have HB3 : Kp (Below w.heap.size w w3) := ⟨HB2.out.trans (hbw2.mono (by omega))⟩
  have a0 : w3.cell? ⟨w1.heap.size, 0, none⟩ = some (.int .i64 d2.seq) := by rw [cell_of_row w3 _ 0 _ _ _ hq1]; rfl
  have a1 : w3.cell? ⟨w1.heap.size, 1, none⟩ = some (.int .i64 d2.first) := by rw [cell_of_row w3 _ 1 _ _ _ hq1]; rfl
  have a2 : w3.cell? ⟨w1.heap.size, 2, none⟩ = some (.int .i64 d2.before) := by rw [cell_of_row w3 _ 2 _ _ _ hq1]; rfl
  have a3 : w3.cell? ⟨w1.heap.size, 3, none⟩ = some (.slice A1 ps.length c1) := by rw [cell_of_row w3 _ 3 _ _ _ hq1]; rfl
  have b0 : w3.cell? ⟨w2.heap.size, 0, none⟩ = some (.int .i64 d2.seq) := by rw [cell_of_row w3 _ 0 _ _ _ hq2]; rfl
  have b1 : w3.cell? ⟨w2.heap.size, 1, none⟩ = some (.int .i64 d2.first) := by rw [cell_of_row w3 _ 1 _ _ _ hq2]; rfl
  have b2 : w3.cell? ⟨w2.heap.size, 2, none⟩ = some (.int .i64 d2.before) := by rw [cell_of_row w3 _ 2 _ _ _ hq2]; rfl
  have b3 : w3.cell? ⟨w2.heap.size, 3, none⟩ = some (.slice A2 ps.length c2) := by rw [cell_of_row w3 _ 3 _ _ _ hq2]; rfl
  clear hq1 hq2 hb3 hbw2
  go_wp2_with fail
  refine (batches_same d2 _ _ ps w3 HPa.out HPb.out Hpl.out).mono ?_
  rintro e w4 ⟨rfl, hb4⟩
  have HB4 : Kp (Below w.heap.size w w4) := ⟨HB3.out.trans (hb4.mono HB3.out.size)⟩
  clear hb4
  go_wp2_with fail
  go_ret
  exact ⟨rfl, HB4.out⟩

end Go.Proofs.Ytenfijjlggiklaa.CutP
