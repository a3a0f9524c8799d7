/-
  Laws of the walk that serve a struct of many cells: a new variable and what is stored into it.
-/
import Derived.WalkKit
import Derived.Deep.MidRow
import Derived.Deep.WholeRow
import Derived.Deep.QuietTactic
import Derived.BigQuiet
import Derived.Great.Walk
namespace Go.PostLaws
open Go
section
variable {P : Program}

/-- 'alloc t' and 'store t' behind it: the new block holds what was stored. -/
theorem wpList_new_row {ops : Array Oper} {rest : List Oper} {o2 o3 : Oper} {a : Act} {w : World} {Q : Exit → Act → World → Prop} (hg2 : o2.guard = none) (hg3 : o3.guard = none)
    (t : TypeId) (x y : Operand) (ho2 : o2.op = .alloc t) (ho3 : o3.op = .store t x y) (n : Nat)
    (hi : (P.info? t).map (fun i => (i.zero.map (·.cells.size), i.size)) = some (some n, n)) (cells : Array Value)
    (hx : (a.put o2.dst (.pointer (some ⟨w.heap.size, 0, none⟩))).eval x = .pointer (some ⟨w.heap.size, 0, none⟩))
    (hy : (a.put o2.dst (.pointer (some ⟨w.heap.size, 0, none⟩))).eval y = .agg cells) (hs : cells.size = n) (h1 : cells.all (·.oneCell') = true)
    (h : wpList P ops Q rest ((a.put o2.dst (.pointer (some ⟨w.heap.size, 0, none⟩))).put o3.dst undef) (w.alloc (.cells cells t))) : wpList P ops Q (o2 :: o3 :: rest) a w := by
  cases hq : P.info? t with
  | none => simp [hq] at hi
  | some i =>
    simp only [hq, Option.map_some, Option.some.injEq, Prod.mk.injEq] at hi
    obtain ⟨hz, hsz⟩ := hi
    cases hzz : i.zero with
    | none => simp [hzz] at hz
    | some z =>
      simp only [hzz, Option.map_some, Option.some.injEq] at hz
      refine wpList_plain hg2 fun K hK => ?_
      unfold Oper.wp execOp
      simp only [ho2, Instr.alloc, zeroValue, typeInfo, Sem.run_bind, Sem.run_pure, run_program, Result.andThen_ok, hq, hzz, newVar, newRow, run_newObj_alloc, Oper.upon]
      refine hK _ _ ?_
      have hst := run_storeVar_row (P := P) (w.alloc (.cells z.cells t)) w.heap.size t t z.cells cells (heap_alloc_last w _) (by simp [hq, hsz, hs]) (by rw [hz, hs]) h1
      rw [World.setRow_alloc_new] at hst
      refine wpList_plain hg3 fun K2 hK2 => ?_
      unfold Oper.wp execOp
      simp only [ho3, hx, hy, Instr.storeAt, Instr.sureAddr, Sem.run_bind, Sem.run_pure, Result.andThen_ok, hst, Oper.upon]
      exact hK2 _ _ h

/-- 'make' of elements of several cells. -/
theorem run_make_rows (t e : TypeId) (i : TypeInfo) (z : Value) (ht : P.underlying t = some (.slice e)) (hi : P.info? e = some i) (hz : i.zero = some z)
    (n : Nat) (hbytes : i.bytes * n ≤ 281474976710656) (h63 : n ≤ 9223372036854775807) (w : World) :
    (Instr.makeSlice t (.int .i64 (n : Int)) (.int .i64 (n : Int))).run P w = .ok (.slice (some ⟨w.heap.size, 0, none⟩) n n) (w.alloc (.cells (madeCells z.cells (n * i.size)) e)) := by
  have hb : (i.bytes : Int) * (n : Int) ≤ 281474976710656 := by
    have h : ((i.bytes * n : Nat) : Int) ≤ 281474976710656 := by omega
    rwa [Int.natCast_mul] at h
  have hr := run_make (P := P) w t e i z ht hi hz .i64 .i64 n n (by omega) (by omega) hb (by omega)
  simp only [Int.toNat_natCast] at hr
  exact hr

theorem get_madeCells2 (x y : Value) (n j : Nat) (h : j < n * 2) : (madeCells #[x, y] (n * 2))[j]? = some (if j % 2 = 0 then x else y) := by
  have h2 : j % 2 = 0 ∨ j % 2 = 1 := by omega
  rcases h2 with h2 | h2 <;> simp [madeCells, h, h2]
end

/-! ### a region that draws its order, whose callees make memory -/
open Go.RowKit in
/-- a world that is as W was below W's new blocks -/
structure Ext (W : World) : Type where
  val : World
  ok : Below W.heap.size W val

instance (W : World) : Nonempty (Ext W) := ⟨⟨W, Go.RowKit.Below.refl _ _⟩⟩

section
variable {P : Program}
open Go.RowKit
theorem wp_region_ext {id : Nat} {Q : Exit → Act → World → Prop} {a : Act} {w : World} {l : List Oper} (hm : P.follows .mixedOrders = true) (hB : Region.lexB .any l.toArray = true)
    (h : wpQuiet P l.toArray (fun w' => ∃ x : Ext w, w' = x.val) (fun a' => ∀ x : Ext w, Q .normal a' x.val) l a) : (Code.region id l.toArray true).wp P Q a w := by
  refine wp_region_quiet (C := fun w' => ∃ x : Ext w, w' = x.val) hm hB ⟨⟨{ w with drawn := w.drawn + 1 }, (Below.refl _ w).drew⟩, rfl⟩ ?_
  have e : (fun a' => ∀ w', (∃ x : Ext w, w' = x.val) → Q .normal a' w') = (fun a' => ∀ x : Ext w, Q .normal a' x.val) := by
    funext a'
    exact propext ⟨fun hh x => hh _ ⟨x, rfl⟩, fun hh w' ⟨x, hx⟩ => hx ▸ hh x⟩
  rw [e]
  simpa using h

theorem Ext.calls {W : World} {x : Ext W} {f : FuncId} {args : Array Value} {v : Value}
    (h : Calls P f args x.val fun e w' => e = .returned v ∧ Below x.val.heap.size x.val w') : Calls P f args x.val fun e w'' => e = .returned v ∧ ∃ y : Ext W, w'' = y.val :=
  h.mono fun _ w' ⟨he, hb⟩ => ⟨he, ⟨w', x.ok.trans (hb.mono x.ok.size)⟩, rfl⟩
theorem Ext.cell {W : World} (x : Ext W) {b o : Nat} {v : Value} (h : W.cell? ⟨b, o, none⟩ = some v) : x.val.cell? ⟨b, o, none⟩ = some v :=
  (x.ok.cell (World.block_lt_of_cell? W _ h)).trans h

theorem wpList_building {ops : Array Oper} {rest : List Oper} {o : Oper} {a : Act} {w : World} {Q : Exit → Act → World → Prop} (hg : o.guard = none) (t : TypeId) (ps : List (Nat × Operand)) (ho : o.op = .build t ps.toArray)
    (vals : List (Nat × Value)) (hv : ps.map (fun p => (p.1, a.eval p.2)) = vals) (cells : Array Value) (hf : P.built t vals = some cells)
    (h : wpList P ops Q rest (a.put o.dst (.agg cells)) w) : wpList P ops Q (o :: rest) a w := by
  have e : (ps.toArray.map fun (i, x) => (i, a.eval x)).toList = vals := by simpa using hv
  exact wpList_build hg t ps.toArray ho (by rw [e, hf]; rfl) (by rw [e, hf]; exact h)

theorem wpList_buildingSlice {ops : Array Oper} {rest : List Oper} {o : Oper} {a : Act} {w : World} {Q : Exit → Act → World → Prop} (hg : o.guard = none) (t e : TypeId) (len : Nat) (ps : List (Nat × Operand)) (ho : o.op = .buildSlice t len ps.toArray)
    (hu : P.underlying t = some (.slice e)) (vals : List (Nat × Value)) (hv : ps.map (fun p => (p.1, a.eval p.2)) = vals) (cells : Array Value)
    (hf : P.builtSlice e len vals = some cells)
    (h : wpList P ops Q rest (a.put o.dst (.slice (some ⟨w.heap.size, 0, none⟩) len len)) (w.alloc (.cells cells e))) : wpList P ops Q (o :: rest) a w := by
  have e' : (ps.toArray.map fun (i, x) => (i, a.eval x)).toList = vals := by simpa using hv
  exact Go.Great.wpList_buildSliceTo hg t e len ps.toArray ho _ rfl _ rfl hu cells (by rw [e']; exact hf) h
end
end Go.PostLaws
