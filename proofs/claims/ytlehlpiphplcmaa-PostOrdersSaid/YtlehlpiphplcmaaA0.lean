/-
  What all texts of the seat share.
-/
import Derived.Test.YtlehlpiphplcmaaRows
import Derived.Test.YtlehlpiphplcmaaLaw
import Derived.WalkKit
import Derived.ProofKit
import Derived.OpenShut
import Derived.Below
import Derived.Deep.QuietTactic
import Derived.BigQuiet
import Derived.KernelRfl
import Derived.Maps.OwnSet
import Derived.Maps.RangeWalk
import Derived.Maps.AppendAt
import Derived.Maps.OwnRows
import Derived.Deep.AppendLies
namespace Go.Proofs.Ytlehlpiphplcmaa.PostP
open Go.RowKit Go.PostLaws Go.Maps Go.ChangeMaps Go.ChangeShapes Go.WideMaps
set_option linter.unusedVariables false

/-- a fact kept from the walk -/
structure Kp (p : Prop) : Prop where
  out : p

theorem own : ownKnob Try.prog.godebug = none := by kernel_rfl

theorem belowN {B : Nat} {a w : World} (h : Below B a w) (n : Nat) : Below B a (w.drewN n) := h.trans ⟨rfl, rfl, rfl, Nat.le_refl _, fun _ _ => rfl⟩

/-! ### rows of numbers of one's own -/
def ints (zs : List Int) : List Value := zs.map (Value.int .i64)
theorem ints_len (zs : List Int) : (ints zs).length = zs.length := List.length_map _

def OwnI (w : World) (base : Nat) (v : Value) (zs : List Int) : Prop := w.ownsRow base 3 1 v zs.length (ints zs)

theorem ownI_kept {w w' : World} {base B : Nat} {v : Value} {zs : List Int} (h : OwnI w base v zs) (k : Below B w w') (hB : w.heap.size ≤ B) : OwnI w' base v zs := by
  refine ⟨h.1, ?_⟩
  rcases h.2 with hn | ⟨g, cap, cur, hv, hg, hgg, r⟩
  · exact .inl hn
  · exact .inr ⟨g, cap, cur, hv, hg, by rw [k.block g (by have := lt_of_block hgg; omega)]; exact hgg, r⟩
theorem ownI_form {w : World} {base : Nat} {v : Value} {zs : List Int} (h : OwnI w base v zs) : ∃ A c, v = .slice A zs.length c := by
  rcases h.2 with ⟨rfl, h0⟩ | ⟨g, cap, cur, rfl, _⟩
  · exact ⟨none, 0, by rw [h0]⟩
  · exact ⟨_, _, rfl⟩
theorem ownI_cell {w : World} {base g c i : Nat} {zs : List Int} (h : OwnI w base (.slice (some ⟨g, 0, none⟩) zs.length c) zs) (hi : i < zs.length) : w.cell? ⟨g, i, none⟩ = some (.int .i64 (zs.getD i 0)) := by
  have := World.ownsRow.cells h (g := g) rfl i (.int .i64 (zs.getD i 0)) (by
    rw [ints, List.getElem?_map, List.getElem?_eq_getElem hi, List.getD_eq_getElem?_getD, List.getElem?_eq_getElem hi]
    rfl)
  rw [Addr.add_lit, Nat.zero_add] at this
  exact this
theorem ownI_some {w : World} {base n c : Nat} {A : Option Addr} {zs : List Int} (h : OwnI w base (.slice A n c) zs) (hne : 0 < zs.length) : ∃ g, A = some ⟨g, 0, none⟩ := by
  rcases h.2 with ⟨_, h0⟩ | ⟨g, cap, cur, hv, _⟩
  · omega
  · simp only [Value.slice.injEq] at hv
    exact ⟨g, hv.1⟩

theorem iint : ∃ i : TypeInfo, Try.prog.info? 3 = some i ∧ i.zero = some (.int .i64 0) ∧ i.size = 1 ∧ i.bytes = 8 := by
  have h : (Try.prog.info? 3).map (fun i => (i.zero, i.size, i.bytes)) = some (some (.int .i64 0), 1, 8) := by kernel_rfl
  obtain ⟨i, hi, he⟩ := Option.map_eq_some_iff.1 h
  simp only [Prod.mk.injEq] at he
  exact ⟨i, hi, he.1, he.2.1, he.2.2⟩

/-- 'append(l, z)', z laid in a new block of its own -/
theorem list_int {ops : Array Oper} {rest : List Oper} {o : Oper} {a : Act} {w : World} {Q : Exit → Act → World → Prop} (hgd : o.guard = none) (sl x : Operand)
    (ho : o.op = .call { callee := .builtin .append, args := #[sl, x], argTypes := #[28, 28] }) (base : Nat) (v : Value) (zs : List Int) (hs : a.eval sl = v) (hown : OwnI w base v zs) (g : Nat) (z : Int)
    (hx : a.eval x = .slice (some ⟨g, 0, none⟩) 1 1) (hg : w.heap[g]? = some (.cells #[.int .i64 z] 3 (0, 0))) (hn : zs.length ≤ 1073741824) (hbase : base ≤ w.heap.size)
    (h : ∀ A c w', OwnI w' base (.slice A (zs ++ [z]).length c) (zs ++ [z]) → w.grownBy w' v.ownBlock → Below base w w' → wpList Try.prog ops Q rest (a.put o.dst (.slice A (zs ++ [z]).length c)) w') :
    wpList Try.prog ops Q (o :: rest) a w := by
  obtain ⟨i, hi, hz, h1, h2⟩ := iint
  refine wpList_append_own_at (P := Try.prog) w hgd sl x 28 ho base 3 i (.int .i64 0) 1 8 Try.underlying28 hi hz h1 h2 rfl (by decide) v zs.length (ints zs) hs hown ⟨g, 0, none⟩ 1 1 [.int .i64 z] hx rfl
    (World.news_of_block (cs := #[.int .i64 z]) (t := 3) (fr := (0, 0)) hg) (by simp [Value.oneCell']) (by unfold maxLen; omega) (by omega) hbase ?_
  intro v' w' k1 k2 k3 k4
  have e : OwnI w' base v' (zs ++ [z]) := by
    unfold OwnI ints
    rw [List.length_append, List.map_append]
    exact k1
  obtain ⟨A, c, rfl⟩ := ownI_form e
  exact h A c w' e k2 ⟨k2.os, k2.tape, k2.output, k2.size, fun j hj => k2.block j (by omega) (fun e2 => by
    have := (World.ownsRow.lt hown j e2.symm).1
    omega)⟩

theorem nilI (w : World) (base : Nat) : OwnI w base (.slice none 0 0) [] := ⟨rfl, .inl ⟨rfl, rfl⟩⟩

/-! ### the map: at which height each was told -/
structure Mh (w : World) (M n : Nat) (h : Int → Option Int) : Prop where
  out : ∃ D : DataW Unit, w.ownsMap Try.prog 3 (plainElem Try.prog 3) M n D ∧ IsMap D ∧ (∀ k, has D (.int .i64 k) = (h k).isSome) ∧ ∀ k v, h k = some v → D.atKey (.int .i64 k) (.lit (.int .i64 0)) = .lit (.int .i64 v)

theorem law3 : Keyed Try.prog 3 := int_keyed Try.underlying3
theorem zero3 (w : World) : (zeroValue 3).run Try.prog w = .ok (.int .i64 0) w := by kernel_rfl

theorem Mh.made (w : World) : Mh (w.alloc (.map #[] 0)) w.heap.size 0 (fun _ => none) :=
  ⟨⟨_, World.ownsMap_made w Try.prog 3 _, isMap_empty, fun k => rfl, fun k v e => by cases e⟩⟩
theorem Mh.lt {w : World} {M n : Nat} {h : Int → Option Int} (k : Mh w M n h) : M < w.heap.size := by
  obtain ⟨D, h1, _⟩ := k.out
  exact h1.lt
theorem Mh.of_block {w w' : World} {M n : Nat} {h : Int → Option Int} (k : Mh w M n h) (hb : w'.heap[M]? = w.heap[M]?) : Mh w' M n h := by
  obtain ⟨D, ⟨es, clock, h1, h2⟩, h3⟩ := k.out
  exact ⟨⟨D, ⟨es, clock, hb.trans h1, h2⟩, h3⟩⟩
theorem Mh.mono {w : World} {M n n' : Nat} {h : Int → Option Int} (k : Mh w M n h) (hn : n ≤ n') : Mh w M n' h := by
  obtain ⟨D, h1, h2⟩ := k.out
  exact ⟨⟨D, h1.mono hn, h2⟩⟩

theorem wf_i64 {z : Int} (h1 : -9223372036854775808 ≤ z) (h2 : z ≤ 9223372036854775807) : (Lit.int .i64 z).wf = true := by
  simp [Lit.wf, IntKind.min, IntKind.max, IntKind.signed, IntKind.bits]
  omega

/-- 'v, ok := m[k]' -/
theorem list_look {ops : Array Oper} {rest : List Oper} {o : Oper} {a : Act} {w : World} {Q : Exit → Act → World → Prop} (hg : o.guard = none) (m x : Operand) (hop : o.op = Op.lookup 38 m x true)
    {M n : Nat} {h : Int → Option Int} (hm : a.eval m = .map (some M)) (hown : Mh w M n h) (z : Int) (hx : a.eval x = .int .i64 z) (h1 : -9223372036854775808 ≤ z) (h2 : z ≤ 9223372036854775807)
    (hK : ∀ c : Int, (∀ v, h z = some v → c = v) → wpList Try.prog ops Q rest (a.put o.dst (.tuple #[.int .i64 c, .bool (h z).isSome])) w) : wpList Try.prog ops Q (o :: rest) a w := by
  obtain ⟨D, k1, k2, k3, k4⟩ := hown.out
  refine wpList_lookup_own_ok_int w hg m x 38 hop 3 3 .i64 law3 Try.underlying38 Try.underlying3 (zero3 w) M n D hm k1 _ _ hx (keyOf_int_mk Try.underlying3 (wf_i64 h1 h2)) ?_
  intro c hat hwc
  rw [k3 z]
  refine hK c fun v hv => ?_
  have := k4 z v hv
  rw [hat] at this
  simpa using this

/-- 'm[k] = v' -/
theorem list_store {ops : Array Oper} {rest : List Oper} {o : Oper} {a : Act} {w : World} {Q : Exit → Act → World → Prop} (hg : o.guard = none) (m x y : Operand) (hop : o.op = Op.mapUpdate 38 m x y)
    {M n : Nat} {h : Int → Option Int} (hm : a.eval m = .map (some M)) (hown : Mh w M n h) (hn : n < maxLen) (z c : Int) (hx : a.eval x = .int .i64 z) (hy : a.eval y = .int .i64 c) (h1 : -9223372036854775808 ≤ z) (h2 : z ≤ 9223372036854775807) (h3 : -9223372036854775808 ≤ c) (h4 : c ≤ 9223372036854775807)
    (hK : ∀ w', Mh w' M (n + 1) (fun k => if k = z then some c else h k) → w.grownBy w' (some M) → wpList Try.prog ops Q rest (a.put o.dst undef) w') : wpList Try.prog ops Q (o :: rest) a w := by
  obtain ⟨D, k1, k2, k3, k4⟩ := hown.out
  refine wpList_mapUpdate_own w hg m x y 38 hop 3 3 law3 Try.underlying38 _ M n D hm k1 hn _ _ _ hx hy (keyOf_int_mk Try.underlying3 (wf_i64 h1 h2)) _ [] (plainElem_int Try.underlying3 (wf_i64 h3 h4)) ?_
  intro w' j1 j2
  have hkl : WideAt.IsKeyLit (Lit.int .i64 z) := law3.key (keyOf_int_mk (P := Try.prog) Try.underlying3 (wf_i64 h1 h2))
  refine hK w' ⟨⟨_, j1, k2.put _ _, fun k => ?_, fun k v hv => ?_⟩⟩ j2
  · by_cases hk : k = z
    · rw [if_pos hk, hk, has_put_same k2 hkl]; rfl
    · rw [if_neg hk, has_put_other (by simpa using hk)]; exact k3 k
  · by_cases hk : k = z
    · rw [if_pos hk] at hv
      cases hv
      rw [hk, atKey_put_same k2 hkl]
    · rw [if_neg hk] at hv
      rw [atKey_put_other (by simpa using hk)]
      exact k4 k v hv

/-- 'delete(m, k)' -/
theorem list_del {ops : Array Oper} {rest : List Oper} {o : Oper} {a : Act} {w : World} {Q : Exit → Act → World → Prop} (hg : o.guard = none) (m x : Operand) (hop : o.op = Op.call { callee := Callee.builtin Builtin.delete, args := #[m, x], argTypes := #[38, 3] })
    {M n : Nat} {h : Int → Option Int} (hm : a.eval m = .map (some M)) (hown : Mh w M n h) (z : Int) (hx : a.eval x = .int .i64 z) (h1 : -9223372036854775808 ≤ z) (h2 : z ≤ 9223372036854775807)
    (hK : ∀ w', Mh w' M n (fun k => if k = z then none else h k) → w.grownBy w' (some M) → wpList Try.prog ops Q rest (a.put o.dst (.tuple #[])) w') : wpList Try.prog ops Q (o :: rest) a w := by
  obtain ⟨D, k1, k2, k3, k4⟩ := hown.out
  refine wpList_delete_own w hg m x 38 3 hop 3 law3 Try.underlying38 _ M n D hm k1 _ _ hx (keyOf_int_mk Try.underlying3 (wf_i64 h1 h2)) ?_
  intro w' j1 j2
  refine hK w' ⟨⟨_, j1, k2.del _, fun k => ?_, fun k v hv => ?_⟩⟩ j2.grown
  · by_cases hk : k = z
    · rw [if_pos hk, hk, has_del_same]; rfl
    · rw [if_neg hk, has_del_other (by simpa using hk)]; exact k3 k
  · by_cases hk : k = z
    · rw [if_pos hk] at hv; cases hv
    · rw [if_neg hk] at hv
      rw [atKey_del_other (by simpa using hk)]
      exact k4 k v hv

end Go.Proofs.Ytlehlpiphplcmaa.PostP
