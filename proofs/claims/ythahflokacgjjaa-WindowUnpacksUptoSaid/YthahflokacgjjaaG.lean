/-
  A map of slices that a call has made, and its rows, said by the slices' heads alone: how a place is noted in it.
-/
import Derived.Test.YthahflokacgjjaaC4
import Derived.Maps.Own
import Derived.Maps.OwnRows
import Derived.Maps.OwnOps
import Derived.Maps.AppendAt
import Derived.Maps.Views
namespace Go.Proofs.Ythahflokacgjjaa.WinP
open Go.RowKit Go.WinLaws Go.Maps Go.ChangeMaps Go.ChangeShapes Go.WideMaps Go.Proofs.Ythahflokacgjjaa.Pl
set_option linter.unusedVariables false

/-- how the head of a slice reads -/
def hdRd : Value → Option (DataW Unit × List MemPlace)
  | .slice none n c => some (.slice (lits .i64 [(n : Int), (c : Int)]) [], [])
  | .slice (some ⟨g, 0, none⟩) n c => some (.slice (lits .i64 [(n : Int), (c : Int), (g : Int)]) [], [])
  | _ => none

def hdNil : DataW Unit := .slice (lits .i64 [0, 0]) []
theorem hdRd_nil : hdRd (.slice none 0 0) = some (hdNil, []) := rfl

theorem hdRd_inj {u v : Value} {d : DataW Unit} {p q : List MemPlace} (hu : hdRd u = some (d, p)) (hv : hdRd v = some (d, q)) : u = v := by
  unfold hdRd at hu hv
  split at hu <;> split at hv <;> simp [lits] at hu hv
  all_goals (obtain ⟨rfl, _⟩ := hu; simp at hv)
  all_goals (simp; omega)

/-- block b is a map of at most n entries with the head 'hd k' at the key k -/
structure Stood (w : World) (b n : Nat) (hd : List UInt8 → Value) : Prop where
  out : ∃ D, w.ownsMap Try.prog 9 hdRd b n D ∧ IsMap D ∧ ∀ k, ∃ p, hdRd (hd k) = some (D.atKey (.string k) hdNil, p)

theorem law9 : Keyed Try.prog 9 := string_keyed Try.underlying9
theorem zero31 (w : World) : (zeroValue 31).run Try.prog w = .ok (.slice none 0 0) w := by kernel_rfl

theorem Stood.made (w : World) : Stood (w.alloc (.map #[] 0)) w.heap.size 0 (fun _ => .slice none 0 0) :=
  ⟨⟨_, World.ownsMap_made w Try.prog 9 hdRd, isMap_empty, fun k => ⟨[], rfl⟩⟩⟩
theorem Stood.kept {w w' : World} {b n : Nat} {hd : List UInt8 → Value} {row : Option Nat} (h : Stood w b n hd) (hg : w.grownBy w' row) (hne : some b ≠ row) : Stood w' b n hd := by
  obtain ⟨D, h1, h2⟩ := h.out
  exact ⟨⟨D, h1.kept hg hne, h2⟩⟩
theorem Stood.lt {w : World} {b n : Nat} {hd : List UInt8 → Value} (h : Stood w b n hd) : b < w.heap.size := by
  obtain ⟨D, h1, h2⟩ := h.out
  exact h1.lt
theorem Stood.of_block {w w' : World} {b n : Nat} {hd : List UInt8 → Value} (h : Stood w b n hd) (hb : w'.heap[b]? = w.heap[b]?) : Stood w' b n hd := by
  obtain ⟨D, ⟨es, clock, h1, h2⟩, h3⟩ := h.out
  exact ⟨⟨D, ⟨es, clock, hb.trans h1, h2⟩, h3⟩⟩

theorem Stood.lookup {w : World} {b n : Nat} {hd : List UInt8 → Value} (h : Stood w b n hd) (s : ByteArray) (hs : s.size ≤ maxLen) :
    (Instr.lookup 30 (.map (some b)) (.string s) false).run Try.prog w = .ok (hd s.data.toList) w := by
  obtain ⟨D, h1, h2, h3⟩ := h.out
  obtain ⟨v, ps, hr, hv⟩ := h1.lookup law9 Try.underlying30 (zero31 w) hdRd_nil (keyOf_string_mk Try.underlying9 hs)
  obtain ⟨p, hp⟩ := h3 s.data.toList
  rw [hr, hdRd_inj hp hv]

theorem Stood.update {w : World} {b n : Nat} {hd : List UInt8 → Value} (h : Stood w b n hd) (s : ByteArray) (hs : s.size ≤ maxLen) (hn : n < maxLen) (v : Value) {d : DataW Unit} {p : List MemPlace} (hv : hdRd v = some (d, p)) :
    ∃ w', (Instr.mapUpdate 30 (.map (some b)) (.string s) v).run Try.prog w = .ok () w' ∧ Stood w' b (n + 1) (fun k => if k = s.data.toList then v else hd k) ∧ w.grownBy w' (some b) := by
  obtain ⟨D, h1, h2, h3⟩ := h.out
  have hk := keyOf_string_mk (P := Try.prog) Try.underlying9 hs
  obtain ⟨w', hr, h4, h5⟩ := h1.update law9 Try.underlying30 hn hk hv
  refine ⟨w', hr, ⟨⟨_, h4, h2.put _ _, fun k => ?_⟩⟩, h5⟩
  by_cases hkk : k = s.data.toList
  · rw [if_pos hkk, hkk, atKey_put_same h2 (law9.key hk)]
    exact ⟨p, hv⟩
  · rw [if_neg hkk, atKey_put_other (by simpa using hkk)]
    exact h3 k

/-! ### the rows -/
def ints (zs : List Int) : List Value := zs.map (Value.int .i64)

structure Grp (w : World) (b base n : Nat) (hd : List UInt8 → Value) (zs : List UInt8 → List Int) : Prop where
  st : Stood w b n hd
  own : ∀ k, w.ownsRow base 3 1 (hd k) (zs k).length (ints (zs k))
  sep : ∀ k k', k ≠ k' → (hd k).ownBlock = none ∨ (hd k).ownBlock ≠ (hd k').ownBlock
  len : ∀ k, (zs k).length ≤ n

/-- what is done between: nothing but the map's block b, its rows, and new blocks -/
structure Nt (w w' : World) (b : Nat) (hd hd' : List UInt8 → Value) : Prop where
  os : w'.os = w.os
  tape : w'.tape = w.tape
  output : w'.output = w.output
  size : w.heap.size ≤ w'.heap.size
  block : ∀ i, i < w.heap.size → i ≠ b → (∀ k, (hd k).ownBlock ≠ some i) → w'.heap[i]? = w.heap[i]?
  loc : ∀ k, (hd' k).ownBlock = (hd k).ownBlock ∨ ∃ g, (hd' k).ownBlock = some g ∧ w.heap.size ≤ g

theorem Nt.refl (w : World) (b : Nat) (hd : List UInt8 → Value) : Nt w w b hd hd := ⟨rfl, rfl, rfl, Nat.le_refl _, fun _ _ _ _ => rfl, fun _ => .inl rfl⟩
theorem Nt.trans {w w1 w2 : World} {b : Nat} {hd hd1 hd2 : List UInt8 → Value} (h : Nt w w1 b hd hd1) (k : Nt w1 w2 b hd1 hd2) : Nt w w2 b hd hd2 :=
  ⟨k.os.trans h.os, k.tape.trans h.tape, k.output.trans h.output, Nat.le_trans h.size k.size, fun i hi hb hn => (k.block i (Nat.lt_of_lt_of_le hi h.size) hb (fun q e => by
    rcases h.loc q with h1 | ⟨g, h1, h2⟩
    · exact hn q (h1.symm.trans e)
    · rw [h1] at e; cases e; omega)).trans (h.block i hi hb hn), fun q => by
    rcases k.loc q with h1 | ⟨g, h1, h2⟩
    · rcases h.loc q with h3 | ⟨g, h3, h4⟩
      · exact .inl (h1.trans h3)
      · exact .inr ⟨g, h1.trans h3, h4⟩
    · exact .inr ⟨g, h1, Nat.le_trans h.size h2⟩⟩

theorem Nt.below {w w' : World} {b B : Nat} {hd hd' : List UInt8 → Value} (h : Nt w w' b hd hd') (hb : B ≤ b) (hr : ∀ k g, (hd k).ownBlock = some g → B ≤ g) (hs : B ≤ w.heap.size) : Below B w w' :=
  ⟨h.os, h.tape, h.output, h.size, fun i hi => h.block i (by omega) (by omega) (fun k e => by have := hr k i e; omega)⟩

/-- one row turns, and the map takes its head -/
theorem Grp.turn {w w1 w2 : World} {b base n : Nat} {hd : List UInt8 → Value} {zs : List UInt8 → List Int} (h : Grp w b base n hd zs) (hbb : b < base) (k0 : List UInt8) (v : Value) (z : Int)
    (hown : w1.ownsRow base 3 1 v ((zs k0).length + 1) (ints (zs k0) ++ [.int .i64 z])) (hg : w.grownBy w1 (hd k0).ownBlock) (hloc : v.ownBlock = (hd k0).ownBlock ∨ ∃ g, v.ownBlock = some g ∧ w.heap.size ≤ g)
    (hst : Stood w2 b (n + 1) (fun k => if k = k0 then v else hd k)) (hg2 : w1.grownBy w2 (some b)) :
    Grp w2 b base (n + 1) (fun k => if k = k0 then v else hd k) (fun k => if k = k0 then zs k ++ [z] else zs k) ∧ Nt w w2 b hd (fun k => if k = k0 then v else hd k) := by
  have nb : ∀ {u : Value} {m : Nat} {xs : List Value} {W : World}, W.ownsRow base 3 1 u m xs → u.ownBlock = none ∨ u.ownBlock ≠ some b := fun {u m xs W} ho => by
    cases hu : u.ownBlock with
    | none => exact .inl rfl
    | some g => exact .inr (fun e => by have := (ho.lt g hu).1; cases e; omega)
  refine ⟨⟨hst, fun k => ?_, fun k k' hne => ?_, fun k => ?_⟩, ⟨hg2.os.trans hg.os, hg2.tape.trans hg.tape, hg2.output.trans hg.output, Nat.le_trans hg.size hg2.size, fun i hi hb hn => ?_, fun k => ?_⟩⟩
  · by_cases hk : k = k0
    · simp only [if_pos hk]
      subst hk
      have := hown.kept hg2 (nb hown)
      simpa [ints] using this
    · simp only [if_neg hk]
      exact ((h.own k).kept hg (h.sep k k0 hk)).kept hg2 (nb (h.own k))
  · -- apart
    have far : ∀ k, k ≠ k0 → (hd k).ownBlock = none ∨ (hd k).ownBlock ≠ v.ownBlock := fun k hk => by
      rcases hloc with h1 | ⟨g, h1, h2⟩
      · rw [h1]; exact h.sep k k0 hk
      · cases hu : (hd k).ownBlock with
        | none => exact .inl rfl
        | some gx =>
          refine .inr (fun e => ?_)
          have := ((h.own k).lt gx hu).2
          rw [h1] at e
          cases e
          omega
    by_cases hk : k = k0
    · have hk' : k' ≠ k0 := fun e => hne (hk.trans e.symm)
      simp only [if_pos hk, if_neg hk']
      cases hv : v.ownBlock with
      | none => exact .inl rfl
      | some g =>
        refine .inr (fun e => ?_)
        rcases far k' hk' with h1 | h1
        · rw [h1] at e; cases e
        · exact h1 (by rw [hv, e])
    · by_cases hk' : k' = k0
      · simp only [if_neg hk, if_pos hk']
        exact far k hk
      · simp only [if_neg hk, if_neg hk']
        exact h.sep k k' hne
  · have := h.len k
    split
    · simp; exact this
    · exact Nat.le_succ_of_le this
  · exact (hg2.block i (Nat.lt_of_lt_of_le hi hg.size) (fun e => hb (by cases e; rfl))).trans (hg.block i hi (fun e => hn k0 e.symm))
  · by_cases hk : k = k0
    · simp only [hk]
      exact hloc
    · rw [if_neg hk]
      exact .inl rfl

theorem Grp.mono {w : World} {b base n : Nat} {hd : List UInt8 → Value} {zs : List UInt8 → List Int} (h : Grp w b base n hd zs) : Grp w b base (n + 1) hd zs := by
  obtain ⟨D, h1, h2⟩ := h.st.out
  exact ⟨⟨⟨D, h1.mono (Nat.le_succ n), h2⟩⟩, h.own, h.sep, fun k => Nat.le_succ_of_le (h.len k)⟩

/-- elsewhere only has anything turned -/
theorem Grp.kept {w w' : World} {b base n : Nat} {hd : List UInt8 → Value} {zs : List UInt8 → List Int} (h : Grp w b base n hd zs) {row : Option Nat} (hg : w.grownBy w' row) (hb : some b ≠ row) (hr : ∀ k, (hd k).ownBlock = none ∨ (hd k).ownBlock ≠ row) : Grp w' b base n hd zs :=
  ⟨h.st.kept hg hb, fun k => (h.own k).kept hg (hr k), h.sep, h.len⟩
theorem Grp.alloc {w : World} {b base n : Nat} {hd : List UInt8 → Value} {zs : List UInt8 → List Int} (h : Grp w b base n hd zs) (o : Obj) : Grp (w.alloc o) b base n hd zs :=
  h.kept (World.grownBy_alloc w o none) (by simp) (fun k => by cases (hd k).ownBlock <;> simp)

/-- the map with its two variables -/
structure Mp (w : World) (B : Nat) (s : ByteArray) (n : Nat) (hd : List UInt8 → Value) (zs : List UInt8 → List Int) : Prop where
  k0 : w.heap[B]? = some (.cells #[.string s] 9 (0, 0))
  k2 : w.heap[B + 2]? = some (.cells #[.map (some (B + 1))] 30 (0, 0))
  g : Grp w (B + 1) (B + 3) n hd zs

namespace Mp
variable {w w' : World} {B : Nat} {s : ByteArray} {n : Nat} {hd : List UInt8 → Value} {zs : List UInt8 → List Int}
theorem c0 (h : Mp w B s n hd zs) : w.cell? ⟨B, 0, none⟩ = some (.string s) := by rw [cell_of_row w _ 0 _ _ _ h.k0]; rfl
theorem c2 (h : Mp w B s n hd zs) : w.cell? ⟨B + 2, 0, none⟩ = some (.map (some (B + 1))) := by rw [cell_of_row w _ 0 _ _ _ h.k2]; rfl
theorem size (h : Mp w B s n hd zs) : B + 3 ≤ w.heap.size := lt_of_block h.k2
theorem kept (h : Mp w B s n hd zs) {row : Option Nat} (hg : w.grownBy w' row) (hb : ∀ i, row = some i → B + 3 ≤ i) (hr : ∀ k, (hd k).ownBlock = none ∨ (hd k).ownBlock ≠ row) : Mp w' B s n hd zs := by
  have hz := h.size
  exact ⟨(hg.block B (by omega) (fun e => by have := hb B e.symm; omega)).trans h.k0, (hg.block (B + 2) (by omega) (fun e => by have := hb _ e.symm; omega)).trans h.k2, h.g.kept hg (fun e => by have := hb _ e.symm; omega) hr⟩
theorem alloc (h : Mp w B s n hd zs) (o : Obj) : Mp (w.alloc o) B s n hd zs := h.kept (World.grownBy_alloc w o none) (fun i e => by cases e) (fun k => by cases (hd k).ownBlock <;> simp)
theorem drewN (h : Mp w B s n hd zs) (m : Nat) : Mp (w.drewN m) B s n hd zs := h.kept (row := none) ⟨rfl, rfl, rfl, Nat.le_refl _, fun _ _ _ => rfl⟩ (fun i e => by cases e) (fun k => by cases (hd k).ownBlock <;> simp)
theorem mono (h : Mp w B s n hd zs) : Mp w B s (n + 1) hd zs := ⟨h.k0, h.k2, h.g.mono⟩
end Mp

/-- a place more is noted -/
def noted (L : List UInt8) (a : Nat) (zs : List UInt8 → List Int) : List UInt8 → List Int :=
  if a + 4 ≤ L.length then fun k => if k = (L.drop a).take 4 then zs k ++ [(a : Int)] else zs k else zs

/-! ### the operations, inside a region that draws its order -/
theorem step_lookup {ops : Array Oper} {o : Oper} {a : Act} {w : World} {K : Act → World → Prop} {Q : Exit → Act → World → Prop} {E : Prop} (hgd : o.guard = none) (m x : Operand) (ho : o.op = .lookup 30 m x false)
    {b n : Nat} {hd : List UInt8 → Value} (hs : Stood w b n hd) (hm : a.eval m = .map (some b)) (s : ByteArray) (hx : a.eval x = .string s) (hl : s.size ≤ maxLen) (v : Value) (hv : hd s.data.toList = v)
    (h : K (a.put o.dst v) w) : if Region.wanted o (yielded ops a.tmps) = true then Oper.wp Try.prog o a w K Q else E := by
  have hw : Region.wanted o (yielded ops a.tmps) = true := by simp [Region.wanted, hgd]
  rw [if_pos hw]
  unfold Oper.wp
  subst hv
  simp [execOp, ho, hm, hx, hs.lookup s hl, Result.andThen]
  exact h

theorem step_update {ops : Array Oper} {o : Oper} {a : Act} {w : World} {K : Act → World → Prop} {Q : Exit → Act → World → Prop} {E : Prop} (hgd : o.guard = none) (m x y : Operand) (ho : o.op = .mapUpdate 30 m x y)
    {b n : Nat} {hd : List UInt8 → Value} (hs : Stood w b n hd) (hm : a.eval m = .map (some b)) (s : ByteArray) (hx : a.eval x = .string s) (hl : s.size ≤ maxLen) (k0 : List UInt8) (hk0 : s.data.toList = k0) (hn : n < maxLen) (v : Value) (hv : a.eval y = v) {d : DataW Unit} {p : List MemPlace} (hd1 : hdRd v = some (d, p))
    (h : ∀ w', Stood w' b (n + 1) (fun k => if k = k0 then v else hd k) → w.grownBy w' (some b) → K (a.put o.dst undef) w') : if Region.wanted o (yielded ops a.tmps) = true then Oper.wp Try.prog o a w K Q else E := by
  have hw : Region.wanted o (yielded ops a.tmps) = true := by simp [Region.wanted, hgd]
  rw [if_pos hw]
  subst hk0
  obtain ⟨w', hr, h1, h2⟩ := hs.update s hl hn v hd1
  unfold Oper.wp
  simp [execOp, ho, hm, hx, hv, hr, Result.andThen]
  exact h w' h1 h2

theorem iint : ∃ i : TypeInfo, Try.prog.info? 3 = some i ∧ i.zero = some (.int .i64 0) ∧ i.size = 1 ∧ i.bytes = 8 := by
  have h : (Try.prog.info? 3).map (fun i => (i.zero, i.size, i.bytes)) = some (some (.int .i64 0), 1, 8) := by kernel_rfl
  obtain ⟨i, hi, he⟩ := Option.map_eq_some_iff.1 h
  simp only [Prod.mk.injEq] at he
  exact ⟨i, hi, he.1, he.2.1, he.2.2⟩

theorem hdRd_own {w : World} {base n : Nat} {v : Value} {xs : List Value} (h : w.ownsRow base 3 1 v n xs) : ∃ d p, hdRd v = some (d, p) := by
  rcases h.2 with ⟨rfl, _⟩ | ⟨g, cap, cur, rfl, _⟩
  · exact ⟨_, _, rfl⟩
  · exact ⟨_, _, rfl⟩

theorem step_int {ops : Array Oper} {o : Oper} {a : Act} {w : World} {K : Act → World → Prop} {Q : Exit → Act → World → Prop} {E : Prop} (hgd : o.guard = none) (sl x : Operand)
    (ho : o.op = .call { callee := .builtin .append, args := #[sl, x], argTypes := #[31, 31] }) (base : Nat) (v : Value) (zs : List Int) (hs : a.eval sl = v) (hown : w.ownsRow base 3 1 v zs.length (ints zs)) (g : Nat) (z : Int)
    (hx : a.eval x = .slice (some ⟨g, 0, none⟩) 1 1) (hg : w.heap[g]? = some (.cells #[.int .i64 z] 3 (0, 0))) (hn : zs.length ≤ 1073741824) (hbase : base ≤ w.heap.size)
    (h : ∀ v' w', w'.ownsRow base 3 1 v' (zs.length + 1) (ints zs ++ [.int .i64 z]) → w.grownBy w' v.ownBlock → (v'.ownBlock = v.ownBlock ∨ v'.ownBlock = some w.heap.size) → K (a.put o.dst v') w') :
    if Region.wanted o (yielded ops a.tmps) = true then Oper.wp Try.prog o a w K Q else E := by
  have hw : Region.wanted o (yielded ops a.tmps) = true := by simp [Region.wanted, hgd]
  rw [if_pos hw]
  obtain ⟨i, hi, hz, h1, h2⟩ := iint
  obtain ⟨v', w', hr, k1, k2, k3, k4⟩ := run_append_own_at (P := Try.prog) w base 31 o.type 3 i (.int .i64 0) 1 8 Try.underlying31 hi hz h1 h2 rfl (by decide) v zs.length (ints zs) hown ⟨g, 0, none⟩ 1 1 [.int .i64 z] rfl
    (World.news_of_block (cs := #[.int .i64 z]) (t := 3) (fr := (0, 0)) hg) (by simp [Value.oneCell']) (by unfold maxLen; omega) (by omega) hbase
  unfold Oper.wp execOp
  simp only [ho, resolve, invoke, builtin, Sem.run_bind, Sem.run_pure, Result.andThen_ok, List.map_toArray, List.map_cons, List.map_nil, hs, hx, hr]
  exact h v' w' k1 k2 k4

end Go.Proofs.Ythahflokacgjjaa.WinP
