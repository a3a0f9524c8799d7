/-
  Appending bytes to what a call owns, said by cells alone (a row that a conversion has marked is one, too); wide bounds.
-/
import Derived.Test.YthahflokacgjjaaC1
import Derived.Lib.AppendStr
import Derived.ArgAppend
import Derived.Deep.DeepAppendWide
import Derived.Deep.RegionLaw
import Derived.Deep.AppendLies
import Derived.Maps.AppendAt
namespace Go.Proofs.Ythahflokacgjjaa.WinP
open Go.RowKit Go.WinLaws Go.Proofs.Ythahflokacgjjaa.Pl
set_option linter.unusedVariables false

def bcells (xs : List UInt8) : List Value := xs.map fun b => Value.int .u8 b.toNat
theorem bcells_len (xs : List UInt8) : (bcells xs).length = xs.length := List.length_map _
theorem bcells_app (xs ys : List UInt8) : bcells (xs ++ ys) = bcells xs ++ bcells ys := List.map_append
theorem bcells_one (xs : List UInt8) : ∀ u ∈ bcells xs, u.oneCell' = true := by
  intro u hu
  simp only [bcells, List.mem_map] at hu
  obtain ⟨b, _, rfl⟩ := hu
  rfl
theorem strCells_eq (s : ByteArray) : Lib.strCells s = bcells s.data.toList := rfl

/-- v owns the bytes xs: its cells are there, free, and from block 'base' on -/
def Own (w : World) (base : Nat) (v : Value) (xs : List UInt8) : Prop :=
  (v = .slice none 0 0 ∧ xs = []) ∨
  ∃ g c, v = .slice (some ⟨g, 0, none⟩) xs.length c ∧ base ≤ g ∧ g < w.heap.size ∧ xs.length ≤ c ∧ c ≤ maxLen ∧
    (∀ j, j < c → (w.cell? ⟨g, j, none⟩).isSome = true ∧ w.frozen? ⟨g, j, none⟩ = false) ∧ ∀ j u, (bcells xs)[j]? = some u → w.cell? ⟨g, j, none⟩ = some u

theorem own_form {w : World} {base : Nat} {v : Value} {xs : List UInt8} (h : Own w base v xs) : ∃ A c, v = .slice A xs.length c := by
  rcases h with ⟨rfl, rfl⟩ | ⟨g, c, rfl, _⟩
  · exact ⟨none, 0, rfl⟩
  · exact ⟨_, _, rfl⟩

/-- how long a slice of bytes may become -/
def Fit (n : Nat) : Prop := n + n / 4 + 192 ≤ 281474976710656
theorem Fit.max {n : Nat} (h : Fit n) : n ≤ maxLen := by unfold Fit at h; unfold maxLen; omega

theorem nil_owns (w : World) (base : Nat) : Own w base (.slice none 0 0) [] := .inl ⟨rfl, rfl⟩

/-- what one owns, while nothing of it has turned -/
theorem own_kept {w w' : World} {base B : Nat} {v : Value} {xs : List UInt8} (h : Own w base v xs) (k : Below B w w') (hB : w.heap.size ≤ B) : Own w' base v xs := by
  rcases h with h | ⟨g, c, hv, hb, hg, h1, h2, h3, h4⟩
  · exact .inl h
  · refine .inr ⟨g, c, hv, hb, Nat.lt_of_lt_of_le hg k.size, h1, h2, fun j hj => ?_, fun j u hu => ?_⟩
    · rw [k.cell (by dsimp only; omega), k.frozen (by dsimp only; omega)]
      exact h3 j hj
    · rw [k.cell (by dsimp only; omega)]
      exact h4 j u hu

/-- a row of one's own -/
theorem own_row {w : World} {base g c : Nat} {cur : Array Value} {fr : Nat × Nat} {xs : List UInt8} (hg : w.heap[g]? = some (.cells cur 5 fr)) (hb : base ≤ g) (hc : cur.size = c) (hfr : c ≤ fr.1 ∨ fr = (0, 0)) (hm : c ≤ maxLen)
    (hx : ∃ rest, cur.toList = bcells xs ++ rest) : Own w base (.slice (some ⟨g, 0, none⟩) xs.length c) xs := by
  obtain ⟨rest, hr⟩ := hx
  have hlen : xs.length ≤ c := by
    have := congrArg List.length hr
    rw [List.length_append, bcells_len, Array.length_toList] at this
    omega
  refine .inr ⟨g, c, rfl, hb, lt_of_block hg, hlen, hm, fun j hj => ⟨?_, ?_⟩, fun j u hu => ?_⟩
  · rw [cell_of_row w g j cur 5 fr hg, Array.getElem?_eq_getElem (by omega)]
    rfl
  · rcases hfr with hfr | rfl
    · simp [World.frozen?, hg]
      omega
    · exact frozen_of_row w g j cur 5 hg
  · rw [cell_of_row w g j cur 5 fr hg, ← Array.getElem?_toList, hr, List.getElem?_append_left (by
      rcases Nat.lt_or_ge j (bcells xs).length with h | h
      · exact h
      · rw [List.getElem?_eq_none h] at hu; cases hu)]
    exact hu

/-- of the program's types: bytes -/
theorem ibyte : ∃ i : TypeInfo, Try.prog.info? 5 = some i ∧ i.zero = some (.int .u8 0) ∧ i.size = 1 ∧ i.bytes = 1 := by
  have h : (Try.prog.info? 5).map (fun i => (i.zero, i.size, i.bytes)) = some (some (.int .u8 0), 1, 1) := by kernel_rfl
  obtain ⟨i, hi, he⟩ := Option.map_eq_some_iff.1 h
  simp only [Prod.mk.injEq] at he
  exact ⟨i, hi, he.1, he.2.1, he.2.2⟩

theorem below_setCells {w : World} {base g : Nat} (hb : base ≤ g) : ∀ (vs : List Value) (o : Nat) (w : World), Below base w (w.setCells g o vs)
  | [], _, w => Below.refl _ _
  | v :: r, o, w => ((Below.refl base w).setCell (p := ⟨g, o, none⟩) hb v).trans (below_setCells (w := w) hb r (o + 1) _)

/-- what an append leaves alone, and where the new slice lies -/
structure Lies (w w' : World) (v : Value) (A : Option Addr) : Prop where
  grown : w.grownBy w' v.ownBlock
  lie : A.map Addr.block = v.ownBlock ∨ A.map Addr.block = some w.heap.size

theorem grown_setCells (g : Nat) : ∀ (vs : List Value) (o : Nat) (w : World), w.grownBy (w.setCells g o vs) (some g)
  | [], _, w => ⟨rfl, rfl, rfl, Nat.le_refl _, fun _ _ _ => rfl⟩
  | v :: r, o, w => by
    have h1 := (Below.refl 0 w).setCell (p := ⟨g, o, none⟩) (Nat.zero_le _) v
    have h2 := grown_setCells g r (o + 1) (w.setCell ⟨g, o, none⟩ v)
    exact World.grownBy.trans ⟨h1.os, h1.tape, h1.output, h1.size, fun k hk hne => Below.heap_setCell _ _ _ _ (fun e => hne (by simpa using congrArg some e))⟩ h2

theorem grown_made (w : World) (o : Obj) (row : Option Nat) : w.grownBy (w.drew.alloc o) row := ⟨rfl, rfl, rfl, by simp, fun _ hk _ => heap_alloc_old w.drew _ hk⟩

/-- the arm with room -/
theorem own_room {w : World} {base g c : Nat} {xs ys : List UInt8} (hb : base ≤ g) (hg : g < w.heap.size) (hm : c ≤ maxLen)
    (h3 : ∀ j, j < c → (w.cell? ⟨g, j, none⟩).isSome = true ∧ w.frozen? ⟨g, j, none⟩ = false) (h4 : ∀ j u, (bcells xs)[j]? = some u → w.cell? ⟨g, j, none⟩ = some u) (hr : xs.length + ys.length ≤ c) :
    Own (w.setCells g xs.length (bcells ys)) base (.slice (some ⟨g, 0, none⟩) (xs ++ ys).length c) (xs ++ ys) := by
  have hB := below_setCells (w := w) (base := base) hb (bcells ys) xs.length w
  refine .inr ⟨g, c, rfl, hb, Nat.lt_of_lt_of_le hg hB.size, by rw [List.length_append]; exact hr, hm, fun j hj => ?_, fun j u hu => ?_⟩
  · rw [World.frozen?_setCells]
    refine ⟨?_, (h3 j hj).2⟩
    by_cases hin : xs.length ≤ j ∧ j < xs.length + (bcells ys).length
    · have := World.cell?_setCells_in g (bcells ys) xs.length w (fun i hi => (h3 _ (by rw [bcells_len] at hi; omega)).1) (j - xs.length) (by omega)
      rw [show xs.length + (j - xs.length) = j by omega] at this
      rw [this]; rfl
    · rw [World.cell?_setCells_out g (bcells ys) xs.length w _ (fun _ _ => by dsimp only; omega)]
      exact (h3 j hj).1
  · rw [bcells_app] at hu
    by_cases hj : j < (bcells xs).length
    · rw [List.getElem?_append_left hj] at hu
      rw [World.cell?_setCells_out g (bcells ys) xs.length w _ (fun _ _ => by dsimp only; rw [bcells_len] at hj; omega)]
      exact h4 j u hu
    · rw [List.getElem?_append_right (by omega), bcells_len] at hu
      rw [bcells_len] at hj
      have hlt : j - xs.length < (bcells ys).length := by
        rcases Nat.lt_or_ge (j - xs.length) (bcells ys).length with h | h
        · exact h
        · rw [List.getElem?_eq_none h] at hu; cases hu
      have := World.cell?_setCells_in g (bcells ys) xs.length w (fun i hi => (h3 _ (by rw [bcells_len] at hi; omega)).1) (j - xs.length) hlt
      rw [show xs.length + (j - xs.length) = j by omega] at this
      rw [this, ← hu, List.getElem?_eq_getElem hlt]

theorem made_row (w : World) (base : Nat) (xs : List UInt8) (m cap : Nat) (hb : base ≤ w.heap.size) (hm : xs.length = m) (hge : m ≤ grownCap w m cap 5) (hcm : grownCap w m cap 5 ≤ maxLen) (cs : Array Value)
    (hcs : cs.toList = bcells xs ++ (Builtin.zeroCells (Value.int .u8 0).cells (grownCap w m cap 5 - m)).toList) :
    Own (w.drew.alloc (.cells cs 5)) base (.slice (some ⟨w.heap.size, 0, none⟩) xs.length (grownCap w m cap 5)) xs ∧ Below base w (w.drew.alloc (.cells cs 5)) := by
  refine ⟨own_row (heap_alloc_new w.drew _) hb ?_ (.inr rfl) hcm ⟨_, hcs⟩, ((Below.refl base w).drew.alloc hb _)⟩
  have := congrArg List.length hcs
  have hz1 : (Value.int IntKind.u8 0).cells.size = 1 := rfl
  simp only [Array.length_toList, List.length_append, bcells_len, size_zeroCells, hz1] at this
  omega

section
variable (w : World)

theorem run_bytes (base : Nat) (ty : TypeId) (v : Value) (xs : List UInt8) (hown : Own w base v xs) (ad : Addr) (m c : Nat) (ys : List UInt8) (hm : ys.length = m) (hnews : ∀ j u, (bcells ys)[j]? = some u → w.cell? (ad.add j) = some u)
    (hfit : Fit (xs.length + ys.length)) (hbase : base ≤ w.heap.size) :
    ∃ A c' w', (Builtin.append_ #[33, 33] ty #[v, .slice (some ad) m c]).run Try.prog w = .ok (.slice A (xs ++ ys).length c') w' ∧ Own w' base (.slice A (xs ++ ys).length c') (xs ++ ys) ∧ Below base w w' ∧ Lies w w' v A := by
  obtain ⟨i, hi, hz, h1, h2⟩ := ibyte
  have hmx := hfit.max
  unfold Fit at hfit
  unfold maxLen at hmx
  subst hm
  rcases hown with ⟨rfl, rfl⟩ | ⟨g, cap, rfl, hb, hg, hn, hcm, h3, h4⟩
  · by_cases h0 : ys.length = 0
    · obtain rfl : ys = [] := List.eq_nil_of_length_eq_zero h0
      refine ⟨none, 0, w, ?_, .inl ⟨rfl, rfl⟩, Below.refl _ _, ⟨⟨rfl, rfl, rfl, Nat.le_refl _, fun _ _ _ => rfl⟩, .inl rfl⟩⟩
      have hf := run_firstCells_some (P := Try.prog) w 1 0 ad 0 c [] rfl (fun j u hu => by simp at hu)
      simp [Builtin.append_, run_underlying Try.underlying33, sizeOf, typeInfo, hi, h1, Builtin.lenOf, hf]
    · have hr := run_append_nil (P := Try.prog) w 33 ty 5 i (.int .u8 0) Try.underlying33 hi hz ad ys.length c (bcells ys) (by rw [bcells_len, h1, Nat.mul_one]) hnews (by omega) (by simp at hmx; omega) (by rw [h2]; simp at hfit; omega)
      have hmk := made_row w base ys ys.length 0 hbase rfl (grownCap_ge _ _ _ _) (grownCap_le_maxLen _ _ _ _ (by unfold maxLen; simp at hmx; omega)) ((bcells ys).toArray ++ Builtin.zeroCells (Value.int .u8 0).cells (grownCap w ys.length 0 5 - ys.length)) (by simp)
      rw [List.nil_append]
      exact ⟨_, _, _, hr, hmk.1, hmk.2, ⟨grown_made _ _ _, .inr rfl⟩⟩
  · have hx : (bcells xs).length = xs.length * i.size := by rw [bcells_len, h1, Nat.mul_one]
    have hy : (bcells ys).length = ys.length * i.size := by rw [bcells_len, h1, Nat.mul_one]
    by_cases hr : xs.length + ys.length ≤ cap
    · have hrun := run_append_room_cells (P := Try.prog) w 33 ty 5 i Try.underlying33 hi g 0 xs.length cap ad ys.length c (bcells ys) hy hnews (bcells_one ys) hr
        (fun j hj => by rw [bcells_len] at hj; rw [h1, Nat.mul_one, Nat.zero_add]; exact (h3 _ (by omega)).1) (fun j hj => by rw [bcells_len] at hj; rw [h1, Nat.mul_one, Nat.zero_add]; exact (h3 _ (by omega)).2)
      rw [h1, Nat.mul_one, Nat.zero_add, ← List.length_append] at hrun
      exact ⟨_, _, _, hrun, own_room hb hg hcm h3 h4 hr, below_setCells (w := w) hb _ _ _, ⟨grown_setCells _ _ _ _, .inl rfl⟩⟩
    · have hrun := run_append_grow (P := Try.prog) w 33 ty 5 i (.int .u8 0) Try.underlying33 hi hz ⟨g, 0, none⟩ xs.length cap (bcells xs) hx (fun j u hu => by rw [Addr.add_lit, Nat.zero_add]; exact h4 j u hu) ad ys.length c (bcells ys) hy hnews (by omega) (by omega) (by rw [h2]; exact growslice_fits_wide (by omega) (by omega))
      have hmk := made_row w base (xs ++ ys) (xs.length + ys.length) cap hbase (by simp) (grownCap_ge _ _ _ _) (grownCap_le_maxLen _ _ _ _ (by unfold maxLen; omega)) ((bcells xs).toArray ++ (bcells ys).toArray ++ Builtin.zeroCells (Value.int .u8 0).cells (grownCap w (xs.length + ys.length) cap 5 - (xs.length + ys.length))) (by simp only [Array.toList_append, bcells_app])
      rw [← List.length_append] at hrun hmk
      exact ⟨_, _, _, hrun, hmk.1, hmk.2, ⟨grown_made _ _ _, .inr rfl⟩⟩

theorem run_str (base : Nat) (ty : TypeId) (v : Value) (xs : List UInt8) (hown : Own w base v xs) (s : ByteArray) (ys : List UInt8) (hs : s.data.toList = ys)
    (hfit : Fit (xs.length + ys.length)) (hbase : base ≤ w.heap.size) :
    ∃ A c' w', (Builtin.append_ #[33, 9] ty #[v, .string s]).run Try.prog w = .ok (.slice A (xs ++ ys).length c') w' ∧ Own w' base (.slice A (xs ++ ys).length c') (xs ++ ys) ∧ Below base w w' ∧ Lies w w' v A := by
  obtain ⟨i, hi, hz, h1, h2⟩ := ibyte
  have hmx := hfit.max
  unfold Fit at hfit
  unfold maxLen at hmx
  have hl : s.size = ys.length := by rw [← hs, Array.length_toList]; rfl
  have hsc : Lib.strCells s = bcells ys := by rw [strCells_eq, hs]
  have hfst := Lib.run_firstCells_string (P := Try.prog) w 1 s
  rcases hown with ⟨rfl, rfl⟩ | ⟨g, cap, rfl, hb, hg, hn, hcm, h3, h4⟩
  · by_cases h0 : ys.length = 0
    · obtain rfl : ys = [] := List.eq_nil_of_length_eq_zero h0
      refine ⟨none, 0, w, ?_, .inl ⟨rfl, rfl⟩, Below.refl _ _, ⟨⟨rfl, rfl, rfl, Nat.le_refl _, fun _ _ _ => rfl⟩, .inl rfl⟩⟩
      have hf := Lib.run_firstCells_string (P := Try.prog) w 1 s
      have hl0 : s.size = 0 := hl
      rw [hl0] at hf
      have hn0 : Lib.strCells s = [] := hsc
      simp [Builtin.append_, run_underlying Try.underlying33, run_underlying Try.underlying9, sizeOf, typeInfo, hi, h1, Builtin.lenOf, hl0, hf]
    · have hr := run_append_nil_string (P := Try.prog) w 33 9 ty 5 i (.int .u8 0) Try.underlying33 Try.underlying9 hi hz s (by omega) (by simp at hmx; omega) (by rw [h2]; simp at hfit; omega)
      have hmk := made_row w base ys s.size 0 hbase hl.symm (grownCap_ge _ _ _ _) (grownCap_le_maxLen _ _ _ _ (by unfold maxLen; simp at hmx; omega)) (s.data.map (fun b => Value.int .u8 b.toNat) ++ Builtin.zeroCells (Value.int .u8 0).cells (grownCap w s.size 0 5 - s.size)) (by
        rw [Array.toList_append, ← hsc]
        simp [Lib.strCells])
      rw [List.nil_append]
      rw [hl] at hr hmk
      exact ⟨_, _, _, hr, hmk.1, hmk.2, ⟨grown_made _ _ _, .inr rfl⟩⟩
  · by_cases hr : xs.length + ys.length ≤ cap
    · have hst := run_storeCells_cells (P := Try.prog) g xs.length (bcells ys) 0 w (fun j hj => by rw [bcells_len] at hj; rw [Nat.add_zero]; exact (h3 _ (by omega)).1) (fun j hj => by rw [bcells_len] at hj; rw [Nat.add_zero]; exact (h3 _ (by omega)).2) (bcells_one ys)
      rw [Nat.add_zero] at hst
      have hrun : (Builtin.append_ #[33, 9] ty #[.slice (some ⟨g, 0, none⟩) xs.length cap, .string s]).run Try.prog w = .ok (.slice (some ⟨g, 0, none⟩) (xs.length + s.size) cap) (w.setCells g xs.length (bcells ys)) := by
        rw [hsc] at hfst
        have hr' : xs.length + s.size ≤ cap := by rw [hl]; exact hr
        simp [Builtin.append_, run_underlying Try.underlying33, run_underlying Try.underlying9, sizeOf, typeInfo, hi, h1, Builtin.lenOf, hr', hfst, Addr.add_lit, hst]
      rw [hl, ← List.length_append] at hrun
      exact ⟨_, _, _, hrun, own_room hb hg hcm h3 h4 hr, below_setCells (w := w) hb _ _ _, ⟨grown_setCells _ _ _ _, .inl rfl⟩⟩
    · have hrun := Lib.run_append_grow_string (P := Try.prog) w 33 9 ty 5 i (.int .u8 0) Try.underlying33 Try.underlying9 hi hz ⟨g, 0, none⟩ xs.length cap (bcells xs) (by rw [bcells_len, h1, Nat.mul_one]) (fun j u hu => by rw [Addr.add_lit, Nat.zero_add]; exact h4 j u hu) s (by omega) (by omega) (by rw [h2]; exact growslice_fits_wide (by omega) (by omega))
      have hmk := made_row w base (xs ++ ys) (xs.length + ys.length) cap hbase (by simp) (grownCap_ge _ _ _ _) (grownCap_le_maxLen _ _ _ _ (by unfold maxLen; omega)) ((bcells xs).toArray ++ (bcells ys).toArray ++ Builtin.zeroCells (Value.int .u8 0).cells (grownCap w (xs.length + ys.length) cap 5 - (xs.length + ys.length))) (by simp only [Array.toList_append, bcells_app])
      rw [hl, hsc] at hrun
      rw [← List.length_append] at hrun hmk
      exact ⟨_, _, _, hrun, hmk.1, hmk.2, ⟨grown_made _ _ _, .inr rfl⟩⟩

end

theorem wp_bytes {o : Oper} {a : Act} {w : World} {K : Act → World → Prop} {Q : Exit → Act → World → Prop} (sl x : Operand)
    (ho : o.op = .call { callee := .builtin .append, args := #[sl, x], argTypes := #[33, 33] }) (base : Nat) (v : Value) (xs : List UInt8) (hs : a.eval sl = v) (hown : Own w base v xs)
    (ad : Addr) (m c : Nat) (ys : List UInt8) (hx : a.eval x = .slice (some ad) m c) (hm : ys.length = m) (hnews : ∀ j u, (bcells ys)[j]? = some u → w.cell? (ad.add j) = some u)
    (hfit : Fit (xs.length + ys.length)) (hbase : base ≤ w.heap.size)
    (h : ∀ A c w', Below base w w' → Own w' base (.slice A (xs ++ ys).length c) (xs ++ ys) → Lies w w' v A → K (a.put o.dst (.slice A (xs ++ ys).length c)) w') : o.wp Try.prog a w K Q := by
  obtain ⟨A, c', w', hr, h1, h2, h3⟩ := run_bytes w base o.type v xs hown ad m c ys hm hnews hfit hbase
  unfold Oper.wp execOp
  simp only [ho, resolve, invoke, builtin, Sem.run_bind, Sem.run_pure, Result.andThen_ok, List.map_toArray, List.map_cons, List.map_nil, hs, hx, hr]
  exact h A c' w' h2 h1 h3

theorem wp_str {o : Oper} {a : Act} {w : World} {K : Act → World → Prop} {Q : Exit → Act → World → Prop} (sl x : Operand)
    (ho : o.op = .call { callee := .builtin .append, args := #[sl, x], argTypes := #[33, 9] }) (base : Nat) (v : Value) (xs : List UInt8) (hs : a.eval sl = v) (hown : Own w base v xs)
    (s : ByteArray) (hx : a.eval x = .string s) (ys : List UInt8) (hy : s.data.toList = ys) (hfit : Fit (xs.length + ys.length)) (hbase : base ≤ w.heap.size)
    (h : ∀ A c w', Below base w w' → Own w' base (.slice A (xs ++ ys).length c) (xs ++ ys) → Lies w w' v A → K (a.put o.dst (.slice A (xs ++ ys).length c)) w') : o.wp Try.prog a w K Q := by
  obtain ⟨A, c', w', hr, h1, h2, h3⟩ := run_str w base o.type v xs hown s ys hy hfit hbase
  unfold Oper.wp execOp
  simp only [ho, resolve, invoke, builtin, Sem.run_bind, Sem.run_pure, Result.andThen_ok, List.map_toArray, List.map_cons, List.map_nil, hs, hx, hr]
  exact h A c' w' h2 h1 h3

theorem list_bytes {ops : Array Oper} {rest : List Oper} {o : Oper} {a : Act} {w : World} {Q : Exit → Act → World → Prop} (hgd : o.guard = none) (sl x : Operand)
    (ho : o.op = .call { callee := .builtin .append, args := #[sl, x], argTypes := #[33, 33] }) (base : Nat) (v : Value) (xs : List UInt8) (hs : a.eval sl = v) (hown : Own w base v xs)
    (ad : Addr) (m c : Nat) (ys : List UInt8) (hx : a.eval x = .slice (some ad) m c) (hm : ys.length = m) (hnews : ∀ j u, (bcells ys)[j]? = some u → w.cell? (ad.add j) = some u)
    (hfit : Fit (xs.length + ys.length)) (hbase : base ≤ w.heap.size)
    (h : ∀ A c w', Below base w w' → Own w' base (.slice A (xs ++ ys).length c) (xs ++ ys) → Lies w w' v A → wpList Try.prog ops Q rest (a.put o.dst (.slice A (xs ++ ys).length c)) w') : wpList Try.prog ops Q (o :: rest) a w :=
  wpList_plain hgd fun _ hK => wp_bytes sl x ho base v xs hs hown ad m c ys hx hm hnews hfit hbase fun A c w' h1 h2 h3 => hK _ _ (h A c w' h1 h2 h3)

theorem list_str {ops : Array Oper} {rest : List Oper} {o : Oper} {a : Act} {w : World} {Q : Exit → Act → World → Prop} (hgd : o.guard = none) (sl x : Operand)
    (ho : o.op = .call { callee := .builtin .append, args := #[sl, x], argTypes := #[33, 9] }) (base : Nat) (v : Value) (xs : List UInt8) (hs : a.eval sl = v) (hown : Own w base v xs)
    (s : ByteArray) (hx : a.eval x = .string s) (ys : List UInt8) (hy : s.data.toList = ys) (hfit : Fit (xs.length + ys.length)) (hbase : base ≤ w.heap.size)
    (h : ∀ A c w', Below base w w' → Own w' base (.slice A (xs ++ ys).length c) (xs ++ ys) → Lies w w' v A → wpList Try.prog ops Q rest (a.put o.dst (.slice A (xs ++ ys).length c)) w') : wpList Try.prog ops Q (o :: rest) a w :=
  wpList_plain hgd fun _ hK => wp_str sl x ho base v xs hs hown s hx ys hy hfit hbase fun A c w' h1 h2 h3 => hK _ _ (h A c w' h1 h2 h3)

theorem step_bytes {ops : Array Oper} {o : Oper} {a : Act} {w : World} {K : Act → World → Prop} {Q : Exit → Act → World → Prop} {E : Prop} (hgd : o.guard = none) (sl x : Operand)
    (ho : o.op = .call { callee := .builtin .append, args := #[sl, x], argTypes := #[33, 33] }) (base : Nat) (v : Value) (xs : List UInt8) (hs : a.eval sl = v) (hown : Own w base v xs)
    (ad : Addr) (m c : Nat) (ys : List UInt8) (hx : a.eval x = .slice (some ad) m c) (hm : ys.length = m) (hnews : ∀ j u, (bcells ys)[j]? = some u → w.cell? (ad.add j) = some u)
    (hfit : Fit (xs.length + ys.length)) (hbase : base ≤ w.heap.size)
    (h : ∀ A c w', Below base w w' → Own w' base (.slice A (xs ++ ys).length c) (xs ++ ys) → Lies w w' v A → K (a.put o.dst (.slice A (xs ++ ys).length c)) w') : if Region.wanted o (yielded ops a.tmps) = true then Oper.wp Try.prog o a w K Q else E := by
  have hw : Region.wanted o (yielded ops a.tmps) = true := by simp [Region.wanted, hgd]
  rw [if_pos hw]
  exact wp_bytes sl x ho base v xs hs hown ad m c ys hx hm hnews hfit hbase h

theorem step_str {ops : Array Oper} {o : Oper} {a : Act} {w : World} {K : Act → World → Prop} {Q : Exit → Act → World → Prop} {E : Prop} (hgd : o.guard = none) (sl x : Operand)
    (ho : o.op = .call { callee := .builtin .append, args := #[sl, x], argTypes := #[33, 9] }) (base : Nat) (v : Value) (xs : List UInt8) (hs : a.eval sl = v) (hown : Own w base v xs)
    (s : ByteArray) (hx : a.eval x = .string s) (ys : List UInt8) (hy : s.data.toList = ys) (hfit : Fit (xs.length + ys.length)) (hbase : base ≤ w.heap.size)
    (h : ∀ A c w', Below base w w' → Own w' base (.slice A (xs ++ ys).length c) (xs ++ ys) → Lies w w' v A → K (a.put o.dst (.slice A (xs ++ ys).length c)) w') : if Region.wanted o (yielded ops a.tmps) = true then Oper.wp Try.prog o a w K Q else E := by
  have hw : Region.wanted o (yielded ops a.tmps) = true := by simp [Region.wanted, hgd]
  rw [if_pos hw]
  exact wp_str sl x ho base v xs hs hown s hx ys hy hfit hbase h

end Go.Proofs.Ythahflokacgjjaa.WinP
