/-
  Appending bytes: what a call owns, as bytes; wide bounds.
-/
import Derived.Test.YtnbihffkaagmjaaC1
import Derived.Lib.AppendStr
import Derived.Deep.DeepAppendWide
import Derived.Deep.RegionLaw
import Derived.Deep.AppendLies
namespace Go.Proofs.Ytnbihffkaagmjaa.RunsP
open Go.RowKit Go.RunLaws Go.Proofs.Ytnbihffkaagmjaa.Pl
set_option linter.unusedVariables false

def bcells (xs : List UInt8) : List Value := xs.map fun b => Value.int .u8 b.toNat
theorem bcells_len (xs : List UInt8) : (bcells xs).length = xs.length := List.length_map _
theorem bcells_app (xs ys : List UInt8) : bcells (xs ++ ys) = bcells xs ++ bcells ys := List.map_append
theorem bcells_one (xs : List UInt8) : ∀ u ∈ bcells xs, u.oneCell' = true := by
  intro u hu
  simp only [bcells, List.mem_map] at hu
  obtain ⟨b, _, rfl⟩ := hu
  rfl
theorem strCells_eq (s : ByteArray) : Lib.strCells s = bcells s.data.toList := rfl

/-- v owns the bytes xs -/
abbrev Own (w : World) (base : Nat) (v : Value) (xs : List UInt8) : Prop := w.ownsRow base 5 1 v xs.length (bcells xs)

/-- how long a slice of bytes may become -/
def Fit (n : Nat) : Prop := n + n / 4 + 192 ≤ 281474976710656

theorem Fit.max {n : Nat} (h : Fit n) : n ≤ maxLen := by unfold Fit at h; unfold maxLen; omega

section
variable {P : Program} (w : World)

theorem run_str (base : Nat) (t u ty e : TypeId) (i : TypeInfo) (ht : P.underlying t = some (.slice e)) (hu : P.underlying u = some .string) (hi : P.info? e = some i) (hz : i.zero = some (.int .u8 0))
    (hsize : i.size = 1) (hby : i.bytes = 1) (v : Value) (n : Nat) (xs : List Value) (hown : w.ownsRow base e 1 v n xs) (s : ByteArray) (hfit : Fit (n + s.size)) (hbase : base ≤ w.heap.size) :
    ∃ v' w', (Builtin.append_ #[t, u] ty #[v, .string s]).run P w = .ok v' w' ∧ w'.ownsRow base e 1 v' (n + s.size) (xs ++ Lib.strCells s) ∧ w.grownBy w' v.ownBlock := by
  have hmax := hfit.max
  unfold Fit at hfit
  have hxl : xs.length = n := by simpa using hown.1
  by_cases h47 : n + s.size ≤ 140737488355328
  · obtain ⟨v', w', a, b, c, _⟩ := Lib.run_append_own_string (P := P) w base t u ty e i ht hu hi hz hsize hby v n xs hown s hmax h47 hbase
    exact ⟨v', w', a, b, c⟩
  have hlen : (xs ++ Lib.strCells s).length = (n + s.size) * 1 := by rw [List.length_append, hxl, Lib.strCells_length, Nat.mul_one]
  have made : ∀ (old : Nat), old < n + s.size → ∀ (row : Option Nat) (cs : Array Value), cs = xs.toArray ++ (Lib.strCells s).toArray ++ Builtin.zeroCells (Value.int .u8 0).cells (grownCap w (n + s.size) old e - (n + s.size)) →
      (w.drew.alloc (.cells cs e)).ownsRow base e 1 (.slice (some ⟨w.heap.size, 0, none⟩) (n + s.size) (grownCap w (n + s.size) old e)) (n + s.size) (xs ++ Lib.strCells s) ∧ w.grownBy (w.drew.alloc (.cells cs e)) row := by
    intro old ho row cs hcs
    subst hcs
    have hge := grownCap_ge w (n + s.size) old e
    refine ⟨⟨hlen, .inr ⟨w.heap.size, _, _, rfl, hbase, heap_alloc_new w.drew _, hge, grownCap_le_maxLen w (n + s.size) old e hmax, ?_, ?_⟩⟩, ⟨rfl, rfl, rfl, by simp, fun k hk _ => Below.heap_alloc w.drew _ k hk⟩⟩
    · have hz1 : (Value.int IntKind.u8 0).cells.size = 1 := rfl
      simp only [Array.size_append, List.size_toArray, size_zeroCells, hz1, hxl, Lib.strCells_length]
      omega
    · simp only [Array.toList_append, List.append_assoc]
      rw [← List.append_assoc, ← hlen]
      exact List.take_left
  rcases hown.2 with ⟨rfl, rfl⟩ | ⟨g, cap, cur, rfl, hbg, hg, hnc, hcm, hcs, htake⟩
  · have hx : xs = [] := List.eq_nil_of_length_eq_zero hxl
    subst hx
    have hr := run_append_nil_string (P := P) w t u ty e i (.int .u8 0) ht hu hi hz s (by omega) (by unfold maxLen at hmax; omega) (by rw [hby]; omega)
    have hgr := made 0 (by omega) (Value.ownBlock (.slice none 0 0)) _ rfl
    simp only [Nat.zero_add, List.nil_append, Array.empty_append] at hgr ⊢
    have e1 : (s.data.map fun b => Value.int .u8 b.toNat) = (Lib.strCells s).toArray := by
      apply Array.ext'
      simp [Lib.strCells]
    rw [e1] at hr
    exact ⟨_, _, hr, hgr.1, hgr.2⟩
  · by_cases hroom : n + s.size ≤ cap
    · have hcs' : cur.size = cap := by simpa using hcs
      have hr := Lib.run_append_room_string (P := P) w t u ty e i ht hu hi hsize g n cap cur hg s hroom (by omega)
      refine ⟨_, _, hr, ⟨hlen, .inr ⟨g, cap, _, rfl, hbg, setRow_heap w g cur _ e _ hg, hroom, hcm, ?_, ?_⟩⟩, ⟨rfl, rfl, rfl, by simp, fun k _ hk => setRow_other w g k _ (fun e => hk (by simp [Value.ownBlock, e]))⟩⟩
      · simp only [List.size_toArray, List.length_append, List.length_take, List.length_drop, Array.length_toList, Lib.strCells_length]
        omega
      · have ht' : cur.toList.take n = xs := by simpa using htake
        rw [ht', ← hlen]
        exact List.take_left
    · have hr := Lib.run_append_grow_string (P := P) w t u ty e i (.int .u8 0) ht hu hi hz ⟨g, 0, none⟩ n cap xs (by rw [hsize]; simpa using hxl) (hown.cells (g := g) rfl) s (by omega) (by unfold maxLen at hmax; omega) (by rw [hby]; exact growslice_fits_wide (by omega) (by omega))
      have hgr := made cap (by omega) (Value.ownBlock (.slice (some ⟨g, 0, none⟩) n cap)) _ rfl
      exact ⟨_, _, hr, hgr.1, hgr.2⟩
end

/-- of the program's types: bytes -/
theorem ibyte : ∃ i : TypeInfo, Try.prog.info? 5 = some i ∧ i.zero = some (.int .u8 0) ∧ i.size = 1 ∧ i.bytes = 1 := by
  have h : (Try.prog.info? 5).map (fun i => (i.zero, i.size, i.bytes)) = some (some (.int .u8 0), 1, 1) := by kernel_rfl
  obtain ⟨i, hi, he⟩ := Option.map_eq_some_iff.1 h
  simp only [Prod.mk.injEq] at he
  exact ⟨i, hi, he.1, he.2.1, he.2.2⟩

/-- what an append leaves: the value owns more; below the base nothing has turned -/
theorem own_below {w w' : World} {base : Nat} {v : Value} {xs : List UInt8} (h : Own w base v xs) (hg : w.grownBy w' v.ownBlock) (hb : base ≤ w.heap.size) : Below base w w' :=
  (Below.refl _ _).grown hg hb (fun q hq => (h.lt q hq).1)

/-- a value that owns a row is a slice of its length -/
theorem own_form {w : World} {base : Nat} {v : Value} {n : Nat} {xs : List UInt8} (h : w.ownsRow base 5 1 v n (bcells xs)) : ∃ A c, v = .slice A n c := by
  have hl : (bcells xs).length = n * 1 := h.1
  rcases h.2 with ⟨rfl, h0⟩ | ⟨g, cap, cur, rfl, _⟩
  · exact ⟨none, 0, by rw [h0]⟩
  · exact ⟨_, _, rfl⟩

theorem wp_bytes {o : Oper} {a : Act} {w : World} {K : Act → World → Prop} {Q : Exit → Act → World → Prop} (sl x : Operand)
    (ho : o.op = .call { callee := .builtin .append, args := #[sl, x], argTypes := #[30, 30] }) (base : Nat) (v : Value) (xs : List UInt8) (hs : a.eval sl = v) (hown : Own w base v xs)
    (ad : Addr) (m c : Nat) (ys : List UInt8) (hx : a.eval x = .slice (some ad) m c) (hm : ys.length = m) (hnews : ∀ j u, (bcells ys)[j]? = some u → w.cell? (ad.add j) = some u)
    (hfit : Fit (xs.length + ys.length)) (hbase : base ≤ w.heap.size)
    (h : ∀ A c w', Below base w w' → Own w' base (.slice A (xs ++ ys).length c) (xs ++ ys) → K (a.put o.dst (.slice A (xs ++ ys).length c)) w') : o.wp Try.prog a w K Q := by
  obtain ⟨i, hi, hz, h1, h2⟩ := ibyte
  have hmx := hfit.max
  unfold Fit at hfit
  refine wp_append_own_wide w sl x 30 ho base 5 i (.int .u8 0) 1 1 Try.underlying30 hi hz h1 h2 rfl (by decide) v xs.length (bcells xs) hs hown ad m c (bcells ys) hx (by rw [bcells_len, hm, Nat.mul_one]) hnews (bcells_one ys) (by omega) (by omega) hbase ?_
  intro v' w' a1 a2 _
  rw [← bcells_app, ← hm, ← List.length_append] at a1
  obtain ⟨A, c, rfl⟩ := own_form a1
  exact h A c w' (own_below hown a2 hbase) a1

theorem wp_str {o : Oper} {a : Act} {w : World} {K : Act → World → Prop} {Q : Exit → Act → World → Prop} (sl x : Operand)
    (ho : o.op = .call { callee := .builtin .append, args := #[sl, x], argTypes := #[30, 9] }) (base : Nat) (v : Value) (xs : List UInt8) (hs : a.eval sl = v) (hown : Own w base v xs)
    (s : ByteArray) (hx : a.eval x = .string s) (ys : List UInt8) (hy : s.data.toList = ys) (hfit : Fit (xs.length + ys.length)) (hbase : base ≤ w.heap.size)
    (h : ∀ A c w', Below base w w' → Own w' base (.slice A (xs ++ ys).length c) (xs ++ ys) → K (a.put o.dst (.slice A (xs ++ ys).length c)) w') : o.wp Try.prog a w K Q := by
  obtain ⟨i, hi, hz, h1, h2⟩ := ibyte
  subst hy
  have hl : s.data.toList.length = s.size := by rw [Array.length_toList]; rfl
  rw [hl] at hfit
  obtain ⟨v', w', hr, a1, a2⟩ := run_str (P := Try.prog) w base 30 9 o.type 5 i Try.underlying30 Try.underlying9 hi hz h1 h2 v xs.length (bcells xs) hown s hfit hbase
  unfold Oper.wp execOp
  simp only [ho, resolve, invoke, builtin, Sem.run_bind, Sem.run_pure, Result.andThen_ok, List.map_toArray, List.map_cons, List.map_nil, hs, hx, hr]
  rw [strCells_eq, ← bcells_app, ← hl, ← List.length_append] at a1
  obtain ⟨A, c, rfl⟩ := own_form a1
  exact h A c w' (own_below hown a2 hbase) a1

theorem list_bytes {ops : Array Oper} {rest : List Oper} {o : Oper} {a : Act} {w : World} {Q : Exit → Act → World → Prop} (hgd : o.guard = none) (sl x : Operand)
    (ho : o.op = .call { callee := .builtin .append, args := #[sl, x], argTypes := #[30, 30] }) (base : Nat) (v : Value) (xs : List UInt8) (hs : a.eval sl = v) (hown : Own w base v xs)
    (ad : Addr) (m c : Nat) (ys : List UInt8) (hx : a.eval x = .slice (some ad) m c) (hm : ys.length = m) (hnews : ∀ j u, (bcells ys)[j]? = some u → w.cell? (ad.add j) = some u)
    (hfit : Fit (xs.length + ys.length)) (hbase : base ≤ w.heap.size)
    (h : ∀ A c w', Below base w w' → Own w' base (.slice A (xs ++ ys).length c) (xs ++ ys) → wpList Try.prog ops Q rest (a.put o.dst (.slice A (xs ++ ys).length c)) w') : wpList Try.prog ops Q (o :: rest) a w :=
  wpList_plain hgd fun _ hK => wp_bytes sl x ho base v xs hs hown ad m c ys hx hm hnews hfit hbase fun A c w' h1 h2 => hK _ _ (h A c w' h1 h2)

theorem list_str {ops : Array Oper} {rest : List Oper} {o : Oper} {a : Act} {w : World} {Q : Exit → Act → World → Prop} (hgd : o.guard = none) (sl x : Operand)
    (ho : o.op = .call { callee := .builtin .append, args := #[sl, x], argTypes := #[30, 9] }) (base : Nat) (v : Value) (xs : List UInt8) (hs : a.eval sl = v) (hown : Own w base v xs)
    (s : ByteArray) (hx : a.eval x = .string s) (ys : List UInt8) (hy : s.data.toList = ys) (hfit : Fit (xs.length + ys.length)) (hbase : base ≤ w.heap.size)
    (h : ∀ A c w', Below base w w' → Own w' base (.slice A (xs ++ ys).length c) (xs ++ ys) → wpList Try.prog ops Q rest (a.put o.dst (.slice A (xs ++ ys).length c)) w') : wpList Try.prog ops Q (o :: rest) a w :=
  wpList_plain hgd fun _ hK => wp_str sl x ho base v xs hs hown s hx ys hy hfit hbase fun A c w' h1 h2 => hK _ _ (h A c w' h1 h2)

theorem step_bytes {ops : Array Oper} {o : Oper} {a : Act} {w : World} {K : Act → World → Prop} {Q : Exit → Act → World → Prop} {E : Prop} (hgd : o.guard = none) (sl x : Operand)
    (ho : o.op = .call { callee := .builtin .append, args := #[sl, x], argTypes := #[30, 30] }) (base : Nat) (v : Value) (xs : List UInt8) (hs : a.eval sl = v) (hown : Own w base v xs)
    (ad : Addr) (m c : Nat) (ys : List UInt8) (hx : a.eval x = .slice (some ad) m c) (hm : ys.length = m) (hnews : ∀ j u, (bcells ys)[j]? = some u → w.cell? (ad.add j) = some u)
    (hfit : Fit (xs.length + ys.length)) (hbase : base ≤ w.heap.size)
    (h : ∀ A c w', Below base w w' → Own w' base (.slice A (xs ++ ys).length c) (xs ++ ys) → K (a.put o.dst (.slice A (xs ++ ys).length c)) w') : if Region.wanted o (yielded ops a.tmps) = true then Oper.wp Try.prog o a w K Q else E := by
  have hw : Region.wanted o (yielded ops a.tmps) = true := by simp [Region.wanted, hgd]
  rw [if_pos hw]
  exact wp_bytes sl x ho base v xs hs hown ad m c ys hx hm hnews hfit hbase h

theorem step_str {ops : Array Oper} {o : Oper} {a : Act} {w : World} {K : Act → World → Prop} {Q : Exit → Act → World → Prop} {E : Prop} (hgd : o.guard = none) (sl x : Operand)
    (ho : o.op = .call { callee := .builtin .append, args := #[sl, x], argTypes := #[30, 9] }) (base : Nat) (v : Value) (xs : List UInt8) (hs : a.eval sl = v) (hown : Own w base v xs)
    (s : ByteArray) (hx : a.eval x = .string s) (ys : List UInt8) (hy : s.data.toList = ys) (hfit : Fit (xs.length + ys.length)) (hbase : base ≤ w.heap.size)
    (h : ∀ A c w', Below base w w' → Own w' base (.slice A (xs ++ ys).length c) (xs ++ ys) → K (a.put o.dst (.slice A (xs ++ ys).length c)) w') : if Region.wanted o (yielded ops a.tmps) = true then Oper.wp Try.prog o a w K Q else E := by
  have hw : Region.wanted o (yielded ops a.tmps) = true := by simp [Region.wanted, hgd]
  rw [if_pos hw]
  exact wp_str sl x ho base v xs hs hown s hx ys hy hfit hbase h

theorem nil_owns (w : World) (base : Nat) : Own w base (.slice none 0 0) [] := by
  have := World.ownsRow_nil w base 5 1
  simpa [Own, bcells] using this

end Go.Proofs.Ytnbihffkaagmjaa.RunsP
