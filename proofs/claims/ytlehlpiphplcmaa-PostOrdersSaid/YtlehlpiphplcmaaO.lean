/-
  Arguments opened: one that a poster sees; a slice of such.
-/
import Derived.Test.YtlehlpiphplcmaaA0
import Derived.Deep.Slices
import Derived.Lib.SmallJoins
import Derived.SizedLaws
namespace Go.Proofs.Ytlehlpiphplcmaa.PostP
open Go.RowKit Go.ChangeShapes Go.WideShapes Go.Deep Go.Joins
set_option linter.unusedVariables false

theorem cells31 : Try.prog.cellsOf 31 = 3 := by kernel_rfl
theorem cells3 : Try.prog.cellsOf 3 = 1 := by kernel_rfl

def InR (z : Int) : Prop := -9223372036854775808 ≤ z ∧ z ≤ 9223372036854775807
def seenCells (s : Int × Int × Int) : List Value := [.int .i64 s.1, .int .i64 s.2.1, .int .i64 s.2.2]

/-- a slice of what posters see, as it lies -/
structure LSn (w : World) (A : Option Addr) (l : List (Int × Int × Int)) : Prop where
  inr : ∀ s ∈ l, InR s.1 ∧ InR s.2.1 ∧ InR s.2.2
  lie : 0 < l.length → ∃ b o, A = some ⟨b, o, none⟩ ∧ b < w.heap.size ∧ ∀ i s, l[i]? = some s → ∀ j v, (seenCells s)[j]? = some v → w.cell? ⟨b, o + i * 3 + j, none⟩ = some v

section
variable {H : Type} {enc : TypeId × Value → H} {w : World} {base : Nat} {spare : Nat → Bool} {held : Bool}

theorem seen_open {fuel : Nat} {cs : List Value} {x : DataW H × List MemPlace} (h : DataW.trod enc Try.prog w base spare held fuel 31 cs = some x) :
    ∃ s : Int × Int × Int, cs = seenCells s ∧ InR s.1 ∧ InR s.2.1 ∧ InR s.2.2 := by
  obtain ⟨xs, n, _, hx, hl, hxl, hf⟩ := DataW.trod_struct Try.underlying31 h
  rw [cells31] at hl
  match xs, hxl with
  | [y0, y1, y2], _ =>
    have g0 : DataW.trod enc Try.prog w base spare held n 3 ((cs.drop 0).take (Try.prog.cellsOf 3)) = some y0 := hf 0 _ rfl
    have g1 : DataW.trod enc Try.prog w base spare held n 3 ((cs.drop 1).take (Try.prog.cellsOf 3)) = some y1 := hf 1 _ rfl
    have g2 : DataW.trod enc Try.prog w base spare held n 3 ((cs.drop 2).take (Try.prog.cellsOf 3)) = some y2 := hf 2 _ rfl
    match cs, hl with
    | [c0, c1, c2], _ =>
      rw [cells3] at g0 g1 g2
      obtain ⟨n0, e0, _, w0⟩ := DataW.trod_int Try.underlying3 g0
      obtain ⟨n1, e1, _, w1⟩ := DataW.trod_int Try.underlying3 g1
      obtain ⟨n2, e2, _, w2⟩ := DataW.trod_int Try.underlying3 g2
      simp at e0 e1 e2
      subst e0 e1 e2
      refine ⟨(n0, n1, n2), rfl, ?_, ?_, ?_⟩
      · simpa [InR, Lit.wf, IntKind.min, IntKind.max, IntKind.signed, IntKind.bits] using w0
      · simpa [InR, Lit.wf, IntKind.min, IntKind.max, IntKind.signed, IntKind.bits] using w1
      · simpa [InR, Lit.wf, IntKind.min, IntKind.max, IntKind.signed, IntKind.bits] using w2

theorem open_seens {fuel len cap : Nat} {A : Option Addr} {d : DataW H} {p : List MemPlace}
    (h : DataW.trod enc Try.prog w base spare held fuel 22 [.slice A len cap] = some (d, p)) : ∃ l : List (Int × Int × Int), l.length = len ∧ LSn w A l := by
  rcases open_slice Try.underlying22 h with ⟨hcs, hx⟩ | ⟨a, len', cap', m, n, D, Pl, hcs, hb, hl, hm, hmm, hx, hi⟩
  · simp at hcs
    obtain ⟨rfl, rfl, rfl⟩ := hcs
    exact ⟨[], rfl, ⟨fun r hr => by simp at hr, fun hn => by simp at hn⟩⟩
  · simp at hcs
    obtain ⟨rfl, rfl, rfl⟩ := hcs
    have hlm : len ≤ m := by rw [hmm]; split <;> omega
    have hex : ∀ i, i < len → ∃ s : Int × Int × Int, w.cells? base (a.add (i * 3)) 3 = some (seenCells s) ∧ InR s.1 ∧ InR s.2.1 ∧ InR s.2.2 := by
      intro i hil
      obtain ⟨cs', hc, htr⟩ := hi i (by omega)
      rw [cells31] at hc
      obtain ⟨s, rfl, h1, h2, h3⟩ := seen_open htr
      exact ⟨s, hc, h1, h2, h3⟩
    obtain ⟨R, hR⟩ := choose_lt hex
    refine ⟨(List.range len).map R, by simp, ⟨?_, ?_⟩⟩
    · intro r hr
      obtain ⟨i, hi', rfl⟩ := List.mem_map.1 hr
      exact (hR i (by simpa using hi')).2
    · intro hn
      have hn' : 0 < len := by simpa using hn
      have hcell : ∀ i, i < len → ∀ j v, (seenCells (R i))[j]? = some v → w.cell? (a.add (i * 3 + j)) = some v := by
        intro i hil j v hv
        have hcs := (hR i hil).1
        obtain ⟨_, hcl, hat⟩ := World.cells?_some hcs
        have hj : j < 3 := by
          have := (List.getElem?_eq_some_iff.1 hv).1
          simpa [seenCells] using this
        rw [← Go.Deep.add_add, hat j hj, hv]
      have h0 := hcell 0 hn' 0 _ rfl
      obtain ⟨b, o, sp⟩ := a
      have hsp : sp = none := by simpa [Addr.add] using World.cell?_spot h0
      subst hsp
      have hbl := World.block_lt_of_cell? w _ h0
      refine ⟨b, o, rfl, by simpa [Addr.add] using hbl, fun i r hr j v hv => ?_⟩
      rw [List.getElem?_map] at hr
      obtain ⟨i', hi', rfl⟩ := Option.map_eq_some_iff.1 hr
      have hil : i < len := by
        have := (List.getElem?_eq_some_iff.1 hi').1
        simpa using this
      have : i' = i := by simpa [List.getElem?_range hil] using hi'.symm
      subst this
      have := hcell i' hil j v hv
      rw [Addr.add_mid] at this
      rw [Nat.add_assoc]
      exact this
end

end Go.Proofs.Ytlehlpiphplcmaa.PostP
