/-
  slices.Sort of numbers of one's own: the same numbers, in the same row.
-/
import Derived.Test.YtlehlpiphplcmaaA0
import Derived.Test.YtlehlpiphplcmaaS0
import Derived.Sort.OwnSortedInts
namespace Go.Proofs.Ytlehlpiphplcmaa.PostP
open Go.RowKit Go.PostLaws Go.Sort
set_option linter.unusedVariables false
theorem sort_any {w : World} {base : Nat} {v : Value} {zs : List Int} (h : OwnI w base v zs) (hs : zs.length < 4611686018427387904) :
    Calls Try.prog 12 #[v] w fun e w' => e = .returned (.tuple #[]) ∧ ∃ ts : List Int, ts.length = zs.length ∧ (∀ z, z ∈ ts ↔ z ∈ zs) ∧ OwnI w' base v ts ∧ w.grownBy w' v.ownBlock := by
  rcases h.2 with ⟨rfl, h0⟩ | ⟨g, cap, cur, rfl, hbase, hb, h1, h2, h3, h4⟩
  · have hz : zs = [] := List.eq_nil_of_length_eq_zero h0
    subst hz
    refine (sort_none none 0 w).mono ?_
    rintro e w' ⟨rfl, rfl⟩
    exact ⟨rfl, [], rfl, fun z => Iff.rfl, nilI _ _, ⟨rfl, rfl, rfl, Nat.le_refl _, fun _ _ _ => rfl⟩⟩
  · have hH : Holds (Value.int .i64) w g 0 zs.toArray := holds_of_blockI hb (by simpa [ints] using h4)
    refine (sort_ints g 0 cap zs w hH (Array.getElem?_eq_some_iff.1 hb).1 hs).mono ?_
    rintro e w' ⟨rfl, n, os, rfl⟩
    have hl : (zs.mergeSort fun x y => decide (x ≤ y)).length = zs.length := List.length_mergeSort _
    refine ⟨rfl, zs.mergeSort fun x y => decide (x ≤ y), hl, fun z => List.mem_mergeSort, ?_, grownBy_sortedI _⟩
    have := ownsRow_sortedI (w := w) (n := n) (os := os) hl hbase hb h1 h2 h3
    unfold OwnI ints
    rw [hl]
    exact this
end Go.Proofs.Ytlehlpiphplcmaa.PostP
