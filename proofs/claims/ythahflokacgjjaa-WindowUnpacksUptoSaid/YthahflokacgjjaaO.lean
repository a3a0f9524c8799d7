/-
  Arguments opened: the size of a text.
-/
import Derived.Test.YthahflokacgjjaaC1
import Derived.ChangeMaps5
import Derived.Deep.Slices
import Derived.Lib.SmallJoins
import Derived.SizedLaws
namespace Go.Proofs.Ythahflokacgjjaa.WinP
open Go.RowKit Go.ChangeShapes Go.WideShapes Go.ChangeAt Go.Joins
set_option linter.unusedVariables false

theorem str_size {H : Type} {ts : List TypeId} {ds : List (DataW H)} {j : Nat} {s : ByteArray} (hsz : (DataW.weightsEach Try.prog ts ds).all (· ≤ reachBytes) = true) (ht : ts[j]? = some 9)
    (hd : ds[j]? = some (.lit (.string s.data.toList))) : s.size ≤ 140737488351232 := by
  have hmem : s.data.toList.length ∈ DataW.weightsEach Try.prog ts ds := by
    refine DataW.weights_mem_each ht hd _ ?_
    simp [DataW.weights]
  have := List.all_eq_true.1 hsz _ hmem
  have h2 : s.data.toList.length ≤ reachBytes := of_decide_eq_true this
  rw [Array.length_toList] at h2
  exact h2

end Go.Proofs.Ythahflokacgjjaa.WinP
