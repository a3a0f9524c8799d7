/-
  No cell of these rows narrows 'for every input' (looked for: loops, veiled, ifaces, maps, wideKeys, modest, calm, conditions, laid).
  DERIVED. THE GIVEN ROWS OF THIS SEAT. 4 by the template 'for every input the law returns true; each argument reads behind the call as it read before'; 0 by the template 'total and deterministic' (their statements: YtlehlpiphplcmaaTotals.lean).
  GIVEN WITH THE SEED: the statements are not yours to turn. If you find one false, say at which input.
  Laid BY PROGRAM, IN A SANDBOX (cutbox-rows.mjs): the forced cells as the released guide's own fill.sh prints them over the translation e6d6a01f179180c9… (all of the seat's roots in one cut). By AI agents, Wed Nov 11 2026. No macro, syntax, notation, axiom, sorry.
-/
import Derived.Test.YtlehlpiphplcmaaChecked
import GoSem.Claim
import GoSem.ClaimJoined
import GoSem.ClaimMapViews
import Derived.JoinedTies
import Derived.KernelRfl
namespace Go.Proofs.Ytlehlpiphplcmaa
/- THE CELL 'sum', in the pinned program and in every row, IS THE sha256 OF THE DUMP (.gsa) THAT YtlehlpiphplcmaaProg.lean LOADS. Nothing in Lean hashes anything: it is a label: what it is worth is what the hold of that sum in a sandbox is worth. -/
noncomputable def Try.pinned : Pinned := { name := "ytlehlpiphplcmaa", sum := "e6d6a01f179180c9fd94c11ae3d5c7eb4aac8713414ec93bfd9c7f837f223404", checked := Try.checked }
namespace Rows
def none {H : Type} : Left H := { results := [], args := [] }

/-- 'cavalcadelaw22.PostOrders': WHATEVER THE INPUT: true; the input reads as it did. -/
def postOrdersSpec : ChangeSpec := { name := "postOrders", fn := fun _ => fun
  | [d1, d2] => { results := [.lit (.bool true)], args := [d1, d2] }
  | _ => none }
def postOrdersRow : OpenClaim := { program := "ytlehlpiphplcmaa", sum := "e6d6a01f179180c9fd94c11ae3d5c7eb4aac8713414ec93bfd9c7f837f223404", func := "cavalcade/cavalcadelaw22.PostOrders", spec := "postOrders", recurses := true, apart := false }
def PostOrdersSaid : Prop := postOrdersRow.holds Try.pinned (OpenSpec.ofChange postOrdersSpec)

/-- ITS FALSE NEIGHBOUR: 'it returns false'. Refute it at one input. -/
def postOrdersWrong : ChangeSpec := { name := "postOrders", fn := fun _ => fun
  | [d1, d2] => { results := [.lit (.bool false)], args := [d1, d2] }
  | _ => none }
def PostOrdersWrongFalsely : Prop := postOrdersRow.holds Try.pinned (OpenSpec.ofChange postOrdersWrong)

/-- 'cavalcadelaw22.PostAgain': WHATEVER THE INPUT: true; the input reads as it did. -/
def postAgainSpec : ChangeSpec := { name := "postAgain", fn := fun _ => fun
  | [d1, d2, d3] => { results := [.lit (.bool true)], args := [d1, d2, d3] }
  | _ => none }
def postAgainRow : OpenClaim := { program := "ytlehlpiphplcmaa", sum := "e6d6a01f179180c9fd94c11ae3d5c7eb4aac8713414ec93bfd9c7f837f223404", func := "cavalcade/cavalcadelaw22.PostAgain", spec := "postAgain", recurses := true, apart := false }
def PostAgainSaid : Prop := postAgainRow.holds Try.pinned (OpenSpec.ofChange postAgainSpec)

/-- ITS FALSE NEIGHBOUR: 'it returns false'. Refute it at one input. -/
def postAgainWrong : ChangeSpec := { name := "postAgain", fn := fun _ => fun
  | [d1, d2, d3] => { results := [.lit (.bool false)], args := [d1, d2, d3] }
  | _ => none }
def PostAgainWrongFalsely : Prop := postAgainRow.holds Try.pinned (OpenSpec.ofChange postAgainWrong)

/-- 'cavalcadelaw22.PostCovers': WHATEVER THE INPUT: true; the input reads as it did. -/
def postCoversSpec : ChangeSpec := { name := "postCovers", fn := fun _ => fun
  | [d1, d2] => { results := [.lit (.bool true)], args := [d1, d2] }
  | _ => none }
def postCoversRow : OpenClaim := { program := "ytlehlpiphplcmaa", sum := "e6d6a01f179180c9fd94c11ae3d5c7eb4aac8713414ec93bfd9c7f837f223404", func := "cavalcade/cavalcadelaw22.PostCovers", spec := "postCovers", recurses := true, apart := false }
def PostCoversSaid : Prop := postCoversRow.holds Try.pinned (OpenSpec.ofChange postCoversSpec)

/-- ITS FALSE NEIGHBOUR: 'it returns false'. Refute it at one input. -/
def postCoversWrong : ChangeSpec := { name := "postCovers", fn := fun _ => fun
  | [d1, d2] => { results := [.lit (.bool false)], args := [d1, d2] }
  | _ => none }
def PostCoversWrongFalsely : Prop := postCoversRow.holds Try.pinned (OpenSpec.ofChange postCoversWrong)

/-- 'cavalcadelaw22.PostNone': WHATEVER THE INPUT: true; the input reads as it did. -/
def postNoneSpec : ChangeSpec := { name := "postNone", fn := fun _ => fun
  | [d] => { results := [.lit (.bool true)], args := [d] }
  | _ => none }
def postNoneRow : OpenClaim := { program := "ytlehlpiphplcmaa", sum := "e6d6a01f179180c9fd94c11ae3d5c7eb4aac8713414ec93bfd9c7f837f223404", func := "cavalcade/cavalcadelaw22.PostNone", spec := "postNone", recurses := true, apart := false }
def PostNoneSaid : Prop := postNoneRow.holds Try.pinned (OpenSpec.ofChange postNoneSpec)

/-- ITS FALSE NEIGHBOUR: 'it returns false'. Refute it at one input. -/
def postNoneWrong : ChangeSpec := { name := "postNone", fn := fun _ => fun
  | [d] => { results := [.lit (.bool false)], args := [d] }
  | _ => none }
def PostNoneWrongFalsely : Prop := postNoneRow.holds Try.pinned (OpenSpec.ofChange postNoneWrong)

/- THE SECOND FORM. 'bulk': how many values and letters a reading holds, each counted each time it is reached (what is shared counts as often as it is met; a slice's spare places count too). A statement '..UptoSaid' is the law's where the arguments, and the package variables that the reading takes, are together of bulk at most 1048576: NARROWER than '..Said'. Prove '..Said' where nothing that the law and all that it calls make is longer than what came in: it says more and counts as full. Else prove '..UptoSaid'. A law counts once. -/
mutual
def uptoBulk {H : Type} : DataW H → Nat
  | .lit (.string bytes) => bytes.length + 1
  | .lit _ => 1
  | .nil => 1
  | .ptr d => uptoBulk d + 1
  | .slice elems spare => uptoBulkAll elems + uptoBulkAll spare + 1
  | .agg parts => uptoBulkAll parts + 1
  | .iface _ d => uptoBulk d + 1
  | .map entries => uptoBulkEntries entries + 1
  | .held _ => 1
def uptoBulkAll {H : Type} : List (DataW H) → Nat
  | [] => 0
  | d :: r => uptoBulk d + uptoBulkAll r
def uptoBulkEntries {H : Type} : List (Lit × DataW H) → Nat
  | [] => 0
  | x :: r => uptoBulkEntry x + uptoBulkEntries r
def uptoBulkEntry {H : Type} : Lit × DataW H → Nat
  | (.string bytes, d) => bytes.length + uptoBulk d + 1
  | (_, d) => uptoBulk d + 1
 end
def uptoSmall : (H : Type) → List (DataW H) → Bool := fun _ ds => decide (uptoBulkAll ds ≤ 1048576)
def OpenSpec.upto (s : _root_.Go.ChangeSpec) : _root_.Go.OpenSpec := { _root_.Go.OpenSpec.ofChange s with cond := some uptoSmall }

/-- 'cavalcadelaw22.PostOrders', WHERE WHAT IT READS IS OF BULK AT MOST 1048576: true; the input reads as it did. -/
def postOrdersUptoRow : OpenClaim := { program := "ytlehlpiphplcmaa", sum := "e6d6a01f179180c9fd94c11ae3d5c7eb4aac8713414ec93bfd9c7f837f223404", func := "cavalcade/cavalcadelaw22.PostOrders", spec := "postOrders", recurses := true, apart := false, narrowed := true }
def PostOrdersUptoSaid : Prop := postOrdersUptoRow.holds Try.pinned (OpenSpec.upto postOrdersSpec)

/-- 'cavalcadelaw22.PostAgain', WHERE WHAT IT READS IS OF BULK AT MOST 1048576: true; the input reads as it did. -/
def postAgainUptoRow : OpenClaim := { program := "ytlehlpiphplcmaa", sum := "e6d6a01f179180c9fd94c11ae3d5c7eb4aac8713414ec93bfd9c7f837f223404", func := "cavalcade/cavalcadelaw22.PostAgain", spec := "postAgain", recurses := true, apart := false, narrowed := true }
def PostAgainUptoSaid : Prop := postAgainUptoRow.holds Try.pinned (OpenSpec.upto postAgainSpec)

/-- 'cavalcadelaw22.PostCovers', WHERE WHAT IT READS IS OF BULK AT MOST 1048576: true; the input reads as it did. -/
def postCoversUptoRow : OpenClaim := { program := "ytlehlpiphplcmaa", sum := "e6d6a01f179180c9fd94c11ae3d5c7eb4aac8713414ec93bfd9c7f837f223404", func := "cavalcade/cavalcadelaw22.PostCovers", spec := "postCovers", recurses := true, apart := false, narrowed := true }
def PostCoversUptoSaid : Prop := postCoversUptoRow.holds Try.pinned (OpenSpec.upto postCoversSpec)

/-- 'cavalcadelaw22.PostNone', WHERE WHAT IT READS IS OF BULK AT MOST 1048576: true; the input reads as it did. -/
def postNoneUptoRow : OpenClaim := { program := "ytlehlpiphplcmaa", sum := "e6d6a01f179180c9fd94c11ae3d5c7eb4aac8713414ec93bfd9c7f837f223404", func := "cavalcade/cavalcadelaw22.PostNone", spec := "postNone", recurses := true, apart := false, narrowed := true }
def PostNoneUptoSaid : Prop := postNoneUptoRow.holds Try.pinned (OpenSpec.upto postNoneSpec)

end Rows
end Go.Proofs.Ytlehlpiphplcmaa
