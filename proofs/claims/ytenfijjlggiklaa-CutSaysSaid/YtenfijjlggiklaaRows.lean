/-
  No cell of these rows narrows 'for every input' (looked for: loops, veiled, ifaces, maps, wideKeys, modest, calm, conditions, laid).
  DERIVED. THE GIVEN ROWS OF THIS SEAT. 5 by the template 'for every input the law returns true; each argument reads behind the call as it read before'; 0 by the template 'total and deterministic' (their statements: YtenfijjlggiklaaTotals.lean).
  GIVEN WITH THE SEED: the statements are not yours to turn. If you find one false, say at which input.
  Laid BY PROGRAM, IN A SANDBOX (cutbox-rows.mjs): the forced cells as the released guide's own fill.sh prints them over the translation bd7c0573ab042fe2… (all of the seat's roots in one cut). By AI agents, Wed Nov 11 2026. No macro, syntax, notation, axiom, sorry.
-/
import Derived.Test.YtenfijjlggiklaaChecked
import GoSem.Claim
import GoSem.ClaimJoined
import GoSem.ClaimMapViews
import Derived.JoinedTies
import Derived.KernelRfl
namespace Go.Proofs.Ytenfijjlggiklaa
/- THE CELL 'sum', in the pinned program and in every row, IS THE sha256 OF THE DUMP (.gsa) THAT YtenfijjlggiklaaProg.lean LOADS. Nothing in Lean hashes anything: it is a label: what it is worth is what the hold of that sum in a sandbox is worth. -/
noncomputable def Try.pinned : Pinned := { name := "ytenfijjlggiklaa", sum := "bd7c0573ab042fe20645daf71fc038ca4f6e5f7fe85d74e64fbc7df9a2f38457", checked := Try.checked }
namespace Rows
def none {H : Type} : Left H := { results := [], args := [] }

/-- 'cavalcadelaw21.CutFits': WHATEVER THE INPUT: true; the input reads as it did. -/
def cutFitsSpec : ChangeSpec := { name := "cutFits", fn := fun _ => fun
  | [d1, d2] => { results := [.lit (.bool true)], args := [d1, d2] }
  | _ => none }
def cutFitsRow : OpenClaim := { program := "ytenfijjlggiklaa", sum := "bd7c0573ab042fe20645daf71fc038ca4f6e5f7fe85d74e64fbc7df9a2f38457", func := "cavalcade/cavalcadelaw21.CutFits", spec := "cutFits", unfollowed := true, recurses := true, apart := false }
def CutFitsSaid : Prop := cutFitsRow.holds Try.pinned (OpenSpec.ofChange cutFitsSpec)

/-- ITS FALSE NEIGHBOUR: 'it returns false'. Refute it at one input. -/
def cutFitsWrong : ChangeSpec := { name := "cutFits", fn := fun _ => fun
  | [d1, d2] => { results := [.lit (.bool false)], args := [d1, d2] }
  | _ => none }
def CutFitsWrongFalsely : Prop := cutFitsRow.holds Try.pinned (OpenSpec.ofChange cutFitsWrong)

/-- 'cavalcadelaw21.CutDues': WHATEVER THE INPUT: true; the input reads as it did. -/
def cutDuesSpec : ChangeSpec := { name := "cutDues", fn := fun _ => fun
  | [d1, d2, d3] => { results := [.lit (.bool true)], args := [d1, d2, d3] }
  | _ => none }
def cutDuesRow : OpenClaim := { program := "ytenfijjlggiklaa", sum := "bd7c0573ab042fe20645daf71fc038ca4f6e5f7fe85d74e64fbc7df9a2f38457", func := "cavalcade/cavalcadelaw21.CutDues", spec := "cutDues", unfollowed := true, recurses := true, apart := false }
def CutDuesSaid : Prop := cutDuesRow.holds Try.pinned (OpenSpec.ofChange cutDuesSpec)

/-- ITS FALSE NEIGHBOUR: 'it returns false'. Refute it at one input. -/
def cutDuesWrong : ChangeSpec := { name := "cutDues", fn := fun _ => fun
  | [d1, d2, d3] => { results := [.lit (.bool false)], args := [d1, d2, d3] }
  | _ => none }
def CutDuesWrongFalsely : Prop := cutDuesRow.holds Try.pinned (OpenSpec.ofChange cutDuesWrong)

/-- 'cavalcadelaw21.CutMakes': WHATEVER THE INPUT: true; the input reads as it did. -/
def cutMakesSpec : ChangeSpec := { name := "cutMakes", fn := fun _ => fun
  | [d1, d2] => { results := [.lit (.bool true)], args := [d1, d2] }
  | _ => none }
def cutMakesRow : OpenClaim := { program := "ytenfijjlggiklaa", sum := "bd7c0573ab042fe20645daf71fc038ca4f6e5f7fe85d74e64fbc7df9a2f38457", func := "cavalcade/cavalcadelaw21.CutMakes", spec := "cutMakes", unfollowed := true, recurses := true, apart := false }
def CutMakesSaid : Prop := cutMakesRow.holds Try.pinned (OpenSpec.ofChange cutMakesSpec)

/-- ITS FALSE NEIGHBOUR: 'it returns false'. Refute it at one input. -/
def cutMakesWrong : ChangeSpec := { name := "cutMakes", fn := fun _ => fun
  | [d1, d2] => { results := [.lit (.bool false)], args := [d1, d2] }
  | _ => none }
def CutMakesWrongFalsely : Prop := cutMakesRow.holds Try.pinned (OpenSpec.ofChange cutMakesWrong)

/-- 'cavalcadelaw21.CutEnds': WHATEVER THE INPUT: true; the input reads as it did. -/
def cutEndsSpec : ChangeSpec := { name := "cutEnds", fn := fun _ => fun
  | [d1, d2, d3] => { results := [.lit (.bool true)], args := [d1, d2, d3] }
  | _ => none }
def cutEndsRow : OpenClaim := { program := "ytenfijjlggiklaa", sum := "bd7c0573ab042fe20645daf71fc038ca4f6e5f7fe85d74e64fbc7df9a2f38457", func := "cavalcade/cavalcadelaw21.CutEnds", spec := "cutEnds", unfollowed := true, recurses := true, apart := false }
def CutEndsSaid : Prop := cutEndsRow.holds Try.pinned (OpenSpec.ofChange cutEndsSpec)

/-- ITS FALSE NEIGHBOUR: 'it returns false'. Refute it at one input. -/
def cutEndsWrong : ChangeSpec := { name := "cutEnds", fn := fun _ => fun
  | [d1, d2, d3] => { results := [.lit (.bool false)], args := [d1, d2, d3] }
  | _ => none }
def CutEndsWrongFalsely : Prop := cutEndsRow.holds Try.pinned (OpenSpec.ofChange cutEndsWrong)

/-- 'cavalcadelaw21.CutSays': WHATEVER THE INPUT: true; the input reads as it did. -/
def cutSaysSpec : ChangeSpec := { name := "cutSays", fn := fun _ => fun
  | [d1, d2] => { results := [.lit (.bool true)], args := [d1, d2] }
  | _ => none }
def cutSaysRow : OpenClaim := { program := "ytenfijjlggiklaa", sum := "bd7c0573ab042fe20645daf71fc038ca4f6e5f7fe85d74e64fbc7df9a2f38457", func := "cavalcade/cavalcadelaw21.CutSays", spec := "cutSays", unfollowed := true, recurses := true, apart := false }
def CutSaysSaid : Prop := cutSaysRow.holds Try.pinned (OpenSpec.ofChange cutSaysSpec)

/-- ITS FALSE NEIGHBOUR: 'it returns false'. Refute it at one input. -/
def cutSaysWrong : ChangeSpec := { name := "cutSays", fn := fun _ => fun
  | [d1, d2] => { results := [.lit (.bool false)], args := [d1, d2] }
  | _ => none }
def CutSaysWrongFalsely : Prop := cutSaysRow.holds Try.pinned (OpenSpec.ofChange cutSaysWrong)

/- THE SECOND FORM. 'bulk': how many values and letters a reading holds, each counted each time it is reached (what is shared counts as often as it is met; a slice's spare places count too). A statement '..UptoSaid' is the law's where the arguments, and the package variables that the reading takes, are together of bulk at most 1048576: NARROWER than '..Said'. Prove '..Said' where nothing that the law and all that it calls make is longer than what came in: it says more and counts as full. Else prove '..UptoSaid'. A law counts once. -/
mutual
def uptoBulk {H : Type} : DataW H → Nat
  | .lit (.string bytes) => bytes.length + 1
  | .lit _ => 1
  | .nil => 1
  | .ptr d => uptoBulk d + 1
  | .slice elems spare => uptoBulkAll elems + uptoBulkAll spare + 1
  | .agg parts => uptoBulkAll parts + 1
  | .iface _ d => uptoBulk d + 1
  | .map entries => uptoBulkEntries entries + 1
  | .held _ => 1
def uptoBulkAll {H : Type} : List (DataW H) → Nat
  | [] => 0
  | d :: r => uptoBulk d + uptoBulkAll r
def uptoBulkEntries {H : Type} : List (Lit × DataW H) → Nat
  | [] => 0
  | x :: r => uptoBulkEntry x + uptoBulkEntries r
def uptoBulkEntry {H : Type} : Lit × DataW H → Nat
  | (.string bytes, d) => bytes.length + uptoBulk d + 1
  | (_, d) => uptoBulk d + 1
 end
def uptoSmall : (H : Type) → List (DataW H) → Bool := fun _ ds => decide (uptoBulkAll ds ≤ 1048576)
def OpenSpec.upto (s : _root_.Go.ChangeSpec) : _root_.Go.OpenSpec := { _root_.Go.OpenSpec.ofChange s with cond := some uptoSmall }

/-- 'cavalcadelaw21.CutFits', WHERE WHAT IT READS IS OF BULK AT MOST 1048576: true; the input reads as it did. -/
def cutFitsUptoRow : OpenClaim := { program := "ytenfijjlggiklaa", sum := "bd7c0573ab042fe20645daf71fc038ca4f6e5f7fe85d74e64fbc7df9a2f38457", func := "cavalcade/cavalcadelaw21.CutFits", spec := "cutFits", unfollowed := true, recurses := true, apart := false, narrowed := true }
def CutFitsUptoSaid : Prop := cutFitsUptoRow.holds Try.pinned (OpenSpec.upto cutFitsSpec)

/-- 'cavalcadelaw21.CutDues', WHERE WHAT IT READS IS OF BULK AT MOST 1048576: true; the input reads as it did. -/
def cutDuesUptoRow : OpenClaim := { program := "ytenfijjlggiklaa", sum := "bd7c0573ab042fe20645daf71fc038ca4f6e5f7fe85d74e64fbc7df9a2f38457", func := "cavalcade/cavalcadelaw21.CutDues", spec := "cutDues", unfollowed := true, recurses := true, apart := false, narrowed := true }
def CutDuesUptoSaid : Prop := cutDuesUptoRow.holds Try.pinned (OpenSpec.upto cutDuesSpec)

/-- 'cavalcadelaw21.CutMakes', WHERE WHAT IT READS IS OF BULK AT MOST 1048576: true; the input reads as it did. -/
def cutMakesUptoRow : OpenClaim := { program := "ytenfijjlggiklaa", sum := "bd7c0573ab042fe20645daf71fc038ca4f6e5f7fe85d74e64fbc7df9a2f38457", func := "cavalcade/cavalcadelaw21.CutMakes", spec := "cutMakes", unfollowed := true, recurses := true, apart := false, narrowed := true }
def CutMakesUptoSaid : Prop := cutMakesUptoRow.holds Try.pinned (OpenSpec.upto cutMakesSpec)

/-- 'cavalcadelaw21.CutEnds', WHERE WHAT IT READS IS OF BULK AT MOST 1048576: true; the input reads as it did. -/
def cutEndsUptoRow : OpenClaim := { program := "ytenfijjlggiklaa", sum := "bd7c0573ab042fe20645daf71fc038ca4f6e5f7fe85d74e64fbc7df9a2f38457", func := "cavalcade/cavalcadelaw21.CutEnds", spec := "cutEnds", unfollowed := true, recurses := true, apart := false, narrowed := true }
def CutEndsUptoSaid : Prop := cutEndsUptoRow.holds Try.pinned (OpenSpec.upto cutEndsSpec)

/-- 'cavalcadelaw21.CutSays', WHERE WHAT IT READS IS OF BULK AT MOST 1048576: true; the input reads as it did. -/
def cutSaysUptoRow : OpenClaim := { program := "ytenfijjlggiklaa", sum := "bd7c0573ab042fe20645daf71fc038ca4f6e5f7fe85d74e64fbc7df9a2f38457", func := "cavalcade/cavalcadelaw21.CutSays", spec := "cutSays", unfollowed := true, recurses := true, apart := false, narrowed := true }
def CutSaysUptoSaid : Prop := cutSaysUptoRow.holds Try.pinned (OpenSpec.upto cutSaysSpec)

end Rows
end Go.Proofs.Ytenfijjlggiklaa
