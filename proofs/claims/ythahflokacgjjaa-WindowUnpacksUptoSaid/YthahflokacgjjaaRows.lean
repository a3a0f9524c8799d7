/-
  No cell of these rows narrows 'for every input' (looked for: loops, veiled, ifaces, maps, wideKeys, modest, calm, conditions, laid).
  DERIVED. THE GIVEN ROWS OF THIS SEAT. 5 by the template 'for every input the law returns true; each argument reads behind the call as it read before'; 0 by the template 'total and deterministic' (their statements: YthahflokacgjjaaTotals.lean).
  GIVEN WITH THE SEED: the statements are not yours to turn. If you find one false, say at which input.
  Laid BY PROGRAM, IN A SANDBOX (cutbox-rows.mjs): the forced cells as the released guide's own fill.sh prints them over the translation bf9423fed35df604… (all of the seat's roots in one cut). By AI agents, Wed Nov 11 2026. No macro, syntax, notation, axiom, sorry.
-/
import Derived.Test.YthahflokacgjjaaChecked
import GoSem.Claim
import GoSem.ClaimJoined
import GoSem.ClaimMapViews
import Derived.JoinedTies
import Derived.KernelRfl
namespace Go.Proofs.Ythahflokacgjjaa
/- THE CELL 'sum', in the pinned program and in every row, IS THE sha256 OF THE DUMP (.gsa) THAT YthahflokacgjjaaProg.lean LOADS. Nothing in Lean hashes anything: it is a label: what it is worth is what the hold of that sum in a sandbox is worth. -/
noncomputable def Try.pinned : Pinned := { name := "ythahflokacgjjaa", sum := "bf9423fed35df604b35cbeb42ae9f5f4120953dfb0d9effd8c7320c6b5d6c5f3", checked := Try.checked }
namespace Rows
def none {H : Type} : Left H := { results := [], args := [] }

/-- 'cavalcadelaw07.WindowPacks': WHATEVER THE INPUT: true; the input reads as it did. -/
def windowPacksSpec : ChangeSpec := { name := "windowPacks", fn := fun _ => fun
  | [d] => { results := [.lit (.bool true)], args := [d] }
  | _ => none }
def windowPacksRow : OpenClaim := { program := "ythahflokacgjjaa", sum := "bf9423fed35df604b35cbeb42ae9f5f4120953dfb0d9effd8c7320c6b5d6c5f3", func := "cavalcade/cavalcadelaw07.WindowPacks", spec := "windowPacks", unfollowed := true, recurses := true, apart := false }
def WindowPacksSaid : Prop := windowPacksRow.holds Try.pinned (OpenSpec.ofChange windowPacksSpec)

/-- ITS FALSE NEIGHBOUR: 'it returns false'. Refute it at one input. -/
def windowPacksWrong : ChangeSpec := { name := "windowPacks", fn := fun _ => fun
  | [d] => { results := [.lit (.bool false)], args := [d] }
  | _ => none }
def WindowPacksWrongFalsely : Prop := windowPacksRow.holds Try.pinned (OpenSpec.ofChange windowPacksWrong)

/-- 'cavalcadelaw07.WindowUnpacks': WHATEVER THE INPUT: true; the input reads as it did. -/
def windowUnpacksSpec : ChangeSpec := { name := "windowUnpacks", fn := fun _ => fun
  | [d1, d2] => { results := [.lit (.bool true)], args := [d1, d2] }
  | _ => none }
def windowUnpacksRow : OpenClaim := { program := "ythahflokacgjjaa", sum := "bf9423fed35df604b35cbeb42ae9f5f4120953dfb0d9effd8c7320c6b5d6c5f3", func := "cavalcade/cavalcadelaw07.WindowUnpacks", spec := "windowUnpacks", unfollowed := true, recurses := true, apart := false }
def WindowUnpacksSaid : Prop := windowUnpacksRow.holds Try.pinned (OpenSpec.ofChange windowUnpacksSpec)

/-- ITS FALSE NEIGHBOUR: 'it returns false'. Refute it at one input. -/
def windowUnpacksWrong : ChangeSpec := { name := "windowUnpacks", fn := fun _ => fun
  | [d1, d2] => { results := [.lit (.bool false)], args := [d1, d2] }
  | _ => none }
def WindowUnpacksWrongFalsely : Prop := windowUnpacksRow.holds Try.pinned (OpenSpec.ofChange windowUnpacksWrong)

/-- 'cavalcadelaw07.WindowBack': WHATEVER THE INPUT: true; the input reads as it did. -/
def windowBackSpec : ChangeSpec := { name := "windowBack", fn := fun _ => fun
  | [d1, d2] => { results := [.lit (.bool true)], args := [d1, d2] }
  | _ => none }
def windowBackRow : OpenClaim := { program := "ythahflokacgjjaa", sum := "bf9423fed35df604b35cbeb42ae9f5f4120953dfb0d9effd8c7320c6b5d6c5f3", func := "cavalcade/cavalcadelaw07.WindowBack", spec := "windowBack", unfollowed := true, recurses := true, apart := false }
def WindowBackSaid : Prop := windowBackRow.holds Try.pinned (OpenSpec.ofChange windowBackSpec)

/-- ITS FALSE NEIGHBOUR: 'it returns false'. Refute it at one input. -/
def windowBackWrong : ChangeSpec := { name := "windowBack", fn := fun _ => fun
  | [d1, d2] => { results := [.lit (.bool false)], args := [d1, d2] }
  | _ => none }
def WindowBackWrongFalsely : Prop := windowBackRow.holds Try.pinned (OpenSpec.ofChange windowBackWrong)

/-- 'cavalcadelaw07.WindowLittle': WHATEVER THE INPUT: true; the input reads as it did. -/
def windowLittleSpec : ChangeSpec := { name := "windowLittle", fn := fun _ => fun
  | [d] => { results := [.lit (.bool true)], args := [d] }
  | _ => none }
def windowLittleRow : OpenClaim := { program := "ythahflokacgjjaa", sum := "bf9423fed35df604b35cbeb42ae9f5f4120953dfb0d9effd8c7320c6b5d6c5f3", func := "cavalcade/cavalcadelaw07.WindowLittle", spec := "windowLittle", unfollowed := true, recurses := true, apart := false }
def WindowLittleSaid : Prop := windowLittleRow.holds Try.pinned (OpenSpec.ofChange windowLittleSpec)

/-- ITS FALSE NEIGHBOUR: 'it returns false'. Refute it at one input. -/
def windowLittleWrong : ChangeSpec := { name := "windowLittle", fn := fun _ => fun
  | [d] => { results := [.lit (.bool false)], args := [d] }
  | _ => none }
def WindowLittleWrongFalsely : Prop := windowLittleRow.holds Try.pinned (OpenSpec.ofChange windowLittleWrong)

/-- 'cavalcadelaw07.WindowAgain': WHATEVER THE INPUT: true; the input reads as it did. -/
def windowAgainSpec : ChangeSpec := { name := "windowAgain", fn := fun _ => fun
  | [d] => { results := [.lit (.bool true)], args := [d] }
  | _ => none }
def windowAgainRow : OpenClaim := { program := "ythahflokacgjjaa", sum := "bf9423fed35df604b35cbeb42ae9f5f4120953dfb0d9effd8c7320c6b5d6c5f3", func := "cavalcade/cavalcadelaw07.WindowAgain", spec := "windowAgain", unfollowed := true, recurses := true, apart := false }
def WindowAgainSaid : Prop := windowAgainRow.holds Try.pinned (OpenSpec.ofChange windowAgainSpec)

/-- ITS FALSE NEIGHBOUR: 'it returns false'. Refute it at one input. -/
def windowAgainWrong : ChangeSpec := { name := "windowAgain", fn := fun _ => fun
  | [d] => { results := [.lit (.bool false)], args := [d] }
  | _ => none }
def WindowAgainWrongFalsely : Prop := windowAgainRow.holds Try.pinned (OpenSpec.ofChange windowAgainWrong)

/- THE SECOND FORM. 'bulk': how many values and letters a reading holds, each counted each time it is reached (what is shared counts as often as it is met; a slice's spare places count too). A statement '..UptoSaid' is the law's where the arguments, and the package variables that the reading takes, are together of bulk at most 1048576: NARROWER than '..Said'. Prove '..Said' where nothing that the law and all that it calls make is longer than what came in: it says more and counts as full. Else prove '..UptoSaid'. A law counts once. -/
mutual
def uptoBulk {H : Type} : DataW H → Nat
  | .lit (.string bytes) => bytes.length + 1
  | .lit _ => 1
  | .nil => 1
  | .ptr d => uptoBulk d + 1
  | .slice elems spare => uptoBulkAll elems + uptoBulkAll spare + 1
  | .agg parts => uptoBulkAll parts + 1
  | .iface _ d => uptoBulk d + 1
  | .map entries => uptoBulkEntries entries + 1
  | .held _ => 1
def uptoBulkAll {H : Type} : List (DataW H) → Nat
  | [] => 0
  | d :: r => uptoBulk d + uptoBulkAll r
def uptoBulkEntries {H : Type} : List (Lit × DataW H) → Nat
  | [] => 0
  | x :: r => uptoBulkEntry x + uptoBulkEntries r
def uptoBulkEntry {H : Type} : Lit × DataW H → Nat
  | (.string bytes, d) => bytes.length + uptoBulk d + 1
  | (_, d) => uptoBulk d + 1
 end
def uptoSmall : (H : Type) → List (DataW H) → Bool := fun _ ds => decide (uptoBulkAll ds ≤ 1048576)
def OpenSpec.upto (s : _root_.Go.ChangeSpec) : _root_.Go.OpenSpec := { _root_.Go.OpenSpec.ofChange s with cond := some uptoSmall }

/-- 'cavalcadelaw07.WindowPacks', WHERE WHAT IT READS IS OF BULK AT MOST 1048576: true; the input reads as it did. -/
def windowPacksUptoRow : OpenClaim := { program := "ythahflokacgjjaa", sum := "bf9423fed35df604b35cbeb42ae9f5f4120953dfb0d9effd8c7320c6b5d6c5f3", func := "cavalcade/cavalcadelaw07.WindowPacks", spec := "windowPacks", unfollowed := true, recurses := true, apart := false, narrowed := true }
def WindowPacksUptoSaid : Prop := windowPacksUptoRow.holds Try.pinned (OpenSpec.upto windowPacksSpec)

/-- 'cavalcadelaw07.WindowUnpacks', WHERE WHAT IT READS IS OF BULK AT MOST 1048576: true; the input reads as it did. -/
def windowUnpacksUptoRow : OpenClaim := { program := "ythahflokacgjjaa", sum := "bf9423fed35df604b35cbeb42ae9f5f4120953dfb0d9effd8c7320c6b5d6c5f3", func := "cavalcade/cavalcadelaw07.WindowUnpacks", spec := "windowUnpacks", unfollowed := true, recurses := true, apart := false, narrowed := true }
def WindowUnpacksUptoSaid : Prop := windowUnpacksUptoRow.holds Try.pinned (OpenSpec.upto windowUnpacksSpec)

/-- 'cavalcadelaw07.WindowBack', WHERE WHAT IT READS IS OF BULK AT MOST 1048576: true; the input reads as it did. -/
def windowBackUptoRow : OpenClaim := { program := "ythahflokacgjjaa", sum := "bf9423fed35df604b35cbeb42ae9f5f4120953dfb0d9effd8c7320c6b5d6c5f3", func := "cavalcade/cavalcadelaw07.WindowBack", spec := "windowBack", unfollowed := true, recurses := true, apart := false, narrowed := true }
def WindowBackUptoSaid : Prop := windowBackUptoRow.holds Try.pinned (OpenSpec.upto windowBackSpec)

/-- 'cavalcadelaw07.WindowLittle', WHERE WHAT IT READS IS OF BULK AT MOST 1048576: true; the input reads as it did. -/
def windowLittleUptoRow : OpenClaim := { program := "ythahflokacgjjaa", sum := "bf9423fed35df604b35cbeb42ae9f5f4120953dfb0d9effd8c7320c6b5d6c5f3", func := "cavalcade/cavalcadelaw07.WindowLittle", spec := "windowLittle", unfollowed := true, recurses := true, apart := false, narrowed := true }
def WindowLittleUptoSaid : Prop := windowLittleUptoRow.holds Try.pinned (OpenSpec.upto windowLittleSpec)

/-- 'cavalcadelaw07.WindowAgain', WHERE WHAT IT READS IS OF BULK AT MOST 1048576: true; the input reads as it did. -/
def windowAgainUptoRow : OpenClaim := { program := "ythahflokacgjjaa", sum := "bf9423fed35df604b35cbeb42ae9f5f4120953dfb0d9effd8c7320c6b5d6c5f3", func := "cavalcade/cavalcadelaw07.WindowAgain", spec := "windowAgain", unfollowed := true, recurses := true, apart := false, narrowed := true }
def WindowAgainUptoSaid : Prop := windowAgainUptoRow.holds Try.pinned (OpenSpec.upto windowAgainSpec)

end Rows
end Go.Proofs.Ythahflokacgjjaa
