/-
  What all texts of the seat share.
-/
import Derived.Test.YthahflokacgjjaaRows
import Derived.Test.YthahflokacgjjaaLaw
import Derived.Test.YthahflokacgjjaaM
import Derived.WalkKit
import Derived.ProofKit
import Derived.OpenShut
import Derived.Below
import Derived.Deep.QuietTactic
import Derived.BigQuiet
import Derived.KernelRfl
namespace Go.Proofs.Ythahflokacgjjaa.WinP
open Go.RowKit Go.WinLaws Go.Proofs.Ythahflokacgjjaa.Pl
set_option linter.unusedVariables false

/-- a fact kept from the walk -/
structure Kp (p : Prop) : Prop where
  out : p

theorem own : ownKnob Try.prog.godebug = none := by kernel_rfl

theorem byte_at (s : ByteArray) (k : Nat) (h : k < s.size) : s[k] = at_ s.data.toList k := by
  rw [at_eq (by simpa using h)]
  rfl

end Go.Proofs.Ythahflokacgjjaa.WinP
