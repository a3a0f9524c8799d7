/-
  The laws of layer 6: walks.
-/
import Derived.Test.YtnbihffkaagmjaaC9
import Derived.Test.YtnbihffkaagmjaaC5
import Derived.Test.YtnbihffkaagmjaaC6
import Derived.Test.YtnbihffkaagmjaaC7
namespace Go.Proofs.Ytnbihffkaagmjaa.RunsP
open Go.RowKit Go.RunLaws Go.Proofs.Ytnbihffkaagmjaa.Pl
set_option linter.unusedVariables false


theorem strOf_size_le (s : ByteArray) (hs : s.size ≤ 140737488351232) : (strOf (pack s.data.toList)).size ≤ s.size + (s.size + 127) / 128 := by
  have := pack_little s.data.toList
  rw [show s.data.toList.length = s.size by rw [Array.length_toList]; rfl] at this
  exact this

set_option maxHeartbeats 2000000 in
theorem law_little (s : ByteArray) (w : World) (hs : s.size ≤ 140737488351232) : Calls Try.prog 6 #[.string s] w fun e w' => e = .returned (.bool true) ∧ Below w.heap.size w w' := by
  obtain ⟨p, hp⟩ : ∃ p, strOf (pack s.data.toList) = p := ⟨_, rfl⟩
  have H1 : Kp (∀ W, Calls Try.prog 9 #[.string s] W fun e w' => e = .returned (.string p) ∧ Below W.heap.size W w') := ⟨fun W => by rw [← hp]; exact pack_any s W hs⟩
  have hl := strOf_size_le s hs
  rw [hp] at hl
  clear hp
  have hw1 : IntKind.i64.wrap ((s.size : Int) + 127) = (s.size : Int) + 127 := IntWalk.i64_in _ (by omega)
  go_enter Try.func6, Try.ntmps6
  go_wp2_with (first
    | (go_at_call 8; refine (awake_any _).mono ?_; rintro e w1 ⟨rfl, hk⟩; have Hb1 := Kp.mk hk; clear hk)
    | (go_at_call 9; refine (H1.out _).mono ?_; rintro e w2 ⟨rfl, hk⟩; have Hb2 := Kp.mk hk; clear hk))
  go_ret
  exact ⟨by simp; omega, Hb1.out.trans (Hb2.out.mono Hb1.out.size)⟩

end Go.Proofs.Ytnbihffkaagmjaa.RunsP
