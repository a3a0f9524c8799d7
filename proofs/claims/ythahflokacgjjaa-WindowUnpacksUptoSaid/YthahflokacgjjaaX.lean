/-
  The laws of layer 7: walks: WindowUnpacks.
-/
import Derived.Test.YthahflokacgjjaaV
import Derived.Test.YthahflokacgjjaaC8
namespace Go.Proofs.Ythahflokacgjjaa.WinP
open Go.RowKit Go.WinLaws Go.Proofs.Ythahflokacgjjaa.Pl
set_option linter.unusedVariables false

set_option maxHeartbeats 2000000 in
theorem law_unpacks (s : ByteArray) (most : Int) (w : World) (hs : s.size ≤ 1099511627776) (h1 : -9223372036854775808 ≤ most) (h2 : most ≤ 9223372036854775807) :
    Calls Try.prog 4 #[.string s, .int .i64 most] w fun e w' => e = .returned (.bool true) ∧ Below w.heap.size w w' := by
  obtain ⟨p, hp⟩ : ∃ p, unpack s.data.toList most = p := ⟨_, rfl⟩
  have hf : ∀ n : Nat, (n : Int) ≤ most → n ≤ 65 * s.size → Fit (n + 68) := fun n _ h => by unfold Fit; omega
  have H1 : Kp (∀ W, Calls Try.prog 13 #[.string s, .int .i64 most] W fun e w' => e = .returned (.tuple #[.string (strOf p.1), .int .i64 p.2]) ∧ Below W.heap.size W w') := ⟨fun W => by rw [← hp]; exact unpack_any s most W (by omega) h1 h2 hf⟩
  have H2 : Kp (∀ W, Calls Try.prog 14 #[.string s, .int .i64 most] W fun e w' => e = .returned (.tuple #[.string (strOf p.1), .int .i64 p.2]) ∧ Below W.heap.size W w') := ⟨fun W => by rw [← hp]; exact unpack_ref s most W (by omega) h1 h2 hf⟩
  clear hp hf
  obtain ⟨x, y⟩ := p
  dsimp only at H1 H2
  generalize strOf x = q at *
  go_enter Try.func4, Try.ntmps4
  go_wp2_with (first
    | (go_at_call 13; refine (H1.out _).mono ?_; rintro e w1 ⟨rfl, hk⟩; have Hb1 := Kp.mk hk; clear hk)
    | (go_at_call 14; refine (H2.out _).mono ?_; rintro e w2 ⟨rfl, hk⟩; have Hb2 := Kp.mk hk; clear hk)
    | (go_at_call 9; refine (awake_any _).mono ?_; rintro e w3 ⟨rfl, hk⟩; have Hb3 := Kp.mk hk; clear hk))
  go_ret
  exact ⟨by simp, (Hb1.out.trans (Hb2.out.mono Hb1.out.size)).trans (Hb3.out.mono (Hb1.out.trans (Hb2.out.mono Hb1.out.size)).size)⟩

end Go.Proofs.Ythahflokacgjjaa.WinP
