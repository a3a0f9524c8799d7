/-
  The laws of layer 7: walks: WindowPacks.
-/
import Derived.Test.YthahflokacgjjaaV
import Derived.Test.YthahflokacgjjaaQ2
namespace Go.Proofs.Ythahflokacgjjaa.WinP
open Go.RowKit Go.WinLaws Go.Proofs.Ythahflokacgjjaa.Pl
set_option linter.unusedVariables false

theorem few_any (s : ByteArray) : ∃ t : ByteArray, t.size ≤ 500 ∧ ∀ w, Calls Try.prog 8 #[.string s] w fun e w' => e = .returned (.string t) ∧ Below w.heap.size w w' := by
  by_cases hc : s.size ≤ 500
  · have hc' : decide ((500 : Int) < (s.size : Int)) = false := by simp; omega
    refine ⟨s, hc, fun w => ?_⟩
    go_enter Try.func8, Try.ntmps8
    go_wp2_with fail
    go_ret
    exact ⟨rfl, Below.refl _ _⟩
  · have hc' : decide ((500 : Int) < (s.size : Int)) = true := by simp; omega
    have g1 : (500 : Int) ≤ s.size := by omega
    refine ⟨s.extract 0 500, by rw [ByteArray.size_extract]; omega, fun w => ?_⟩
    go_enter Try.func8, Try.ntmps8
    go_wp2_with fail
    go_ret
    exact ⟨rfl, Below.refl _ _⟩

set_option maxHeartbeats 4000000 in
theorem law_packs (s : ByteArray) (w : World) (hs : s.size ≤ 140737488351232) : Calls Try.prog 3 #[.string s] w fun e w' => e = .returned (.bool true) ∧ Below w.heap.size w w' := by
  obtain ⟨t, ht, hfew⟩ := few_any s
  have H0 := Kp.mk hfew
  obtain ⟨p, hp⟩ : ∃ p, strOf (pack t.data.toList) = p := ⟨_, rfl⟩
  have H1 : Kp (∀ W, Calls Try.prog 10 #[.string t] W fun e w' => e = .returned (.string p) ∧ Below W.heap.size W w') := ⟨fun W => by rw [← hp]; exact pack_any t W (by omega)⟩
  have H2 : Kp (∀ W, Calls Try.prog 11 #[.string t] W fun e w' => e = .returned (.string p) ∧ Below W.heap.size W w') := ⟨fun W => by rw [← hp]; exact pack_ref t W (by omega)⟩
  clear hp hfew
  have Hst : Kp (∀ W, Calls Try.prog 12 #[] W fun e w' => e = .returned (.string (strOf stat)) ∧ Below W.heap.size W w') := ⟨fun W => static_any W⟩
  go_enter Try.func3, Try.ntmps3
  go_wp2_with (first
    | (go_at_call 8; refine (H0.out _).mono ?_; rintro e w0 ⟨rfl, hk⟩; have Hb0 := Kp.mk hk; clear hk)
    | (go_at_call 9; refine (awake_any _).mono ?_; rintro e w1 ⟨rfl, hk⟩; have Hb1 := Kp.mk hk; clear hk)
    | (go_at_call 10; refine (H1.out _).mono ?_; rintro e w2 ⟨rfl, hk⟩; have Hb2 := Kp.mk hk; clear hk)
    | (go_at_call 11; refine (H2.out _).mono ?_; rintro e w3 ⟨rfl, hk⟩; have Hb3 := Kp.mk hk; clear hk)
    | (go_at_call 12; refine (Hst.out _).mono ?_; rintro e w4 ⟨rfl, hk⟩; have Hb4 := Kp.mk hk; clear hk))
  go_ret
  have b1 := Hb0.out.trans (Hb1.out.mono Hb0.out.size)
  have b2 := b1.trans (Hb2.out.mono b1.size)
  have b3 := b2.trans (Hb3.out.mono b2.size)
  exact ⟨congrArg (fun b => Ending.returned (Value.bool b)) (show (_ == (strOf stat).toList) = true by decide +kernel), b3.trans (Hb4.out.mono b3.size)⟩

end Go.Proofs.Ythahflokacgjjaa.WinP
