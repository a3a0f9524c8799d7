/-
  The laws of layer 6: walks.
-/
import Derived.Test.YtnbihffkaagmjaaC5
import Derived.Test.YtnbihffkaagmjaaC6
import Derived.Test.YtnbihffkaagmjaaC7
namespace Go.Proofs.Ytnbihffkaagmjaa.RunsP
open Go.RowKit Go.RunLaws Go.Proofs.Ytnbihffkaagmjaa.Pl
set_option linter.unusedVariables false

theorem fit4 (n : Nat) (h : n ≤ 1000) : Fit n := by unfold Fit; omega

set_option maxHeartbeats 2000000 in
theorem awake_any (w : World) : Calls Try.prog 8 #[] w fun e w' => e = .returned (.bool true) ∧ Below w.heap.size w w' := by
  have h1 : ∀ W, Calls Try.prog 11 #[.string ⟨#[128, 97, 0, 98]⟩, .int .i64 4] W fun e w' => e = .returned (.tuple #[.string ⟨#[97, 97, 97, 98]⟩, .int .i64 0]) ∧ Below W.heap.size W w' := fun W => by
    have := unpack_any ⟨#[128, 97, 0, 98]⟩ 4 W (by decide) (by omega) (by omega) (fun n h1 _ => fit4 n (by omega))
    rw [show unpack (⟨#[128, 97, 0, 98]⟩ : ByteArray).data.toList 4 = ([97, 97, 97, 98], 0) from by decide] at this
    exact this
  have h2 : ∀ W, Calls Try.prog 9 #[.string ⟨#[97, 97, 97, 98]⟩] W fun e w' => e = .returned (.string ⟨#[128, 97, 0, 98]⟩) ∧ Below W.heap.size W w' := fun W => by
    have := pack_any ⟨#[97, 97, 97, 98]⟩ W (by decide)
    rw [show pack (⟨#[97, 97, 97, 98]⟩ : ByteArray).data.toList = [128, 97, 0, 98] from by decide] at this
    exact this
  have H1 := Kp.mk h1
  have H2 := Kp.mk h2
  clear h1 h2
  go_enter Try.func8, Try.ntmps8
  go_wp2_with (first
    | (go_at_call 11; refine (H1.out _).mono ?_; rintro e w1 ⟨rfl, hk⟩; have Hb1 := Kp.mk hk; clear hk)
    | (go_at_call 9; refine (H2.out _).mono ?_; rintro e w2 ⟨rfl, hk⟩; have Hb2 := Kp.mk hk; clear hk))
  go_ret
  exact ⟨rfl, Hb1.out.trans (Hb2.out.mono Hb1.out.size)⟩

set_option maxHeartbeats 2000000 in
theorem law_packs (s : ByteArray) (w : World) (hs : s.size ≤ 140737488351232) : Calls Try.prog 3 #[.string s] w fun e w' => e = .returned (.bool true) ∧ Below w.heap.size w w' := by
  obtain ⟨p, hp⟩ : ∃ p, strOf (pack s.data.toList) = p := ⟨_, rfl⟩
  have H1 : Kp (∀ W, Calls Try.prog 9 #[.string s] W fun e w' => e = .returned (.string p) ∧ Below W.heap.size W w') := ⟨fun W => by rw [← hp]; exact pack_any s W hs⟩
  have H2 : Kp (∀ W, Calls Try.prog 10 #[.string s] W fun e w' => e = .returned (.string p) ∧ Below W.heap.size W w') := ⟨fun W => by rw [← hp]; exact pack_ref s W hs⟩
  clear hp
  go_enter Try.func3, Try.ntmps3
  go_wp2_with (first
    | (go_at_call 8; refine (awake_any _).mono ?_; rintro e w1 ⟨rfl, hk⟩; have Hb1 := Kp.mk hk; clear hk)
    | (go_at_call 9; refine (H1.out _).mono ?_; rintro e w2 ⟨rfl, hk⟩; have Hb2 := Kp.mk hk; clear hk)
    | (go_at_call 10; refine (H2.out _).mono ?_; rintro e w3 ⟨rfl, hk⟩; have Hb3 := Kp.mk hk; clear hk))
  go_ret
  exact ⟨by simp, (Hb1.out.trans (Hb2.out.mono Hb1.out.size)).trans (Hb3.out.mono (Hb1.out.trans (Hb2.out.mono Hb1.out.size)).size)⟩

end Go.Proofs.Ytnbihffkaagmjaa.RunsP
