/-
  The laws of layer 7: walks: awake, WindowLittle.
-/
import Derived.Test.YthahflokacgjjaaP
import Derived.Test.YthahflokacgjjaaC6
namespace Go.Proofs.Ythahflokacgjjaa.WinP
open Go.RowKit Go.WinLaws Go.Proofs.Ythahflokacgjjaa.Pl
set_option linter.unusedVariables false

theorem fit4 (n : Nat) (h : n ≤ 1000000) : Fit n := by unfold Fit; omega

def lane : List UInt8 := [108, 97, 110, 101, 32, 108, 97, 110, 101]
theorem un_one : unpack [0, 120, 130, 0, 0] 9 = ([120, 120, 120, 120, 120, 120, 120], 0) := by decide +kernel
theorem un_lane : unpack (pack lane) 9 = (lane, 0) := by decide +kernel

set_option maxHeartbeats 2000000 in
theorem awake_any (w : World) : Calls Try.prog 9 #[] w fun e w' => e = .returned (.bool true) ∧ Below w.heap.size w w' := by
  have h1 : ∀ W, Calls Try.prog 13 #[.string ⟨#[0, 120, 130, 0, 0]⟩, .int .i64 9] W fun e w' => e = .returned (.tuple #[.string ⟨#[120, 120, 120, 120, 120, 120, 120]⟩, .int .i64 0]) ∧ Below W.heap.size W w' := fun W => by
    have := unpack_any ⟨#[0, 120, 130, 0, 0]⟩ 9 W (by decide) (by omega) (by omega) (fun n h1 _ => fit4 _ (by omega))
    rw [show (⟨#[0, 120, 130, 0, 0]⟩ : ByteArray).data.toList = [0, 120, 130, 0, 0] from rfl, un_one] at this
    exact this
  obtain ⟨pl, hpl⟩ : ∃ pl, strOf (pack lane) = pl := ⟨_, rfl⟩
  have hps : pl.size ≤ 10 := by
    rw [← hpl, strOf_size]
    have := pack_little lane
    rw [show lane.length = 9 from rfl] at this
    omega
  have h2 : ∀ W, Calls Try.prog 10 #[.string ⟨#[108, 97, 110, 101, 32, 108, 97, 110, 101]⟩] W fun e w' => e = .returned (.string pl) ∧ Below W.heap.size W w' := fun W => by
    have := pack_any ⟨#[108, 97, 110, 101, 32, 108, 97, 110, 101]⟩ W (by decide)
    rw [show (⟨#[108, 97, 110, 101, 32, 108, 97, 110, 101]⟩ : ByteArray).data.toList = lane from rfl, hpl] at this
    exact this
  have h3 : ∀ W, Calls Try.prog 13 #[.string pl, .int .i64 9] W fun e w' => e = .returned (.tuple #[.string ⟨#[108, 97, 110, 101, 32, 108, 97, 110, 101]⟩, .int .i64 0]) ∧ Below W.heap.size W w' := fun W => by
    have := unpack_any pl 9 W (by omega) (by omega) (by omega) (fun n h1 _ => fit4 _ (by omega))
    rw [show pl.data.toList = pack lane by rw [← hpl, strOf_list], un_lane] at this
    exact this
  have H1 := Kp.mk h1
  have H2 := Kp.mk h2
  have H3 := Kp.mk h3
  clear h1 h2 h3 hpl
  go_enter Try.func9, Try.ntmps9
  go_wp2_with (first
    | (go_at_call 13; with_reducible refine (H1.out _).mono ?_; rintro e w1 ⟨rfl, hk⟩; have Hb1 := Kp.mk hk; clear hk)
    | (go_at_call 10; refine (H2.out _).mono ?_; rintro e w2 ⟨rfl, hk⟩; have Hb2 := Kp.mk hk; clear hk)
    | (go_at_call 13; with_reducible refine (H3.out _).mono ?_; rintro e w3 ⟨rfl, hk⟩; have Hb3 := Kp.mk hk; clear hk))
  go_ret
  have b2 := Hb1.out.trans (Hb2.out.mono Hb1.out.size)
  exact ⟨rfl, b2.trans (Hb3.out.mono b2.size)⟩

theorem pack_size (s : ByteArray) : (strOf (pack s.data.toList)).size ≤ s.size + (s.size + 127) / 128 := by
  have := pack_little s.data.toList
  rw [show s.data.toList.length = s.size by rw [Array.length_toList]; rfl] at this
  exact this

set_option maxHeartbeats 2000000 in
theorem law_little (s : ByteArray) (w : World) (hs : s.size ≤ 140737488351232) : Calls Try.prog 6 #[.string s] w fun e w' => e = .returned (.bool true) ∧ Below w.heap.size w w' := by
  by_cases hc : s.size ≤ 20000
  · have hc' : decide ((20000 : Int) < (s.size : Int)) = false := by simp; omega
    obtain ⟨p, hp⟩ : ∃ p, strOf (pack s.data.toList) = p := ⟨_, rfl⟩
    have H1 : Kp (∀ W, Calls Try.prog 10 #[.string s] W fun e w' => e = .returned (.string p) ∧ Below W.heap.size W w') := ⟨fun W => by rw [← hp]; exact pack_any s W (by omega)⟩
    have hl := pack_size s
    rw [hp] at hl
    clear hp
    have hw1 : IntKind.i64.wrap ((s.size : Int) + 127) = (s.size : Int) + 127 := IntWalk.i64_in _ (by omega)
    go_enter Try.func6, Try.ntmps6
    go_wp2_with (first
      | (go_at_call 9; refine (awake_any _).mono ?_; rintro e w1 ⟨rfl, hk⟩; have Hb1 := Kp.mk hk; clear hk)
      | (go_at_call 10; refine (H1.out _).mono ?_; rintro e w2 ⟨rfl, hk⟩; have Hb2 := Kp.mk hk; clear hk))
    go_ret
    exact ⟨by simp; omega, Hb1.out.trans (Hb2.out.mono Hb1.out.size)⟩
  · have hc' : decide ((20000 : Int) < (s.size : Int)) = true := by simp; omega
    have hcs : (s.extract 0 20000).size = 20000 := by rw [ByteArray.size_extract]; omega
    have g1 : (20000 : Int) ≤ s.size := by omega
    obtain ⟨p, hp⟩ : ∃ p, strOf (pack (s.extract 0 20000).data.toList) = p := ⟨_, rfl⟩
    have H1 : Kp (∀ W, Calls Try.prog 10 #[.string (s.extract 0 20000)] W fun e w' => e = .returned (.string p) ∧ Below W.heap.size W w') := ⟨fun W => by rw [← hp]; exact pack_any _ W (by omega)⟩
    have hl := pack_size (s.extract 0 20000)
    rw [hp, hcs] at hl
    clear hp
    go_enter Try.func6, Try.ntmps6
    go_wp2_with (first
      | (go_at_call 9; refine (awake_any _).mono ?_; rintro e w1 ⟨rfl, hk⟩; have Hb1 := Kp.mk hk; clear hk)
      | (go_at_call 10; refine (H1.out _).mono ?_; rintro e w2 ⟨rfl, hk⟩; have Hb2 := Kp.mk hk; clear hk))
    go_ret
    exact ⟨by simp; omega, Hb1.out.trans (Hb2.out.mono Hb1.out.size)⟩

end Go.Proofs.Ythahflokacgjjaa.WinP
