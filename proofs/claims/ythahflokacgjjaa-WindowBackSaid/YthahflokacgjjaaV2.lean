/-
  The laws of layer 7: walks: WindowBack.
-/
import Derived.Test.YthahflokacgjjaaV
import Derived.Test.YthahflokacgjjaaD
namespace Go.Proofs.Ythahflokacgjjaa.WinP
open Go.RowKit Go.WinLaws Go.Proofs.Ythahflokacgjjaa.Pl
set_option linter.unusedVariables false

theorem back_facts (t : ByteArray) (ht : t.size ≤ 20000) : ∃ p : ByteArray, (∀ W, Calls Try.prog 10 #[.string t] W fun e w' => e = .returned (.string p) ∧ Below W.heap.size W w') ∧
    (∀ W, Calls Try.prog 13 #[.string p, .int .i64 t.size] W fun e w' => e = .returned (.tuple #[.string t, .int .i64 0]) ∧ Below W.heap.size W w') ∧
    (∀ (less : Int) W, 1 ≤ less → less ≤ t.size → Calls Try.prog 13 #[.string p, .int .i64 ((t.size : Int) - less)] W fun e w' => e = .returned (.tuple #[.string ⟨#[]⟩, .int .i64 3]) ∧ Below W.heap.size W w') := by
  have hl := pack_size t
  have hls : t.data.toList.length = t.size := by rw [Array.length_toList]; rfl
  have hb := fun m hm => unpack_pack t.data.toList m hm
  rw [hls] at hb
  obtain ⟨p, hp⟩ : ∃ p, strOf (pack t.data.toList) = p := ⟨_, rfl⟩
  rw [show pack t.data.toList = p.data.toList by rw [← hp]; rfl] at hb
  have hps : p.size ≤ 21000 := by rw [← hp]; omega
  refine ⟨p, fun W => by rw [← hp]; exact pack_any t W (by omega), fun W => ?_, fun less W h1 h2 => ?_⟩
  · have := unpack_any p t.size W (by omega) (by omega) (by omega) (fun n h _ => fit4 _ (by omega))
    rw [hb _ (by omega), if_pos (Int.le_refl _)] at this
    exact this
  · have := unpack_any p ((t.size : Int) - less) W (by omega) (by omega) (by omega) (fun n h _ => fit4 _ (by omega))
    rw [hb _ (by omega), if_neg (by omega)] at this
    exact this

set_option maxHeartbeats 4000000 in
theorem law_back (s : ByteArray) (less : Int) (w : World) (hs : s.size ≤ 140737488351232) (h1 : -9223372036854775808 ≤ less) (h2 : less ≤ 9223372036854775807) :
    Calls Try.prog 5 #[.string s, .int .i64 less] w fun e w' => e = .returned (.bool true) ∧ Below w.heap.size w w' := by
  by_cases hc : s.size ≤ 20000
  · have hc' : decide ((20000 : Int) < (s.size : Int)) = false := by simp; omega
    obtain ⟨p, f1, f2, f3⟩ := back_facts s hc
    have H1 := Kp.mk f1
    have H2 := Kp.mk f2
    by_cases c : 1 ≤ less ∧ less ≤ s.size
    · have H3 := Kp.mk (fun W => f3 less W c.1 c.2)
      have c1 : decide (less < 1) = false := by simp; omega
      have c2 : decide ((s.size : Int) < less) = false := by simp; omega
      have hw : IntKind.i64.wrap ((s.size : Int) - less) = (s.size : Int) - less := IntWalk.i64_in _ (by omega)
      clear f1 f2 f3
      go_enter Try.func5, Try.ntmps5
      go_wp2_with (first
        | (go_at_call 9; refine (awake_any _).mono ?_; rintro e w3 ⟨rfl, hk⟩; have Hb3 := Kp.mk hk; clear hk)
        | (go_at_call 10; refine (H1.out _).mono ?_; rintro e w1 ⟨rfl, hk⟩; have Hb1 := Kp.mk hk; clear hk)
        | (go_at_call 13; with_reducible refine (H2.out _).mono ?_; rintro e w2 ⟨rfl, hk⟩; have Hb2 := Kp.mk hk; clear hk)
        | (go_at_call 13; with_reducible refine (H3.out _).mono ?_; rintro e w4 ⟨rfl, hk⟩; have Hb4 := Kp.mk hk; clear hk))
      go_ret
      have b3 := (Hb1.out.trans (Hb2.out.mono Hb1.out.size)).trans (Hb3.out.mono (Hb1.out.trans (Hb2.out.mono Hb1.out.size)).size)
      exact ⟨rfl, b3.trans (Hb4.out.mono b3.size)⟩
    · clear f1 f2 f3
      by_cases d : less < 1
      · have c1 : decide (less < 1) = true := by simp; omega
        go_enter Try.func5, Try.ntmps5
        go_wp2_with (first
          | (go_at_call 9; refine (awake_any _).mono ?_; rintro e w3 ⟨rfl, hk⟩; have Hb3 := Kp.mk hk; clear hk)
          | (go_at_call 10; refine (H1.out _).mono ?_; rintro e w1 ⟨rfl, hk⟩; have Hb1 := Kp.mk hk; clear hk)
          | (go_at_call 13; with_reducible refine (H2.out _).mono ?_; rintro e w2 ⟨rfl, hk⟩; have Hb2 := Kp.mk hk; clear hk))
        go_ret
        exact ⟨rfl, (Hb1.out.trans (Hb2.out.mono Hb1.out.size)).trans (Hb3.out.mono (Hb1.out.trans (Hb2.out.mono Hb1.out.size)).size)⟩
      · have c1 : decide (less < 1) = false := by simp; omega
        have c2 : decide ((s.size : Int) < less) = true := by simp; omega
        go_enter Try.func5, Try.ntmps5
        go_wp2_with (first
          | (go_at_call 9; refine (awake_any _).mono ?_; rintro e w3 ⟨rfl, hk⟩; have Hb3 := Kp.mk hk; clear hk)
          | (go_at_call 10; refine (H1.out _).mono ?_; rintro e w1 ⟨rfl, hk⟩; have Hb1 := Kp.mk hk; clear hk)
          | (go_at_call 13; with_reducible refine (H2.out _).mono ?_; rintro e w2 ⟨rfl, hk⟩; have Hb2 := Kp.mk hk; clear hk))
        go_ret
        exact ⟨rfl, (Hb1.out.trans (Hb2.out.mono Hb1.out.size)).trans (Hb3.out.mono (Hb1.out.trans (Hb2.out.mono Hb1.out.size)).size)⟩
  · have hc' : decide ((20000 : Int) < (s.size : Int)) = true := by simp; omega
    have hcs : (s.extract 0 20000).size = 20000 := by rw [ByteArray.size_extract]; omega
    have g1 : (20000 : Int) ≤ s.size := by omega
    obtain ⟨p, f1, f2, f3⟩ := back_facts (s.extract 0 20000) (by omega)
    rw [hcs] at f2 f3
    have H1 := Kp.mk f1
    have H2 : Kp (∀ W, Calls Try.prog 13 #[.string p, .int .i64 20000] W fun e w' => e = .returned (.tuple #[.string (s.extract 0 20000), .int .i64 0]) ∧ Below W.heap.size W w') := ⟨f2⟩
    by_cases c : 1 ≤ less ∧ less ≤ 20000
    · have H3 : Kp (∀ W, Calls Try.prog 13 #[.string p, .int .i64 (20000 - less)] W fun e w' => e = .returned (.tuple #[.string ⟨#[]⟩, .int .i64 3]) ∧ Below W.heap.size W w') := ⟨fun W => f3 less W c.1 (by omega)⟩
      have c1 : decide (less < 1) = false := by simp; omega
      have c2 : decide ((20000 : Int) < less) = false := by simp; omega
      have hw : IntKind.i64.wrap ((20000 : Int) - less) = (20000 : Int) - less := IntWalk.i64_in _ (by omega)
      clear f1 f2 f3
      go_enter Try.func5, Try.ntmps5
      go_wp2_with (first
        | (go_at_call 9; refine (awake_any _).mono ?_; rintro e w3 ⟨rfl, hk⟩; have Hb3 := Kp.mk hk; clear hk)
        | (go_at_call 10; refine (H1.out _).mono ?_; rintro e w1 ⟨rfl, hk⟩; have Hb1 := Kp.mk hk; clear hk)
        | (go_at_call 13; with_reducible refine (H2.out _).mono ?_; rintro e w2 ⟨rfl, hk⟩; have Hb2 := Kp.mk hk; clear hk)
        | (go_at_call 13; with_reducible refine (H3.out _).mono ?_; rintro e w4 ⟨rfl, hk⟩; have Hb4 := Kp.mk hk; clear hk))
      go_ret
      have b3 := (Hb1.out.trans (Hb2.out.mono Hb1.out.size)).trans (Hb3.out.mono (Hb1.out.trans (Hb2.out.mono Hb1.out.size)).size)
      exact ⟨rfl, b3.trans (Hb4.out.mono b3.size)⟩
    · clear f1 f2 f3
      by_cases d : less < 1
      · have c1 : decide (less < 1) = true := by simp; omega
        go_enter Try.func5, Try.ntmps5
        go_wp2_with (first
          | (go_at_call 9; refine (awake_any _).mono ?_; rintro e w3 ⟨rfl, hk⟩; have Hb3 := Kp.mk hk; clear hk)
          | (go_at_call 10; refine (H1.out _).mono ?_; rintro e w1 ⟨rfl, hk⟩; have Hb1 := Kp.mk hk; clear hk)
          | (go_at_call 13; with_reducible refine (H2.out _).mono ?_; rintro e w2 ⟨rfl, hk⟩; have Hb2 := Kp.mk hk; clear hk))
        go_ret
        exact ⟨rfl, (Hb1.out.trans (Hb2.out.mono Hb1.out.size)).trans (Hb3.out.mono (Hb1.out.trans (Hb2.out.mono Hb1.out.size)).size)⟩
      · have c1 : decide (less < 1) = false := by simp; omega
        have c2 : decide ((20000 : Int) < less) = true := by simp; omega
        go_enter Try.func5, Try.ntmps5
        go_wp2_with (first
          | (go_at_call 9; refine (awake_any _).mono ?_; rintro e w3 ⟨rfl, hk⟩; have Hb3 := Kp.mk hk; clear hk)
          | (go_at_call 10; refine (H1.out _).mono ?_; rintro e w1 ⟨rfl, hk⟩; have Hb1 := Kp.mk hk; clear hk)
          | (go_at_call 13; with_reducible refine (H2.out _).mono ?_; rintro e w2 ⟨rfl, hk⟩; have Hb2 := Kp.mk hk; clear hk))
        go_ret
        exact ⟨rfl, (Hb1.out.trans (Hb2.out.mono Hb1.out.size)).trans (Hb3.out.mono (Hb1.out.trans (Hb2.out.mono Hb1.out.size)).size)⟩

end Go.Proofs.Ythahflokacgjjaa.WinP
