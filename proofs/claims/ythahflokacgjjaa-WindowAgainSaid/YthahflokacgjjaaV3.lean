/-
  The laws of layer 7: walks: WindowAgain.
-/
import Derived.Test.YthahflokacgjjaaV
import Derived.Test.YthahflokacgjjaaD
namespace Go.Proofs.Ythahflokacgjjaa.WinP
open Go.RowKit Go.WinLaws Go.Proofs.Ythahflokacgjjaa.Pl
set_option linter.unusedVariables false

theorem again_facts (t : ByteArray) (ht : t.size ≤ 8000) : ∃ p q : ByteArray, (∀ W, Calls Try.prog 10 #[.string t] W fun e w' => e = .returned (.string p) ∧ Below W.heap.size W w') ∧
    (∀ W, Calls Try.prog 10 #[.string (t ++ t)] W fun e w' => e = .returned (.string q) ∧ Below W.heap.size W w') ∧ q.size ≤ p.size + 3 * ((t.size + 129) / 130) + 133 ∧ p.size ≤ 10000 := by
  have hls : t.data.toList.length = t.size := by rw [Array.length_toList]; rfl
  have hag := pack_again t.data.toList (by omega)
  rw [hls] at hag
  have hl := pack_size t
  have he : (t ++ t).data.toList = t.data.toList ++ t.data.toList := by rw [ByteArray.data_append, Array.toList_append]
  refine ⟨strOf (pack t.data.toList), strOf (pack (t.data.toList ++ t.data.toList)), fun W => pack_any t W (by omega), fun W => ?_, hag, by omega⟩
  have := pack_any (t ++ t) W (by rw [ByteArray.size_append]; omega)
  rw [he] at this
  exact this

set_option maxHeartbeats 4000000 in
theorem law_again (s : ByteArray) (w : World) (hs : s.size ≤ 140737488351232) : Calls Try.prog 7 #[.string s] w fun e w' => e = .returned (.bool true) ∧ Below w.heap.size w w' := by
  by_cases hc : s.size ≤ 8000
  · have hc' : decide ((8000 : Int) < (s.size : Int)) = false := by simp; omega
    obtain ⟨p, q, f1, f2, f3, f4⟩ := again_facts s hc
    have H1 := Kp.mk f1
    have H2 := Kp.mk f2
    clear f1 f2
    have hw1 : IntKind.i64.wrap ((s.size : Int) + 129) = (s.size : Int) + 129 := IntWalk.i64_in _ (by omega)
    go_enter Try.func7, Try.ntmps7
    go_wp2_with (first
      | (go_at_call 9; refine (awake_any _).mono ?_; rintro e w1 ⟨rfl, hk⟩; have Hb1 := Kp.mk hk; clear hk)
      | (go_at_call 10; with_reducible refine (H1.out _).mono ?_; rintro e w2 ⟨rfl, hk⟩; have Hb2 := Kp.mk hk; clear hk)
      | (go_at_call 10; with_reducible refine (H2.out _).mono ?_; rintro e w3 ⟨rfl, hk⟩; have Hb3 := Kp.mk hk; clear hk))
    go_ret
    have b2 := Hb1.out.trans (Hb3.out.mono Hb1.out.size)
    exact ⟨by simp; omega, b2.trans (Hb2.out.mono b2.size)⟩
  · have hc' : decide ((8000 : Int) < (s.size : Int)) = true := by simp; omega
    have hcs : (s.extract 0 8000).size = 8000 := by rw [ByteArray.size_extract]; omega
    have g1 : (8000 : Int) ≤ s.size := by omega
    obtain ⟨p, q, f1, f2, f3, f4⟩ := again_facts (s.extract 0 8000) (by omega)
    rw [hcs] at f3
    have H1 := Kp.mk f1
    have H2 := Kp.mk f2
    clear f1 f2
    go_enter Try.func7, Try.ntmps7
    go_wp2_with (first
      | (go_at_call 9; refine (awake_any _).mono ?_; rintro e w1 ⟨rfl, hk⟩; have Hb1 := Kp.mk hk; clear hk)
      | (go_at_call 10; with_reducible refine (H1.out _).mono ?_; rintro e w2 ⟨rfl, hk⟩; have Hb2 := Kp.mk hk; clear hk)
      | (go_at_call 10; with_reducible refine (H2.out _).mono ?_; rintro e w3 ⟨rfl, hk⟩; have Hb3 := Kp.mk hk; clear hk))
    go_ret
    have b2 := Hb1.out.trans (Hb3.out.mono Hb1.out.size)
    exact ⟨by simp; omega, b2.trans (Hb2.out.mono b2.size)⟩

end Go.Proofs.Ythahflokacgjjaa.WinP
