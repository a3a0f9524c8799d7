/-
  The laws of layer 6: walks.
-/
import Derived.Test.YtnbihffkaagmjaaC11
import Derived.Test.YtnbihffkaagmjaaC5
import Derived.Test.YtnbihffkaagmjaaC6
import Derived.Test.YtnbihffkaagmjaaC7
namespace Go.Proofs.Ytnbihffkaagmjaa.RunsP
open Go.RowKit Go.RunLaws Go.Proofs.Ytnbihffkaagmjaa.Pl
set_option linter.unusedVariables false


set_option maxHeartbeats 4000000 in
theorem law_join (a b : ByteArray) (w : World) (hs : a.size + b.size ≤ 140737488351232) :
    Calls Try.prog 7 #[.string a, .string b] w fun e w' => e = .returned (.bool true) ∧ Below w.heap.size w w' := by
  have hl1 := strOf_size_le a (by omega)
  have hl2 := strOf_size_le b (by omega)
  have hla : a.data.toList.length = a.size := by rw [Array.length_toList]; rfl
  have hlb : b.data.toList.length = b.size := by rw [Array.length_toList]; rfl
  have hj := unpack_join a.data.toList b.data.toList
  rw [hla, hlb] at hj
  obtain ⟨p, hp⟩ : ∃ p, strOf (pack a.data.toList) = p := ⟨_, rfl⟩
  obtain ⟨q, hq⟩ : ∃ q, strOf (pack b.data.toList) = q := ⟨_, rfl⟩
  have H1 : Kp (∀ W, Calls Try.prog 9 #[.string a] W fun e w' => e = .returned (.string p) ∧ Below W.heap.size W w') := ⟨fun W => by rw [← hp]; exact pack_any a W (by omega)⟩
  have H2 : Kp (∀ W, Calls Try.prog 9 #[.string b] W fun e w' => e = .returned (.string q) ∧ Below W.heap.size W w') := ⟨fun W => by rw [← hq]; exact pack_any b W (by omega)⟩
  have hw : IntKind.i64.wrap ((a.size : Int) + b.size) = (a.size : Int) + b.size := IntWalk.i64_in _ (by omega)
  have hpq : (p ++ q).data.toList = pack a.data.toList ++ pack b.data.toList := by
    rw [ByteArray.data_append, Array.toList_append, ← hp, ← hq]
    rfl
  have hab : strOf (a.data.toList ++ b.data.toList) = a ++ b := by
    apply ByteArray.ext
    rw [ByteArray.data_append]
    apply Array.ext'
    rw [Array.toList_append]
    rfl
  rw [← hpq] at hj
  rw [hp] at hl1
  rw [hq] at hl2
  have hszpq : (p ++ q).size = p.size + q.size := by simp
  have H3 : Kp (∀ W, Calls Try.prog 11 #[.string (p ++ q), .int .i64 ((a.size : Int) + b.size)] W fun e w' => e = .returned (.tuple #[.string (a ++ b), .int .i64 0]) ∧ Below W.heap.size W w') := ⟨fun W => by
    have := unpack_any (p ++ q) ((a.size : Int) + b.size) W (by omega) (by omega) (by omega) (fun n h _ => by unfold Fit; omega)
    rw [hj] at this
    dsimp only at this
    rw [hab] at this
    exact this⟩
  clear hp hq hj hpq hab hszpq hla hlb
  go_enter Try.func7, Try.ntmps7
  go_wp2_with (first
    | (go_at_call 9; with_reducible refine (H1.out _).mono ?_; rintro e w1 ⟨rfl, hk⟩; have Hb1 := Kp.mk hk; clear hk)
    | (go_at_call 9; with_reducible refine (H2.out _).mono ?_; rintro e w2 ⟨rfl, hk⟩; have Hb2 := Kp.mk hk; clear hk)
    | (go_at_call 11; with_reducible refine (H3.out _).mono ?_; rintro e w3 ⟨rfl, hk⟩; have Hb3 := Kp.mk hk; clear hk)
    | (go_at_call 8; refine (awake_any _).mono ?_; rintro e w4 ⟨rfl, hk⟩; have Hb4 := Kp.mk hk; clear hk))
  go_ret
  have b3 := (Hb1.out.trans (Hb2.out.mono Hb1.out.size)).trans (Hb3.out.mono (Hb1.out.trans (Hb2.out.mono Hb1.out.size)).size)
  exact ⟨rfl, b3.trans (Hb4.out.mono b3.size)⟩
end Go.Proofs.Ytnbihffkaagmjaa.RunsP
