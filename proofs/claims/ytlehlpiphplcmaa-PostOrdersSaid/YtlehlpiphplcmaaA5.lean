/-
  awake; PostNone.
-/
import Derived.Test.YtlehlpiphplcmaaA4
namespace Go.Proofs.Ytlehlpiphplcmaa.PostP
open Go.RowKit Go.PostLaws Go.Maps Go.Proofs.Ytlehlpiphplcmaa.Pl
set_option linter.unusedVariables false

def h0 : Int → Option Int := fun _ => none
def h1 : Int → Option Int := aft 3 5 (cutd h0 0) 0 (reach 2 0 9)
def h2 : Int → Option Int := aft 3 6 (cutd h1 0) 0 (reach 2 0 9)
def h3 : Int → Option Int := aft 3 7 (cutd h2 1) 1 (reach 2 1 9)
def h4 : Int → Option Int := aft 3 8 (cutd h3 1) 1 (reach 2 1 9)
theorem hi1 : Hi h1 := Hi.none.aft (by omega) (by omega)
theorem hi2 : Hi h2 := hi1.aft (by omega) (by omega)
theorem hi3 : Hi h3 := hi2.aft (by omega) (by omega)
theorem t1 : told 3 5 (cutd h0 0) 0 (reach 2 0 9) = [0, 1] := by decide
theorem t2 : told 3 6 (cutd h1 0) 0 (reach 2 0 9) = [] := by decide
theorem t3 : told 3 7 (cutd h2 1) 1 (reach 2 1 9) = [2] := by decide
theorem t4 : told 3 8 (cutd h3 1) 1 (reach 2 1 9) = [1] := by decide

theorem look1 {w : World} {M B n : Nat} (hP : Po w M B n 3 2 h0) (hn : n ≤ 100000) : Calls Try.prog 9 #[.pointer (some ⟨B, 0, none⟩), .int .i64 5, .int .i64 0, .int .i64 9] w fun e w' => ∃ (A : Option Addr) (c : Nat), e = .returned (.slice A 2 c) ∧ OwnI w' w.heap.size (.slice A 2 c) [0, 1] ∧ Po w' M B (n + 64) 3 2 h1 ∧ Fr w w' M := by
  have := look_any hP 5 0 9 (by omega) (by omega) (by omega) (by omega) (by omega) (by omega) (by omega) (by omega) (by omega) (by omega) Hi.none (by omega)
  rw [t1] at this
  exact this
theorem look2 {w : World} {M B n : Nat} (hP : Po w M B n 3 2 h1) (hn : n ≤ 100000) : Calls Try.prog 9 #[.pointer (some ⟨B, 0, none⟩), .int .i64 6, .int .i64 0, .int .i64 9] w fun e w' => ∃ (A : Option Addr) (c : Nat), e = .returned (.slice A 0 c) ∧ OwnI w' w.heap.size (.slice A 0 c) [] ∧ Po w' M B (n + 64) 3 2 h2 ∧ Fr w w' M := by
  have := look_any hP 6 0 9 (by omega) (by omega) (by omega) (by omega) (by omega) (by omega) (by omega) (by omega) (by omega) (by omega) hi1 (by omega)
  rw [t2] at this
  exact this
theorem look3 {w : World} {M B n : Nat} (hP : Po w M B n 3 2 h2) (hn : n ≤ 100000) : Calls Try.prog 9 #[.pointer (some ⟨B, 0, none⟩), .int .i64 7, .int .i64 1, .int .i64 9] w fun e w' => ∃ (A : Option Addr) (c : Nat), e = .returned (.slice A 1 c) ∧ OwnI w' w.heap.size (.slice A 1 c) [2] ∧ Po w' M B (n + 64) 3 2 h3 ∧ Fr w w' M := by
  have := look_any hP 7 1 9 (by omega) (by omega) (by omega) (by omega) (by omega) (by omega) (by omega) (by omega) (by omega) (by omega) hi2 (by omega)
  rw [t3] at this
  exact this
theorem look4 {w : World} {M B n : Nat} (hP : Po w M B n 3 2 h3) (hn : n ≤ 100000) : Calls Try.prog 9 #[.pointer (some ⟨B, 0, none⟩), .int .i64 8, .int .i64 1, .int .i64 9] w fun e w' => ∃ (A : Option Addr) (c : Nat), e = .returned (.slice A 1 c) ∧ OwnI w' w.heap.size (.slice A 1 c) [1] ∧ Po w' M B (n + 64) 3 2 h4 ∧ Fr w w' M := by
  have := look_any hP 8 1 9 (by omega) (by omega) (by omega) (by omega) (by omega) (by omega) (by omega) (by omega) (by omega) (by omega) hi3 (by omega)
  rw [t4] at this
  exact this

theorem lit2 (w : World) : Rd (w.alloc (.cells #[.int .i64 0, .int .i64 1] 3)) (.slice (some ⟨w.heap.size, 0, none⟩) 2 2) [0, 1] := Rd.of_lit w [0, 1] _ rfl
theorem lit1 (w : World) (z : Int) : Rd (w.alloc (.cells #[.int .i64 z] 3)) (.slice (some ⟨w.heap.size, 0, none⟩) 1 1) [z] := Rd.of_lit w [z] _ rfl

set_option maxRecDepth 100000 in
set_option maxHeartbeats 8000000 in
theorem awake_any (w : World) : Calls Try.prog 8 #[] w fun e w' => e = .returned (.bool true) ∧ Below w.heap.size w w' := by
  have Hnew := Kp.mk (new_any w 3 2 (by omega) (by omega) (by omega) (by omega))
  go_enter Try.func8, Try.ntmps8
  go_wp2_with (first
    | (go_at_call 7; refine (Hnew.out).mono ?_; rintro e w1 ⟨rfl, hP, hb, hz⟩; have HP1 := Kp.mk hP; have Hb1 := Kp.mk hb; clear hP hb)
    | (go_at_call 9; with_reducible refine (look1 HP1.out (by omega)).mono ?_; rintro e w2 ⟨A2, c2, rfl, ho, hP, hf⟩; have Ho2 := Kp.mk ho; have HP2 := Kp.mk hP; have Hf2 := Kp.mk hf; have hs2 := hf.size; clear ho hP hf)
    | (go_at_call 9; with_reducible refine (look2 HP2.out (by omega)).mono ?_; rintro e w3 ⟨A3, c3, rfl, ho, hP, hf⟩; have Ho3 := Kp.mk ho; have HP3 := Kp.mk hP; have Hf3 := Kp.mk hf; have hs3 := hf.size; clear ho hP hf)
    | (go_at_call 9; with_reducible refine (look3 HP3.out (by omega)).mono ?_; rintro e w4 ⟨A4, c4, rfl, ho, hP, hf⟩; have Ho4 := Kp.mk ho; have HP4 := Kp.mk hP; have Hf4 := Kp.mk hf; have hs4 := hf.size; clear ho hP hf)
    | (go_at_call 9; with_reducible refine (look4 HP4.out (by omega)).mono ?_; rintro e w5 ⟨A5, c5, rfl, ho, hP, hf⟩; have Ho5 := Kp.mk ho; have Hf5 := Kp.mk hf; have hs5 := hf.size
       have Ha5 := Kp.mk (ownI_fr (ownI_fr (ownI_fr Ho2.out Hf3.out (by omega)) Hf4.out (by omega)) hf (by omega))
       have Hc5 := Kp.mk (ownI_fr Ho4.out hf (by omega))
       have Hd5 := Kp.mk ho
       have Hb5 : Kp (Below w.heap.size w w5) := ⟨Hb1.out.trans ((((Hf2.out.trans Hf3.out).trans Hf4.out).trans hf).below (Nat.le_refl _) (by omega))⟩
       clear ho hP hf)
    | (go_at_call 11; with_reducible refine (numbers_any (zs := [0, 1]) (Rd.of_own (ownI_kept Ha5.out ((Below.refl w5.heap.size w5).alloc (Nat.le_refl _) _) (Nat.le_refl _))) (lit2 w5) (by decide)).mono ?_; rintro e w6 ⟨rfl, hb⟩
       have hb6 : Below w5.heap.size w5 w6 := ((Below.refl w5.heap.size w5).alloc (Nat.le_refl _) _).trans (hb.mono (by simp))
       have Hb6 := Kp.mk hb6
       have Hc6 := Kp.mk (ownI_kept Hc5.out hb6 (Nat.le_refl _))
       have Hd6 := Kp.mk (ownI_kept Hd5.out hb6 (Nat.le_refl _))
       clear hb hb6)
    | (go_at_call 11; with_reducible refine (numbers_any (zs := [2]) (Rd.of_own (ownI_kept Hc6.out ((Below.refl w6.heap.size w6).alloc (Nat.le_refl _) _) (Nat.le_refl _))) (lit1 w6 2) (by decide)).mono ?_; rintro e w7 ⟨rfl, hb⟩
       have hb7 : Below w6.heap.size w6 w7 := ((Below.refl w6.heap.size w6).alloc (Nat.le_refl _) _).trans (hb.mono (by simp))
       have Hb7 := Kp.mk hb7
       have Hd7 := Kp.mk (ownI_kept Hd6.out hb7 (Nat.le_refl _))
       clear hb hb7)
    | (go_at_call 11; with_reducible refine (numbers_any (zs := [1]) (Rd.of_own (ownI_kept Hd7.out ((Below.refl w7.heap.size w7).alloc (Nat.le_refl _) _) (Nat.le_refl _))) (lit1 w7 1) (by decide)).mono ?_; rintro e w8 ⟨rfl, hb⟩
       have hb8 : Below w7.heap.size w7 w8 := ((Below.refl w7.heap.size w7).alloc (Nat.le_refl _) _).trans (hb.mono (by simp))
       have Hb8 := Kp.mk hb8
       clear hb hb8))
  go_ret
  have b6 := Hb5.out.trans (Hb6.out.mono Hb5.out.size)
  have b7 := b6.trans (Hb7.out.mono b6.size)
  exact ⟨rfl, b7.trans (Hb8.out.mono b7.size)⟩

theorem law_none (a b c : Int) (w : World) : Calls Try.prog 6 #[.agg #[.int .i64 a, .int .i64 b, .int .i64 c]] w fun e w' => e = .returned (.bool true) ∧ Below w.heap.size w w' := by
  have hx := heap_alloc_new w (.cells #[.int .i64 a, .int .i64 b, .int .i64 c] 31)
  have Hx : Kp (∀ w1, Below w.heap.size.succ (w.alloc (.cells #[.int .i64 a, .int .i64 b, .int .i64 c] 31)) w1 → w1.heap[w.heap.size]? = some (.cells #[.int .i64 a, .int .i64 b, .int .i64 c] 31 (0, 0))) := ⟨fun w1 k => (k.block _ (Nat.lt_succ_self _)).trans hx⟩
  clear hx
  go_enter Try.func6, Try.ntmps6
  go_wp2_with (first
    | (go_at_call 8; refine (awake_any _).mono ?_; rintro e w1 ⟨rfl, hk⟩
       have hr := Hx.out w1 (hk.mono (by simp))
       have c0 : w1.cell? ⟨w.heap.size, 0, none⟩ = some (.int .i64 a) := by rw [cell_of_row w1 _ 0 _ _ _ hr]; rfl
       have c1 : w1.cell? ⟨w.heap.size, 1, none⟩ = some (.int .i64 b) := by rw [cell_of_row w1 _ 1 _ _ _ hr]; rfl
       have c2 : w1.cell? ⟨w.heap.size, 2, none⟩ = some (.int .i64 c) := by rw [cell_of_row w1 _ 2 _ _ _ hr]; rfl
       have Hk := Kp.mk hk
       clear hr hk)
    | (go_at_call 9; refine (look_nil _ a b c).mono ?_; rintro e w2 ⟨rfl, rfl⟩)
    | (go_at_call 10; refine (out_nil _).mono ?_; rintro e w3 ⟨rfl, rfl⟩))
  go_ret
  exact ⟨rfl, ((Below.refl _ w).alloc (Nat.le_refl _) _).trans (Hk.out.mono (by simp))⟩

end Go.Proofs.Ytlehlpiphplcmaa.PostP
