/-
  The walks of CutFits and CutDues.
-/
import Derived.Test.YtenfijjlggiklaaC8
import Derived.Test.YtenfijjlggiklaaC4
namespace Go.Proofs.Ytenfijjlggiklaa.CutP
open Go.RowKit Go.CutLaws
set_option linter.unusedVariables false

/-- the reference's answer is the program's -/
theorem rdue_eq (rs : List Rc) (now : Int) (ru : Ru) :
    (if (decide (fitsR rs ru < rs.length) || (fitsR rs ru : Int) == ru.parts) || (rs.take (fitsR rs ru)).any (isOld2 now ru) then fitsR rs ru else 0 : Nat) = dueR rs now ru := by
  have hle := fitsR_le rs ru
  have e : isOldR now ru = isOld2 now ru := by
    funext x
    unfold isOldR isOld2
    by_cases hk : x.kind = 2
    · rw [if_pos hk, oldB_min]; simp [hk]
    · rw [if_neg hk]; simp [hk]
  unfold dueR
  rw [e]
  generalize fitsR rs ru = n at *
  by_cases h0 : n = 0
  · subst h0
    simp
  by_cases h1 : n < rs.length
  · rw [if_pos (by simp [h1]), if_pos (.inr (.inl h1))]
  by_cases h2 : (n : Int) = ru.parts
  · rw [if_pos (by simp [h2]), if_pos (.inr (.inr h2))]
  · have hn : n = rs.length := by omega
    rw [if_neg (show ¬ (n = 0 ∨ n < rs.length ∨ (n : Int) = ru.parts) by omega)]
    rw [show (decide (n < rs.length) || (n : Int) == ru.parts) = false by simp; exact ⟨by omega, h2⟩, Bool.false_or, List.take_of_length_le (by omega)]

theorem fits_is (rs : List Rc) (A : Option Addr) (cap : Nat) (r : Ru) (w : World) (n : Int) (hl : LR w w.heap.size A rs) (hm : rs.length ≤ maxLen) (hn : (fitsR rs r : Int) = n) :
    Calls Try.prog 11 #[.slice A rs.length cap, r.val] w fun e w' => e = .returned (.int .i64 n) ∧ Below w.heap.size w w' := by
  subst hn
  exact fits_any rs A cap r w hl hm
theorem rfits_is (rs : List Rc) (A : Option Addr) (cap : Nat) (r : Ru) (w : World) (n : Int) (hl : LR w w.heap.size A rs) (hm : rs.length ≤ maxLen) (hn : (fitsR rs r : Int) = n) :
    Calls Try.prog 12 #[.slice A rs.length cap, r.val] w fun e w' => e = .returned (.int .i64 n) ∧ Below w.heap.size w w' := by
  subst hn
  exact rfits_any rs A cap r w hl hm
theorem rdue_is (rs : List Rc) (A : Option Addr) (cap : Nat) (now : Int) (ru : Ru) (w : World) (n : Int) (hl : LR w w.heap.size A rs) (hm : rs.length ≤ maxLen)
    (hn0 : -9223372036854775808 ≤ now) (hn1 : now ≤ 9223372036854775807) (hn : (dueR rs now ru : Int) = n) :
    Calls Try.prog 14 #[.slice A rs.length cap, .int .i64 now, ru.val] w fun e w' => e = .returned (.int .i64 n) ∧ Below w.heap.size w w' := by
  subst hn
  rw [← rdue_eq]
  exact rdue_any rs A cap now ru w hl hm hn0 hn1

/-- the rules' box, in every world that has grown -/
theorem box4 {w : World} {p b a l : Int} (x : Ext (w.alloc (.cells #[.int .i64 p, .int .i64 b, .int .i64 a, .int .i64 l] 24))) :
    x.val.cell? ⟨w.heap.size, 0, none⟩ = some (.int .i64 p) ∧ x.val.cell? ⟨w.heap.size, 1, none⟩ = some (.int .i64 b) ∧ x.val.cell? ⟨w.heap.size, 2, none⟩ = some (.int .i64 a) ∧ x.val.cell? ⟨w.heap.size, 3, none⟩ = some (.int .i64 l) := by
  have h := heap_alloc_new w (.cells #[.int .i64 p, .int .i64 b, .int .i64 a, .int .i64 l] 24)
  refine ⟨x.cell ?_, x.cell ?_, x.cell ?_, x.cell ?_⟩
  · rw [cell_of_row _ _ 0 _ _ _ h]; rfl
  · rw [cell_of_row _ _ 1 _ _ _ h]; rfl
  · rw [cell_of_row _ _ 2 _ _ _ h]; rfl
  · rw [cell_of_row _ _ 3 _ _ _ h]; rfl

theorem LR.ext {w : World} {o : Obj} {A : Option Addr} {rs : List Rc} (hl : LR w w.heap.size A rs) (x : Ext (w.alloc o)) : LR x.val x.val.heap.size A rs := by
  have h1 : LR (w.alloc o) (w.alloc o).heap.size A rs := (hl.keep (fun q hq => World.cell?_alloc_lt w _ q hq)).more (by simp)
  exact (h1.below x.ok).more x.ok.size

set_option maxHeartbeats 8000000 in
theorem law_fits (rs : List Rc) (A : Option Addr) (cap : Nat) (ru : Ru) (w : World) (hl : LR w w.heap.size A rs) (hm : rs.length ≤ maxLen) :
    Calls Try.prog 3 #[.slice A rs.length cap, ru.val] w fun e w' => e = .returned (.bool true) ∧ Below w.heap.size w w' := by
  obtain ⟨n, hn⟩ : ∃ n : Int, (fitsR rs ru : Int) = n := ⟨_, rfl⟩
  obtain ⟨c, hc⟩ : ∃ c : Int, ru.chk = c := ⟨_, rfl⟩
  have Hn := Kp.mk hn
  have Hc := Kp.mk hc
  clear hn hc
  obtain ⟨p, b, a, l⟩ := ru
  unfold Ru.val
  dsimp only
  have hc1 : ∀ W, Calls Try.prog 9 #[.agg #[.int .i64 p, .int .i64 b, .int .i64 a, .int .i64 l]] W fun e w' => e = .returned (.int .i64 c) ∧ Below W.heap.size W w' := fun W => by
    have := check_any ⟨p, b, a, l⟩ W
    rw [Hc.out] at this
    exact this
  have hc2 : ∀ W, Calls Try.prog 10 #[.agg #[.int .i64 p, .int .i64 b, .int .i64 a, .int .i64 l]] W fun e w' => e = .returned (.int .i64 c) ∧ Below W.heap.size W w' := fun W => by
    have := rcheck_any ⟨p, b, a, l⟩ W
    rw [Hc.out] at this
    exact this
  have Hc1 := Kp.mk hc1
  have Hc2 := Kp.mk hc2
  have Hl := Kp.mk hl
  have hx0 := fun x : Ext (w.alloc (.cells #[.int .i64 p, .int .i64 b, .int .i64 a, .int .i64 l] 24)) => (box4 x).1
  have hx1 := fun x : Ext (w.alloc (.cells #[.int .i64 p, .int .i64 b, .int .i64 a, .int .i64 l] 24)) => (box4 x).2.1
  have hx2 := fun x : Ext (w.alloc (.cells #[.int .i64 p, .int .i64 b, .int .i64 a, .int .i64 l] 24)) => (box4 x).2.2.1
  have hx3 := fun x : Ext (w.alloc (.cells #[.int .i64 p, .int .i64 b, .int .i64 a, .int .i64 l] 24)) => (box4 x).2.2.2
  clear hc1 hc2 hl
  go_enter Try.func3, Try.ntmps3
  go_wp2_with fail
  refine wp_region_ext (by kernel_rfl) (by kernel_rfl) ?_
  repeat (go_big_quiet_step ((first
    | (go_at_call 8; exact Ext.calls (awake_any _))
    | (go_at_call 9; exact Ext.calls (Hc1.out _))
    | (go_at_call 10; exact Ext.calls (Hc2.out _))
    | (go_at_call 11; exact Ext.calls (fits_is rs A cap ⟨p, b, a, l⟩ _ n (Hl.out.ext _) hm Hn.out))
    | (go_at_call 12; exact Ext.calls (rfits_is rs A cap ⟨p, b, a, l⟩ _ n (Hl.out.ext _) hm Hn.out)))))
  refine wpQuiet_nil ?_
  intro x
  go_wp2
  go_ret
  exact ⟨rfl, ((Below.refl _ _).alloc (Nat.le_refl _) _).trans (x.ok.mono (by simp))⟩

set_option maxHeartbeats 8000000 in
theorem law_dues (rs : List Rc) (A : Option Addr) (cap : Nat) (now : Int) (ru : Ru) (w : World) (hl : LR w w.heap.size A rs) (hm : rs.length ≤ maxLen)
    (hn0 : -9223372036854775808 ≤ now) (hn1 : now ≤ 9223372036854775807) :
    Calls Try.prog 4 #[.slice A rs.length cap, .int .i64 now, ru.val] w fun e w' => e = .returned (.bool true) ∧ Below w.heap.size w w' := by
  obtain ⟨n, hn⟩ : ∃ n : Int, (dueR rs now ru : Int) = n := ⟨_, rfl⟩
  have Hn := Kp.mk hn
  clear hn
  obtain ⟨p, b, a, l⟩ := ru
  unfold Ru.val
  dsimp only
  have Hl := Kp.mk hl
  have hx0 := fun x : Ext (w.alloc (.cells #[.int .i64 p, .int .i64 b, .int .i64 a, .int .i64 l] 24)) => (box4 x).1
  have hx1 := fun x : Ext (w.alloc (.cells #[.int .i64 p, .int .i64 b, .int .i64 a, .int .i64 l] 24)) => (box4 x).2.1
  have hx2 := fun x : Ext (w.alloc (.cells #[.int .i64 p, .int .i64 b, .int .i64 a, .int .i64 l] 24)) => (box4 x).2.2.1
  have hx3 := fun x : Ext (w.alloc (.cells #[.int .i64 p, .int .i64 b, .int .i64 a, .int .i64 l] 24)) => (box4 x).2.2.2
  clear hl
  go_enter Try.func4, Try.ntmps4
  go_wp2_with fail
  refine wp_region_ext (by kernel_rfl) (by kernel_rfl) ?_
  repeat (go_big_quiet_step ((first
    | (go_at_call 8; exact Ext.calls (awake_any _))
    | (go_at_call 13; exact Ext.calls (due_is rs A cap now ⟨p, b, a, l⟩ _ n (Hl.out.ext _) hm hn0 hn1 Hn.out))
    | (go_at_call 14; exact Ext.calls (rdue_is rs A cap now ⟨p, b, a, l⟩ _ n (Hl.out.ext _) hm hn0 hn1 Hn.out)))))
  refine wpQuiet_nil ?_
  intro x
  go_wp2
  go_ret
  exact ⟨rfl, ((Below.refl _ _).alloc (Nat.le_refl _) _).trans (x.ok.mono (by simp))⟩

end Go.Proofs.Ytenfijjlggiklaa.CutP
