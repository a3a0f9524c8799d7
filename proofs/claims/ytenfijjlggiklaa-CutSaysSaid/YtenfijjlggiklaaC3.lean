/-
  Contracts of Due, the program's and the reference's.
-/
import Derived.Test.YtenfijjlggiklaaC2
namespace Go.Proofs.Ytenfijjlggiklaa.CutP
open Go.RowKit Go.CutLaws
set_option linter.unusedVariables false

def isOldR (now : Int) (ru : Ru) (x : Rc) : Bool := oldB x.time now (if x.kind = 2 then min ru.age ru.lag else ru.age)
def dueR (rs : List Rc) (now : Int) (ru : Ru) : Nat :=
  if fitsR rs ru = 0 ∨ fitsR rs ru < rs.length ∨ (fitsR rs ru : Int) = ru.parts then fitsR rs ru else if rs.any (isOldR now ru) then fitsR rs ru else 0

theorem isOldR_true {now : Int} {ru : Ru} {x : Rc} (wt : Int) (hw : (if x.kind = 2 then min ru.age ru.lag else ru.age) = wt) (h1 : -9223372036854775808 + wt ≤ now) (h2 : x.time ≤ now - wt) : isOldR now ru x = true := by
  unfold isOldR oldB
  rw [hw]
  simp [h1, h2]
theorem isOldR_false {now : Int} {ru : Ru} {x : Rc} (wt : Int) (hw : (if x.kind = 2 then min ru.age ru.lag else ru.age) = wt) (h : -9223372036854775808 + wt ≤ now → now - wt < x.time) : isOldR now ru x = false := by
  unfold isOldR oldB
  rw [hw]
  by_cases h1 : -9223372036854775808 + wt ≤ now
  · have := h h1
    simp; omega
  · simp; omega

theorem info44n : (Try.prog.info? 44).map (fun i => (i.zero.map (·.cells.size), i.size)) = some (some 68, 68) := by kernel_rfl
theorem info44s : (Try.prog.info? 44).map (·.size) = some 68 := by kernel_rfl

set_option maxHeartbeats 8000000 in
theorem due_any (rs : List Rc) (A : Option Addr) (cap : Nat) (now : Int) (ru : Ru) (w : World) (hl : LR w w.heap.size A rs) (hm : rs.length ≤ maxLen)
    (hn0 : -9223372036854775808 ≤ now) (hn1 : now ≤ 9223372036854775807) :
    Calls Try.prog 13 #[.slice A rs.length cap, .int .i64 now, ru.val] w fun e w' => e = .returned (.int .i64 (dueR rs now ru)) ∧ Below w.heap.size w w' := by
  have hm' := hm
  unfold maxLen at hm'
  have hfl := fitsR_le rs ru
  obtain ⟨n, hn⟩ : ∃ n, fitsR rs ru = n := ⟨_, rfl⟩
  obtain ⟨d, hd⟩ : ∃ d, dueR rs now ru = d := ⟨_, rfl⟩
  have Hd : Kp (d = if n = 0 ∨ n < rs.length ∨ (n : Int) = ru.parts then n else if rs.any (isOldR now ru) then n else 0) := ⟨by rw [← hd, dueR, hn]⟩
  rw [hd]
  clear hd
  have Hok : Kp (n ≠ 0 → ru.ok) := ⟨fun h => by
    by_cases hk : ru.ok
    · exact hk
    · rw [fitsR, if_neg hk] at hn; omega⟩
  rw [hn] at hfl
  have Hn := Kp.mk hn
  clear hn
  obtain ⟨p, b, a, l⟩ := ru
  unfold Ru.val
  dsimp only at Hd ⊢
  go_enter Try.func13, Try.ntmps13
  go_wp2_with fail
  refine (fits_any rs A cap ⟨p, b, a, l⟩ _ ((hl.keep (fun q hq => World.cell?_alloc_lt w _ q hq)).more (by simp)) hm).mono ?_
  rintro e w1 ⟨rfl, hb1⟩
  rw [Hn.out]
  have hz1 : w.heap.size < w1.heap.size := by have := hb1.size; simp at this; omega
  have hbox : w1.heap[w.heap.size]? = some (.cells #[.int .i64 p, .int .i64 b, .int .i64 a, .int .i64 l] 24 (0, 0)) := (hb1.block _ (by simp)).trans (heap_alloc_new _ _)
  have c0 : w1.cell? ⟨w.heap.size, 0, none⟩ = some (.int .i64 p) := by rw [cell_of_row w1 _ 0 _ _ _ hbox]; rfl
  have HB : Kp (Below w.heap.size w w1) := ⟨((Below.refl _ w).alloc (Nat.le_refl _) _).trans (hb1.mono (by simp))⟩
  have Hbox := Kp.mk hbox
  have hl1 : LR w1 w.heap.size A rs := hl.below HB.out
  clear hb1 hbox hl
  by_cases h0 : n = 0
  · have h0' : ((n : Int) == 0) = true := by simp [h0]
    have H0 : Kp (n = d) := ⟨by rw [Hd.out, if_pos (.inl h0)]⟩
    clear h0
    go_wp2_with fail
    go_ret
    exact ⟨by rw [← H0.out]; rfl, HB.out⟩
  have h0' : ((n : Int) == 0) = false := by simpa using h0
  by_cases h1 : n < rs.length
  · have h1' : decide (n < rs.length) = true := by simpa using h1
    have H0 : Kp (n = d) := ⟨by rw [Hd.out, if_pos (.inr (.inl h1))]⟩
    go_wp2_with fail
    go_ret
    exact ⟨by rw [← H0.out]; rfl, HB.out⟩
  have h1' : decide (n < rs.length) = false := by simpa using h1
  by_cases h2 : (n : Int) = p
  · have h2' : ((n : Int) == p) = true := by simpa using h2
    have H0 : Kp (n = d) := ⟨by rw [Hd.out, if_pos (.inr (.inr h2))]⟩
    clear h2
    go_wp2_with fail
    go_ret
    exact ⟨by rw [← H0.out]; rfl, HB.out⟩
  have h2' : ((n : Int) == p) = false := by simpa using h2
  have Hd2 : Kp (d = if (rs.drop 0).any (isOldR now ⟨p, b, a, l⟩) then n else 0) := ⟨by rw [Hd.out, if_neg (by omega)]; rfl⟩
  have hok := Hok.out h0
  obtain ⟨o1, o2, o3, o4, o5, o6, o7, o8⟩ := hok
  dsimp only at o1 o2 o3 o4 o5 o6 o7 o8
  clear Hd
  go_wp2_with fail
  go_loopw [31] (fun n wr => ∃ (k : Nat), n = .int .i64 k ∧ k ≤ rs.length ∧ Below w1.heap.size w1 wr ∧ Kp ((rs.drop 0).any (isOldR now ⟨p, b, a, l⟩) = (rs.drop k).any (isOldR now ⟨p, b, a, l⟩))) (fun n wr => rs.length - (intOf n).toNat)
  case atStart => exact ⟨0, rfl, Nat.zero_le _, Below.refl _ _, ⟨rfl⟩⟩
  case round =>
    clear c0
    obtain ⟨k, rfl, hk, hbw, HF⟩ := hrel
    by_cases hlt : k < rs.length
    · have hboxr : wr.heap[w.heap.size]? = some (.cells #[.int .i64 p, .int .i64 b, .int .i64 a, .int .i64 l] 24 (0, 0)) := (hbw.block _ hz1).trans Hbox.out
      have ca : wr.cell? ⟨w.heap.size, 2, none⟩ = some (.int .i64 a) := by rw [cell_of_row wr _ 2 _ _ _ hboxr]; rfl
      have cl : wr.cell? ⟨w.heap.size, 3, none⟩ = some (.int .i64 l) := by rw [cell_of_row wr _ 3 _ _ _ hboxr]; rfl
      have hlr : LR wr w.heap.size A rs := hl1.below (hbw.mono (by omega))
      clear hboxr
      obtain ⟨r, hr⟩ : ∃ r, rs[k]? = some r := ⟨_, List.getElem?_eq_getElem hlt⟩
      have hmem := List.mem_of_getElem? hr
      have hones := hlr.ones hmem
      have hsize := hlr.size hmem
      obtain ⟨bk, of, rfl, hadb, _, _, _, _, hbody, hrange⟩ := hlr.get hr
      have hdrop : rs.drop k = r :: rs.drop (k + 1) := by
        rw [List.drop_eq_getElem_cons hlt]
        have : rs[k] = r := by rw [List.getElem?_eq_getElem hlt] at hr; exact Option.some.inj hr
        rw [this]
      have HF2 : Kp ((rs.drop 0).any (isOldR now ⟨p, b, a, l⟩) = (isOldR now ⟨p, b, a, l⟩ r || (rs.drop (k + 1)).any (isOldR now ⟨p, b, a, l⟩))) := ⟨by rw [HF.out, hdrop, List.any_cons]⟩
      have Hones := Kp.mk hones
      have Hsize := Kp.mk hsize
      have Hrange := Kp.mk hrange
      have hlt' : decide (k < rs.length) = true := by simpa using hlt
      have hkL : (0 : Int) ≤ k := by omega
      have hkN : (k : Int) < rs.length := by omega
      have hzr : w.heap.size < wr.heap.size := by have := hbw.size; omega
      have hk1 : r.cells[1]? = some (.int .i64 r.kind) := rfl
      have hk2 : r.cells[2]? = some (.int .i64 r.time) := rfl
      clear hdrop hr hones hsize hrange HF
      have hcases : (r.kind = 2 ∧ a ≤ l) ∨ (r.kind = 2 ∧ l < a) ∨ ¬ r.kind = 2 := by omega
      rcases hcases with ⟨hk, hal⟩ | ⟨hk, hal⟩ | hk
      · have hk' : (r.kind == 2) = true := by simpa using hk
        have hw : (if r.kind = 2 then min a l else a) = a := by rw [if_pos hk]; omega
        have Hw := Kp.mk hw
        clear hk hw
        by_cases hq1 : -9223372036854775808 + a ≤ now
        · by_cases hq2 : r.time ≤ now - a
          · have HI : Kp (isOldR now ⟨p, b, a, l⟩ r = true) := ⟨isOldR_true a Hw.out hq1 hq2⟩
            have H0 : Kp (n = d) := ⟨by rw [Hd2.out, HF2.out, HI.out]; rfl⟩
            go_wp2_with (first
            | (refine wpList_load_mid rfl 44 (.tmp 33) rfl bk (of + k * 68) rfl r.cells _ Hrange.out Try.underlying44 rfl (by rw [info44s, Hsize.out]) ?_)
            | (refine wpList_new_row rfl rfl 44 (.tmp 9) (.tmp 34) rfl rfl 68 info44n r.cells.toArray rfl rfl (by rw [List.size_toArray, Hsize.out]) Hones.out ?_))
            go_ret
            exact ⟨by rw [← H0.out]; rfl, (HB.out.trans (hbw.mono (by omega))).alloc (by omega) _⟩
          · have HI : Kp (isOldR now ⟨p, b, a, l⟩ r = false) := ⟨isOldR_false a Hw.out (fun _ => by omega)⟩
            go_wp2_with (first
            | (refine wpList_load_mid rfl 44 (.tmp 33) rfl bk (of + k * 68) rfl r.cells _ Hrange.out Try.underlying44 rfl (by rw [info44s, Hsize.out]) ?_)
            | (refine wpList_new_row rfl rfl 44 (.tmp 9) (.tmp 34) rfl rfl 68 info44n r.cells.toArray rfl rfl (by rw [List.size_toArray, Hsize.out]) Hones.out ?_))
            go_roundw
            case measure => simp [intOf]; omega
            case rel => exact ⟨k + 1, by go_num, by omega, hbw.alloc (by have := hbw.size; omega) _, ⟨by rw [HF2.out, HI.out]; rfl⟩⟩
        · have HI : Kp (isOldR now ⟨p, b, a, l⟩ r = false) := ⟨isOldR_false a Hw.out (fun h => absurd h hq1)⟩
          go_wp2_with (first
          | (refine wpList_load_mid rfl 44 (.tmp 33) rfl bk (of + k * 68) rfl r.cells _ Hrange.out Try.underlying44 rfl (by rw [info44s, Hsize.out]) ?_)
          | (refine wpList_new_row rfl rfl 44 (.tmp 9) (.tmp 34) rfl rfl 68 info44n r.cells.toArray rfl rfl (by rw [List.size_toArray, Hsize.out]) Hones.out ?_))
          go_roundw
          case measure => simp [intOf]; omega
          case rel => exact ⟨k + 1, by go_num, by omega, hbw.alloc (by have := hbw.size; omega) _, ⟨by rw [HF2.out, HI.out]; rfl⟩⟩
      · have hk' : (r.kind == 2) = true := by simpa using hk
        have hw : (if r.kind = 2 then min a l else a) = l := by rw [if_pos hk]; omega
        have Hw := Kp.mk hw
        clear hk hw
        by_cases hq1 : -9223372036854775808 + l ≤ now
        · by_cases hq2 : r.time ≤ now - l
          · have HI : Kp (isOldR now ⟨p, b, a, l⟩ r = true) := ⟨isOldR_true l Hw.out hq1 hq2⟩
            have H0 : Kp (n = d) := ⟨by rw [Hd2.out, HF2.out, HI.out]; rfl⟩
            go_wp2_with (first
            | (refine wpList_load_mid rfl 44 (.tmp 33) rfl bk (of + k * 68) rfl r.cells _ Hrange.out Try.underlying44 rfl (by rw [info44s, Hsize.out]) ?_)
            | (refine wpList_new_row rfl rfl 44 (.tmp 9) (.tmp 34) rfl rfl 68 info44n r.cells.toArray rfl rfl (by rw [List.size_toArray, Hsize.out]) Hones.out ?_))
            go_ret
            exact ⟨by rw [← H0.out]; rfl, (HB.out.trans (hbw.mono (by omega))).alloc (by omega) _⟩
          · have HI : Kp (isOldR now ⟨p, b, a, l⟩ r = false) := ⟨isOldR_false l Hw.out (fun _ => by omega)⟩
            go_wp2_with (first
            | (refine wpList_load_mid rfl 44 (.tmp 33) rfl bk (of + k * 68) rfl r.cells _ Hrange.out Try.underlying44 rfl (by rw [info44s, Hsize.out]) ?_)
            | (refine wpList_new_row rfl rfl 44 (.tmp 9) (.tmp 34) rfl rfl 68 info44n r.cells.toArray rfl rfl (by rw [List.size_toArray, Hsize.out]) Hones.out ?_))
            go_roundw
            case measure => simp [intOf]; omega
            case rel => exact ⟨k + 1, by go_num, by omega, hbw.alloc (by have := hbw.size; omega) _, ⟨by rw [HF2.out, HI.out]; rfl⟩⟩
        · have HI : Kp (isOldR now ⟨p, b, a, l⟩ r = false) := ⟨isOldR_false l Hw.out (fun h => absurd h hq1)⟩
          go_wp2_with (first
          | (refine wpList_load_mid rfl 44 (.tmp 33) rfl bk (of + k * 68) rfl r.cells _ Hrange.out Try.underlying44 rfl (by rw [info44s, Hsize.out]) ?_)
          | (refine wpList_new_row rfl rfl 44 (.tmp 9) (.tmp 34) rfl rfl 68 info44n r.cells.toArray rfl rfl (by rw [List.size_toArray, Hsize.out]) Hones.out ?_))
          go_roundw
          case measure => simp [intOf]; omega
          case rel => exact ⟨k + 1, by go_num, by omega, hbw.alloc (by have := hbw.size; omega) _, ⟨by rw [HF2.out, HI.out]; rfl⟩⟩
      · have hk' : (r.kind == 2) = false := by simpa using hk
        have hw : (if r.kind = 2 then min a l else a) = a := by rw [if_neg hk]
        have Hw := Kp.mk hw
        clear hk hw
        by_cases hq1 : -9223372036854775808 + a ≤ now
        · by_cases hq2 : r.time ≤ now - a
          · have HI : Kp (isOldR now ⟨p, b, a, l⟩ r = true) := ⟨isOldR_true a Hw.out hq1 hq2⟩
            have H0 : Kp (n = d) := ⟨by rw [Hd2.out, HF2.out, HI.out]; rfl⟩
            go_wp2_with (first
            | (refine wpList_load_mid rfl 44 (.tmp 33) rfl bk (of + k * 68) rfl r.cells _ Hrange.out Try.underlying44 rfl (by rw [info44s, Hsize.out]) ?_)
            | (refine wpList_new_row rfl rfl 44 (.tmp 9) (.tmp 34) rfl rfl 68 info44n r.cells.toArray rfl rfl (by rw [List.size_toArray, Hsize.out]) Hones.out ?_))
            go_ret
            exact ⟨by rw [← H0.out]; rfl, (HB.out.trans (hbw.mono (by omega))).alloc (by omega) _⟩
          · have HI : Kp (isOldR now ⟨p, b, a, l⟩ r = false) := ⟨isOldR_false a Hw.out (fun _ => by omega)⟩
            go_wp2_with (first
            | (refine wpList_load_mid rfl 44 (.tmp 33) rfl bk (of + k * 68) rfl r.cells _ Hrange.out Try.underlying44 rfl (by rw [info44s, Hsize.out]) ?_)
            | (refine wpList_new_row rfl rfl 44 (.tmp 9) (.tmp 34) rfl rfl 68 info44n r.cells.toArray rfl rfl (by rw [List.size_toArray, Hsize.out]) Hones.out ?_))
            go_roundw
            case measure => simp [intOf]; omega
            case rel => exact ⟨k + 1, by go_num, by omega, hbw.alloc (by have := hbw.size; omega) _, ⟨by rw [HF2.out, HI.out]; rfl⟩⟩
        · have HI : Kp (isOldR now ⟨p, b, a, l⟩ r = false) := ⟨isOldR_false a Hw.out (fun h => absurd h hq1)⟩
          go_wp2_with (first
          | (refine wpList_load_mid rfl 44 (.tmp 33) rfl bk (of + k * 68) rfl r.cells _ Hrange.out Try.underlying44 rfl (by rw [info44s, Hsize.out]) ?_)
          | (refine wpList_new_row rfl rfl 44 (.tmp 9) (.tmp 34) rfl rfl 68 info44n r.cells.toArray rfl rfl (by rw [List.size_toArray, Hsize.out]) Hones.out ?_))
          go_roundw
          case measure => simp [intOf]; omega
          case rel => exact ⟨k + 1, by go_num, by omega, hbw.alloc (by have := hbw.size; omega) _, ⟨by rw [HF2.out, HI.out]; rfl⟩⟩
    · have hlt' : decide (k < rs.length) = false := by simpa using hlt
      have H0 : Kp (0 = d) := ⟨by rw [Hd2.out, HF.out, List.drop_of_length_le (by omega)]; rfl⟩
      go_wp2
      go_ret
      exact ⟨by rw [← H0.out]; rfl, HB.out.trans (hbw.mono (by omega))⟩

end Go.Proofs.Ytenfijjlggiklaa.CutP
