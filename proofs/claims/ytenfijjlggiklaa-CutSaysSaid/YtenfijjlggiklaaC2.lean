/-
  Contracts of the reference's functions of layer 21.
-/
import Derived.Test.YtenfijjlggiklaaC1
namespace Go.Proofs.Ytenfijjlggiklaa.CutP
open Go.RowKit
set_option linter.unusedVariables false

theorem fitN_le (p : Int) : ∀ (l : List Nat) (L : Int) (k : Nat), fitN p L k l ≤ k + l.length
  | [], L, k => by simp [fitN]
  | s :: l, L, k => by
    have := fitN_le p l (L - min L s) (k + 1)
    simp only [fitN, List.length_cons]
    split <;> omega
theorem fitsR_le (rs : List Rc) (ru : Ru) : fitsR rs ru ≤ rs.length := by
  unfold fitsR
  split
  · have := fitN_le ru.parts (rs.map (·.body.size)) ru.bytes 0
    simpa using this
  · omega

theorem below_drewN {B : Nat} {a w : World} (h : Below B a w) (n : Nat) : Below B a (w.drewN n) := ⟨h.os, h.tape, h.output, h.size, h.block⟩

set_option maxHeartbeats 1000000 in
theorem rfits_any (rs : List Rc) (A : Option Addr) (cap : Nat) (r : Ru) (w : World) (hl : LR w w.heap.size A rs) (hm : rs.length ≤ maxLen) :
    Calls Try.prog 12 #[.slice A rs.length cap, r.val] w fun e w' => e = .returned (.int .i64 (fitsR rs r)) ∧ Below w.heap.size w w' := by
  unfold maxLen at hm
  by_cases hok : r.ok
  · have hchk : r.chk = 0 := by unfold Ru.chk; rw [if_pos hok]
    have HO := Kp.mk hok
    obtain ⟨p, b, a, l⟩ := r
    obtain ⟨o1, o2, o3, o4, _⟩ := hok
    dsimp only at o1 o2 o3 o4
    unfold Ru.val
    dsimp only
    go_enter Try.func12, Try.ntmps12
    go_wp2_with fail
    refine (rcheck_any ⟨p, b, a, l⟩ _).mono ?_
    rintro e w1 ⟨rfl, hb1⟩
    rw [hchk]
    have hz1 : w.heap.size < w1.heap.size := by have := hb1.size; simp at this; omega
    have hbox : w1.heap[w.heap.size]? = some (.cells #[.int .i64 p, .int .i64 b, .int .i64 a, .int .i64 l] 24 (0, 0)) := (hb1.block _ (by simp)).trans (heap_alloc_new _ _)
    have HB : Kp (Below w.heap.size w w1) := ⟨((Below.refl _ w).alloc (Nat.le_refl _) _).trans (hb1.mono (by simp))⟩
    have Hbox := Kp.mk hbox
    have hl1 : LR w1 w.heap.size A rs := hl.below HB.out
    clear hb1 hbox hl
    go_wp2_with fail
    go_loopw [5, 6] (fun s n wr => ∃ (k : Nat) (L : Int), n = .int .i64 k ∧ s = .int .i64 L ∧ k ≤ rs.length ∧ 0 ≤ L ∧ L ≤ b ∧ 
        Below w1.heap.size w1 wr ∧ Kp (fitN p b 0 (rs.map (·.body.size)) = fitN p (b - L) k ((rs.drop k).map (·.body.size)))) (fun _ n wr => rs.length - (intOf n).toNat)
    case atStart => exact ⟨0, 0, rfl, rfl, Nat.zero_le _, by omega, by omega, Below.refl _ _, ⟨by simp⟩⟩
    case round =>
      obtain ⟨k, L, rfl, rfl, hk, hL0, hL1, hbw, HF⟩ := hrel
      have hboxr : wr.heap[w.heap.size]? = some (.cells #[.int .i64 p, .int .i64 b, .int .i64 a, .int .i64 l] 24 (0, 0)) := (hbw.block _ hz1).trans Hbox.out
      have cp : wr.cell? ⟨w.heap.size, 0, none⟩ = some (.int .i64 p) := by rw [cell_of_row wr _ 0 _ _ _ hboxr]; rfl
      have cb : wr.cell? ⟨w.heap.size, 1, none⟩ = some (.int .i64 b) := by rw [cell_of_row wr _ 1 _ _ _ hboxr]; rfl
      have hlr : LR wr w.heap.size A rs := hl1.below (hbw.mono (by omega))
      clear hboxr
      by_cases hlt : k < rs.length
      · obtain ⟨r, hr⟩ : ∃ r, rs[k]? = some r := ⟨_, List.getElem?_eq_getElem hlt⟩
        obtain ⟨bk, of, rfl, hadb, _, _, _, cbody, hbody, _⟩ := hlr.get hr
        have hdrop : (rs.drop k).map (·.body.size) = r.body.size :: (rs.drop (k + 1)).map (·.body.size) := by
          rw [List.drop_eq_getElem_cons hlt]
          have : rs[k] = r := by rw [List.getElem?_eq_getElem hlt] at hr; exact Option.some.inj hr
          simp [this]
        have HF2 : Kp (fitN p (b - L) k ((rs.drop k).map (·.body.size)) = if (k : Int) < p ∧ ((r.body.size : Int) ≤ b - L ∨ k = 0) then fitN p (b - L - min (b - L) r.body.size) (k + 1) ((rs.drop (k + 1)).map (·.body.size)) else k) := ⟨by rw [hdrop, fitN]⟩
        have Hr := Kp.mk hr
        clear hdrop hr
        have hlt' : decide (k < rs.length) = true := by simpa using hlt
        by_cases hp : (k : Int) < p
        · have hp' : decide ((k : Int) < p) = true := by simpa using hp
          have hkL : (0 : Int) ≤ k := by omega
          have hkN : (k : Int) < rs.length := by omega
          have hwr : IntKind.i64.wrap (b - L) = b - L := IntWalk.i64_in _ (by omega)
          by_cases hs : (r.body.size : Int) ≤ b - L
          · have hs' : decide (b - L < (r.body.size : Int)) = false := by simpa using hs
            go_wp2_with fail
            go_quiet (fail)
            clear hwr
            go_wp2
            have hwr : IntKind.i64.wrap (L + r.body.size) = L + r.body.size := IntWalk.i64_in _ (by omega)
            go_quiet (fail)
            clear hwr
            go_wp2
            all_goals go_roundw
            all_goals try case measure => simp [intOf]; omega
            all_goals refine ⟨k + 1, L + r.body.size, by go_num, ?_, by omega, by omega, by omega, by repeat (first | exact hbw | apply below_drewN), ⟨by rw [HF.out, HF2.out, if_pos ⟨hp, .inl hs⟩]; congr 1; omega⟩⟩
            all_goals (refine congrArg (Value.int IntKind.i64) ?_; omega)
          · have hs' : decide (b - L < (r.body.size : Int)) = true := by simp; omega
            by_cases hk0 : k = 0
            · have hk0' : decide (0 < k) = false := by simp; omega
              have Hk0 := Kp.mk hk0
              clear hk0
              go_wp2_with fail
              go_quiet (fail)
              clear hwr
              go_wp2
              have hwr : IntKind.i64.wrap (L + r.body.size) = L + r.body.size := IntWalk.i64_in _ (by omega)
              go_quiet (fail)
              clear hwr
              go_wp2
              all_goals go_roundw
              all_goals try case measure => simp [intOf]; omega
              all_goals refine ⟨k + 1, b, by go_num, ?_, by omega, by omega, by omega, by repeat (first | exact hbw | apply below_drewN), ⟨by rw [HF.out, HF2.out, if_pos ⟨hp, .inr Hk0.out⟩]; congr 1; omega⟩⟩
              all_goals (refine congrArg (Value.int IntKind.i64) ?_; omega)
            · have hk0' : decide (0 < k) = true := by simp; omega
              have HN : Kp (fitN p b 0 (rs.map (·.body.size)) = k) := ⟨by rw [HF.out, HF2.out, if_neg (fun h => h.2.elim hs hk0)]⟩
              go_wp2_with fail
              go_quiet (fail)
              clear hwr
              go_wp2
              go_ret
              exact ⟨by rw [fitsR, if_pos HO.out, HN.out]; rfl, HB.out.trans (by repeat (first | exact hbw.mono (by omega) | apply below_drewN))⟩
        · have hp' : decide ((k : Int) < p) = false := by simpa using hp
          have HN : Kp (fitN p b 0 (rs.map (·.body.size)) = k) := ⟨by rw [HF.out, HF2.out, if_neg (fun h => hp h.1)]⟩
          go_wp2
          go_ret
          exact ⟨by rw [fitsR, if_pos HO.out, HN.out]; rfl, HB.out.trans (hbw.mono (by omega))⟩
      · have hlt' : decide (k < rs.length) = false := by simpa using hlt
        have HN : Kp (fitN p b 0 (rs.map (·.body.size)) = k) := ⟨by rw [HF.out, List.drop_of_length_le (by omega)]; rfl⟩
        go_wp2
        go_ret
        exact ⟨by rw [fitsR, if_pos HO.out, HN.out]; rfl, HB.out.trans (hbw.mono (by omega))⟩
  · have hchk : r.chk = 2 := by unfold Ru.chk; rw [if_neg hok]
    have hz : fitsR rs r = 0 := by rw [fitsR, if_neg hok]
    rw [hz]
    obtain ⟨p, b, a, l⟩ := r
    unfold Ru.val
    dsimp only
    go_enter Try.func12, Try.ntmps12
    go_wp2_with fail
    refine (rcheck_any ⟨p, b, a, l⟩ _).mono ?_
    rintro e w1 ⟨rfl, hb1⟩
    rw [hchk]
    have HB : Kp (Below w.heap.size w w1) := ⟨((Below.refl _ w).alloc (Nat.le_refl _) _).trans (hb1.mono (by simp))⟩
    clear hb1
    go_wp2_with fail
    go_ret
    exact ⟨rfl, HB.out⟩

end Go.Proofs.Ytenfijjlggiklaa.CutP
