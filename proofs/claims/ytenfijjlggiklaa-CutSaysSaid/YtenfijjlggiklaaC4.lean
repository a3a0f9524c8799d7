/-
  Contract of the reference's Due.
-/
import Derived.Test.YtenfijjlggiklaaC2
import Derived.Deep.DeepCutAuto
import Derived.Deep.RegionWith
namespace Go.Proofs.Ytenfijjlggiklaa.CutP
open Go.RowKit Go.CutLaws
set_option linter.unusedVariables false

theorem quiet_left {P : Program} {f : FuncId} {args : Array Value} {w : World} {n : Nat} {v : Value}
    (h : Calls P f args (w.drewN n) fun e w' => e = .returned v ∧ w.drewN n = w') : Calls P f args (w.drewN n) fun e w'' => e = .returned v ∧ ∃ m, w'' = w.drewN m :=
  h.mono fun _ _ ⟨he, hm⟩ => ⟨he, n, hm.symm⟩

theorem oldB_min (t n a l : Int) : oldB t n (min a l) = (oldB t n a || oldB t n l) := by
  unfold oldB
  rw [Bool.eq_iff_iff]
  simp
  omega

theorem old_is (v : Bool) (t n wt : Int) (w : World) (h0 : 0 ≤ wt) (h1 : wt ≤ 1099511627776) (hn : -9223372036854775808 ≤ n) (hn' : n ≤ 9223372036854775807) (hv : oldB t n wt = v) :
    Calls Try.prog 19 #[.int .i64 t, .int .i64 n, .int .i64 wt] w fun e w' => e = .returned (.bool v) ∧ w = w' := by
  subst hv
  exact old_any t n wt w h0 h1 hn hn'

/-- as the reference asks it -/
def isOld2 (now : Int) (ru : Ru) (x : Rc) : Bool := oldB x.time now ru.age || (x.kind == 2 && oldB x.time now ru.lag)

set_option maxHeartbeats 8000000 in
theorem rdue_any (rs : List Rc) (A : Option Addr) (cap : Nat) (now : Int) (ru : Ru) (w : World) (hl : LR w w.heap.size A rs) (hm : rs.length ≤ maxLen)
    (hn0 : -9223372036854775808 ≤ now) (hn1 : now ≤ 9223372036854775807) :
    Calls Try.prog 14 #[.slice A rs.length cap, .int .i64 now, ru.val] w fun e w' => e = .returned (.int .i64 (if (decide (fitsR rs ru < rs.length) || (fitsR rs ru : Int) == ru.parts) || (rs.take (fitsR rs ru)).any (isOld2 now ru) then fitsR rs ru else 0 : Nat)) ∧ Below w.heap.size w w' := by
  have hm' := hm
  unfold maxLen at hm'
  have hfl : fitsR rs ru ≤ rs.length := fitsR_le rs ru
  obtain ⟨n, hn⟩ : ∃ n, fitsR rs ru = n := ⟨_, rfl⟩
  obtain ⟨d, hd⟩ : ∃ d, (if (decide (fitsR rs ru < rs.length) || (fitsR rs ru : Int) == ru.parts) || (rs.take (fitsR rs ru)).any (isOld2 now ru) then fitsR rs ru else 0 : Nat) = d := ⟨_, rfl⟩
  rw [hd]
  rw [hn] at hd
  have Hd := Kp.mk hd
  clear hd
  have Hok : Kp (n ≠ 0 → ru.ok) := ⟨fun h => by
    by_cases hk : ru.ok
    · exact hk
    · rw [fitsR, if_neg hk] at hn; omega⟩
  rw [hn] at hfl
  have Hn := Kp.mk hn
  clear hn
  obtain ⟨p, b, a, l⟩ := ru
  unfold Ru.val
  dsimp only at Hd ⊢
  go_enter Try.func14, Try.ntmps14
  go_wp2_with fail
  refine (rfits_any rs A cap ⟨p, b, a, l⟩ _ ((hl.keep (fun q hq => World.cell?_alloc_lt w _ q hq)).more (by simp)) hm).mono ?_
  rintro e w1 ⟨rfl, hb1⟩
  rw [Hn.out]
  have hz1 : w.heap.size < w1.heap.size := by have := hb1.size; simp at this; omega
  have hbox : w1.heap[w.heap.size]? = some (.cells #[.int .i64 p, .int .i64 b, .int .i64 a, .int .i64 l] 24 (0, 0)) := (hb1.block _ (by simp)).trans (heap_alloc_new _ _)
  have c0 : w1.cell? ⟨w.heap.size, 0, none⟩ = some (.int .i64 p) := by rw [cell_of_row w1 _ 0 _ _ _ hbox]; rfl
  have HB : Kp (Below w.heap.size w w1) := ⟨((Below.refl _ w).alloc (Nat.le_refl _) _).trans (hb1.mono (by simp))⟩
  have Hbox := Kp.mk hbox
  have hl1 : LR w1 w.heap.size A rs := hl.below HB.out
  clear hb1 hbox hl
  obtain ⟨D0, hD0⟩ : ∃ D0 : Bool, (decide (n < rs.length) || (n : Int) == p) = D0 := ⟨_, rfl⟩
  have HD0 : Kp ((decide (n < rs.length) || (n : Int) == p) = D0) := ⟨hD0⟩
  have HL : Kp (∀ (V : Bool), V = (D0 || (rs.take n).any (isOld2 now ⟨p, b, a, l⟩)) → d = if V then n else 0) := ⟨fun V hV => by rw [hV, ← Hd.out, HD0.out]⟩
  clear Hd hD0
  go_upto_region 2 with fail
  go_cut [8] (fun s8 wx => s8 = .bool D0 ∧ wx = w1)
  case first =>
    by_cases h1 : n < rs.length
    · have h1' : decide (n < rs.length) = true := by simpa using h1
      have hD : D0 = true := by rw [← HD0.out, h1']; rfl
      subst hD
      go_wp2_with fail
      go_meet
      exact ⟨rfl, rfl⟩
    · have h1' : decide (n < rs.length) = false := by simpa using h1
      by_cases h2 : (n : Int) = p
      · have h2' : ((n : Int) == p) = true := by simpa using h2
        have hD : D0 = true := by rw [← HD0.out, h1', h2']; rfl
        subst hD
        clear h2
        go_wp2_with fail
        go_meet
        exact ⟨rfl, rfl⟩
      · have h2' : ((n : Int) == p) = false := by simpa using h2
        have hD : D0 = false := by rw [← HD0.out, h1', h2']; rfl
        subst hD
        go_wp2_with fail
        go_meet
        exact ⟨rfl, rfl⟩
  case rest =>
    obtain ⟨rfl, rfl⟩ := hcut
    clear c0
    go_wp2_with fail
    go_loopw [8, 9] (fun v n' wr => ∃ (k : Nat) (V : Bool), n' = .int .i64 k ∧ v = .bool V ∧ k ≤ n ∧ Below wc.heap.size wc wr ∧ Kp (V = (D0 || (rs.take k).any (isOld2 now ⟨p, b, a, l⟩)))) (fun _ n' wr => n - (intOf n').toNat)
    case atStart => exact ⟨0, D0, rfl, rfl, Nat.zero_le _, Below.refl _ _, ⟨by simp⟩⟩
    case round =>
      obtain ⟨k, V, rfl, rfl, hk, hbw, HF⟩ := hrel
      by_cases hlt : k < n
      · have hboxr : wr.heap[w.heap.size]? = some (.cells #[.int .i64 p, .int .i64 b, .int .i64 a, .int .i64 l] 24 (0, 0)) := (hbw.block _ hz1).trans Hbox.out
        have ca : wr.cell? ⟨w.heap.size, 2, none⟩ = some (.int .i64 a) := by rw [cell_of_row wr _ 2 _ _ _ hboxr]; rfl
        have cl : wr.cell? ⟨w.heap.size, 3, none⟩ = some (.int .i64 l) := by rw [cell_of_row wr _ 3 _ _ _ hboxr]; rfl
        have hlr : LR wr w.heap.size A rs := hl1.below (hbw.mono (by omega))
        clear hboxr
        obtain ⟨r, hr⟩ : ∃ r, rs[k]? = some r := ⟨_, List.getElem?_eq_getElem (by omega)⟩
        obtain ⟨o1, o2, o3, o4, o5, o6, o7, o8⟩ := Hok.out (by omega)
        dsimp only at o1 o2 o3 o4 o5 o6 o7 o8
        obtain ⟨bk, of, rfl, hadb, _, ck, ct, _, _, _⟩ := hlr.get hr
        have HF2 : Kp ((rs.take (k + 1)).any (isOld2 now ⟨p, b, a, l⟩) = ((rs.take k).any (isOld2 now ⟨p, b, a, l⟩) || isOld2 now ⟨p, b, a, l⟩ r)) := ⟨by
          rw [List.take_add_one, hr]; simp [List.any_append]⟩
        have hlt' : decide (k < n) = true := by simpa using hlt
        have hkL : (0 : Int) ≤ k := by omega
        have hkN : (k : Int) < rs.length := by omega
        clear hr
        by_cases hA : oldB r.time now a = true
        · have HA := Kp.mk hA
          have HI : Kp (isOld2 now ⟨p, b, a, l⟩ r = true) := ⟨by unfold isOld2; rw [hA]; rfl⟩
          clear hA
          go_wp2_with fail
          go_quiet ((go_at_call 19; exact quiet_left (old_is true _ _ _ _ (by omega) (by omega) hn0 hn1 HA.out)))
          go_wp2
          go_roundw
          case measure => simp [intOf]; omega
          case rel => exact ⟨k + 1, true, by go_num, rfl, by omega, below_drewN hbw _, ⟨by rw [HF2.out, HI.out]; simp⟩⟩
        · have hA' : oldB r.time now a = false := by simpa using hA
          have HA := Kp.mk hA'
          clear hA
          by_cases hK : r.kind = 2
          · have hK' : (r.kind == 2) = true := by simpa using hK
            clear hK
            by_cases hB : oldB r.time now l = true
            · have HB2 := Kp.mk hB
              have HI : Kp (isOld2 now ⟨p, b, a, l⟩ r = true) := ⟨by unfold isOld2; rw [hA', hK', hB]; rfl⟩
              clear hA' hB
              go_wp2_with fail
              go_quiet ((first | (go_at_call_of 19 (Value.int IntKind.i64 a); exact quiet_left (old_is false _ _ _ _ (by omega) (by omega) hn0 hn1 HA.out)) | (go_at_call_of 19 (Value.int IntKind.i64 l); exact quiet_left (old_is true _ _ _ _ (by omega) (by omega) hn0 hn1 HB2.out))))
              go_wp2
              go_roundw
              case measure => simp [intOf]; omega
              case rel => exact ⟨k + 1, true, by go_num, rfl, by omega, below_drewN hbw _, ⟨by rw [HF2.out, HI.out]; simp⟩⟩
            · have hB' : oldB r.time now l = false := by simpa using hB
              have HB2 := Kp.mk hB'
              have HI : Kp (isOld2 now ⟨p, b, a, l⟩ r = false) := ⟨by unfold isOld2; rw [hA', hK', hB']; rfl⟩
              clear hA' hB' hB
              go_wp2_with fail
              go_quiet ((first | (go_at_call_of 19 (Value.int IntKind.i64 a); exact quiet_left (old_is false _ _ _ _ (by omega) (by omega) hn0 hn1 HA.out)) | (go_at_call_of 19 (Value.int IntKind.i64 l); exact quiet_left (old_is false _ _ _ _ (by omega) (by omega) hn0 hn1 HB2.out))))
              go_wp2
              go_roundw
              case measure => simp [intOf]; omega
              case rel => exact ⟨k + 1, V, by go_num, rfl, by omega, below_drewN hbw _, ⟨by rw [HF2.out, HI.out]; rw [HF.out]; simp⟩⟩
          · have hK' : (r.kind == 2) = false := by simpa using hK
            have HI : Kp (isOld2 now ⟨p, b, a, l⟩ r = false) := ⟨by unfold isOld2; rw [hA', hK']; rfl⟩
            clear hA'
            go_wp2_with fail
            go_quiet ((go_at_call 19; exact quiet_left (old_is false _ _ _ _ (by omega) (by omega) hn0 hn1 HA.out)))
            go_wp2
            go_roundw
            case measure => simp [intOf]; omega
            case rel => exact ⟨k + 1, V, by go_num, rfl, by omega, below_drewN hbw _, ⟨by rw [HF2.out, HI.out]; rw [HF.out]; simp⟩⟩
      · have hkn : k = n := by omega
        have H0 : Kp (d = if V then n else 0) := ⟨HL.out V (by rw [HF.out, hkn])⟩
        have hlt' : decide (k < n) = false := by simpa using hlt
        cases V with
        | true =>
          go_wp2
          go_ret
          exact ⟨by rw [H0.out]; rfl, HB.out.trans (hbw.mono (by omega))⟩
        | false =>
          go_wp2
          go_ret
          exact ⟨by rw [H0.out]; rfl, HB.out.trans (hbw.mono (by omega))⟩

end Go.Proofs.Ytenfijjlggiklaa.CutP
