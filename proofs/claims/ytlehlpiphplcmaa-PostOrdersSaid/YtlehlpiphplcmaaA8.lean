/-
  PostOrders.
-/
import Derived.Test.YtlehlpiphplcmaaA7
import Derived.Test.YtlehlpiphplcmaaO
namespace Go.Proofs.Ytlehlpiphplcmaa.Pl
theorem told_in {P H L : Int} {h : Int → Option Int} : ∀ m : Nat, (∀ z ∈ told P H h L m, L ≤ z ∧ z < L + m) ∧ (told P H h L m).Pairwise (· < ·)
  | 0 => ⟨fun z hz => by simp [told] at hz, List.Pairwise.nil⟩
  | m + 1 => by
    obtain ⟨h1, h2⟩ := told_in (P := P) (H := H) (L := L) (h := h) m
    unfold told
    split
    · refine ⟨fun z hz => ?_, ?_⟩
      · rcases List.mem_append.1 hz with hz | hz
        · have := h1 z hz; omega
        · simp at hz; omega
      · rw [List.pairwise_append]
        refine ⟨h2, by simp, fun x hx y hy => ?_⟩
        simp at hy
        have := h1 x hx
        omega
    · exact ⟨fun z hz => by have := h1 z hz; omega, h2⟩
end Go.Proofs.Ytlehlpiphplcmaa.Pl
namespace Go.Proofs.Ytlehlpiphplcmaa.PostP
open Go.RowKit Go.PostLaws Go.Maps Go.Proofs.Ytlehlpiphplcmaa.Pl
set_option linter.unusedVariables false

/-- what a look tells, whatever is seen -/
theorem look_spec {w : World} {M B n : Nat} {P W : Int} {h : Int → Option Int} (hP : Po w M B n P W h) (hh : Hi h) (H L C : Int) (iH : InR H) (iL : InR L) (iC : InR C) (hW : 0 ≤ W) (hW2 : W ≤ 64) (hP1 : 0 ≤ P) (hP2 : P ≤ 1000000) (hn : n ≤ 536870912) :
    Calls Try.prog 9 #[.pointer (some ⟨B, 0, none⟩), .int .i64 H, .int .i64 L, .int .i64 C] w fun e w' => ∃ (A : Option Addr) (c : Nat) (zs : List Int) (h' : Int → Option Int), e = .returned (.slice A zs.length c) ∧ OwnI w' w.heap.size (.slice A zs.length c) zs ∧ Po w' M B (n + 64) P W h' ∧ Hi h' ∧ Fr w w' M ∧
      zs.length ≤ 64 ∧ (∀ z ∈ zs, L ≤ z ∧ z - L < W ∧ z < C ∧ 0 ≤ L) ∧ zs.Pairwise (· < ·) := by
  unfold InR at iH iL iC
  by_cases hb : H < 0 ∨ L < 0 ∨ C < 0
  · refine (look_bad H L C hb).mono ?_
    rintro e w' ⟨rfl, rfl⟩
    exact ⟨none, 0, [], h, rfl, nilI _ _, hP.mono (by omega), hh, Fr.refl _ _, Nat.zero_le _, fun z hz => (by cases hz), List.Pairwise.nil⟩
  · refine (look_any hP H L C (by omega) (by omega) (by omega) (by omega) (by omega) (by omega) hW hW2 hP1 hP2 hh hn).mono ?_
    rintro e w' ⟨A, c, rfl, ho, hP', hf⟩
    have ht := told_in (P := P) (H := H) (L := L) (h := cutd h L) (reach W L C)
    have hr : reach W L C ≤ 64 ∧ ((reach W L C : Nat) : Int) = max 0 (min W (C - L)) := by unfold reach; omega
    refine ⟨A, c, _, _, rfl, ho, hP', hh.aft (by omega) (by omega), hf, Nat.le_trans (told_len _ _ _ _ _) hr.1, fun z hz => ?_, ht.2⟩
    have := ht.1 z hz
    omega

theorem po_low {w : World} {M B n : Nat} {P W : Int} {h : Int → Option Int} (hP : Po w M B n P W h) : M < w.heap.size := hP.m.lt

set_option maxRecDepth 100000 in
set_option maxHeartbeats 16000000 in
theorem law_orders (a : Nat) (l : List (Int × Int × Int)) (A0 : Option Addr) (cap : Nat) (w : World) (ha : a < 256) (hl : LSn w A0 l) :
    Calls Try.prog 3 #[.int .u8 a, .slice A0 l.length cap] w fun e w' => e = .returned (.bool true) ∧ Below w.heap.size w w' := by
  obtain ⟨W, hW⟩ : ∃ W, a % 64 + 1 = W := ⟨_, rfl⟩
  have hW1 : 1 ≤ W := by omega
  have hW2 : W ≤ 64 := by omega
  have hWi : (a : Int) % 64 + 1 = (W : Int) := by omega
  have Hnew := Kp.mk (new_any w 2 W (by omega) (by omega) (by omega) (by omega))
  have Hl := Kp.mk hl
  clear hW hl
  go_enter Try.func3, Try.ntmps3
  go_wp2_with (first
    | (go_at_call 7; refine (Hnew.out).mono ?_; rintro e w1 ⟨rfl, hP, hbl, hz⟩; have HP1 := Kp.mk hP; have Hb1 := Kp.mk hbl; clear hP hbl)
    | (go_at_call 8; refine (awake_b _ HP1.out).mono ?_; rintro e w2 ⟨rfl, hbl, hP⟩; have HP2 := Kp.mk hP; have Hb2 := Kp.mk (Hb1.out.trans (hbl.mono (by omega))); have hs2 := hbl.size; clear hP hbl))
  clear hWi
  go_loopw [8] (fun v8 wr => ∃ (k n : Nat) (h : Int → Option Int), v8 = .int .i64 k ∧ k ≤ l.length ∧ k ≤ 60 ∧ n ≤ 64 * k ∧ Kp (Po wr w.heap.size (w.heap.size + 1) n 2 W h) ∧ Kp (Hi h) ∧ Kp (Below w.heap.size w wr) ∧ w.heap.size + 2 ≤ wr.heap.size) (fun v8 _ => 60 - (intOf v8).toNat)
  case atStart => exact ⟨0, 0, _, rfl, Nat.zero_le _, Nat.zero_le _, Nat.zero_le _, HP2, ⟨Hi.none⟩, Hb2, by omega⟩
  case round =>
    clear HP1 HP2 Hb1 Hb2
    obtain ⟨k, n, h, rfl, hkl, hk60, hn, HP, HHi, Hbl, hws⟩ := hrel
    by_cases hk : k < l.length ∧ k < 60
    · have d1 : decide (k < l.length) = true := by simp; omega
      have d2 : decide ((k : Int) < 60) = true := by simp; omega
      obtain ⟨b, o, rfl, hbw, hcells⟩ := Hl.out.lie (by omega)
      obtain ⟨s, hs⟩ : ∃ s, l[k]? = some s := ⟨_, List.getElem?_eq_getElem hk.1⟩
      obtain ⟨H, L, C⟩ := s
      have hin := Hl.out.inr _ (List.mem_of_getElem? hs)
      have Hc : Kp (∀ w', Below w.heap.size w w' → w'.cell? ⟨b, o + k * 3, none⟩ = some (.int .i64 H) ∧ w'.cell? ⟨b, o + k * 3 + 1, none⟩ = some (.int .i64 L) ∧ w'.cell? ⟨b, o + k * 3 + 2, none⟩ = some (.int .i64 C)) := ⟨fun w' hb => by
        refine ⟨?_, ?_, ?_⟩
        · exact (hb.cell (by exact hbw)).trans (hcells k _ hs 0 _ rfl)
        · exact (hb.cell (by exact hbw)).trans (hcells k _ hs 1 _ rfl)
        · exact (hb.cell (by exact hbw)).trans (hcells k _ hs 2 _ rfl)⟩
      have c0 := (Hc.out wr Hbl.out).1
      have c1 := (Hc.out wr Hbl.out).2.1
      have c2 := (Hc.out wr Hbl.out).2.2
      have Hin := Kp.mk hin
      clear hcells hs hin
      have i1 : (0 : Int) ≤ k := by omega
      have i2 : (k : Int) < l.length := by omega
      have wk : IntKind.i64.wrap ((k : Int) + 1) = (k : Int) + 1 := IntWalk.i64_in _ (by omega)
      have Hlook : Kp (∀ q, Calls Try.prog 9 #[.pointer (some ⟨w.heap.size + 1, 0, none⟩), .int .i64 H, .int .i64 L, .int .i64 C] (wr.drewN q) _) := ⟨fun q => look_spec (HP.out.below (belowN (Below.refl _ _) q)) HHi.out H L C Hin.out.1 Hin.out.2.1 Hin.out.2.2 (by omega) (by omega) (by omega) (by omega) (by omega)⟩
      go_wp2_with fail
      go_region_with ((go_at_call 9; refine (Hlook.out _).mono ?_; rintro e w3 ⟨A, c, zs, h', rfl, ho, hP, hh, hf, hz64, hzin, hzp⟩; have Ho := Kp.mk ho; have HP3 := Kp.mk hP; have Hf := Kp.mk hf; have HH3 := Kp.mk hh; have Hz := Kp.mk hzin; have Hzp := Kp.mk hzp; have hs3 := hf.size; clear ho hP hf hh hzin hzp))
      all_goals (
        have hb3 : Below w.heap.size w w3 := (belowN Hbl.out _).trans (Hf.out.below (Nat.le_refl _) (by simp; omega))
        have Hb3 := Kp.mk hb3
        have e1 := (Hc.out w3 hb3).2.1
        have e2 := (Hc.out w3 hb3).2.2
        clear hb3 c0 c1 c2
        go_wp2_with fail
        go_loopw [10] (fun v10 wr => ∃ j : Nat, v10 = .int .i64 j ∧ j ≤ zs.length ∧ Kp (∃ q, wr = w3.drewN q)) (fun v10 _ => zs.length - (intOf v10).toNat)
        case atStart => exact ⟨0, rfl, Nat.zero_le _, ⟨0, rfl⟩⟩
        case round =>
          obtain ⟨j, rfl, hj, Hq⟩ := hrel
          obtain ⟨q, rfl⟩ := Hq.out
          by_cases hjl : j < zs.length
          · have d3 : decide (j < zs.length) = true := by simpa using hjl
            obtain ⟨g, rfl⟩ := ownI_some Ho.out (by omega)
            have cz := ownI_cell Ho.out hjl
            have hzi := Hz.out _ (show zs.getD j 0 ∈ zs by rw [List.getD_eq_getElem?_getD, List.getElem?_eq_getElem hjl]; exact List.getElem_mem hjl)
            obtain ⟨z, hz⟩ : ∃ z, zs.getD j 0 = z := ⟨_, rfl⟩
            rw [hz] at cz hzi
            have hCr : C ≤ 9223372036854775807 := Hin.out.2.2.2
            have j1 : (0 : Int) ≤ j := by omega
            have j2 : (j : Int) < zs.length := by omega
            have wj : IntKind.i64.wrap ((j : Int) + 1) = (j : Int) + 1 := IntWalk.i64_in _ (by omega)
            have wz : IntKind.i64.wrap (z - L) = z - L := IntWalk.i64_in _ (by omega)
            have t1 : decide (z < L) = false := by simp; omega
            have t2 : decide ((W : Int) ≤ z - L) = false := by simp; omega
            have t3 : decide (C ≤ z) = false := by simp; omega
            have Hzz := Kp.mk hz
            clear hz hzi
            by_cases hj0 : 0 < j
            · have t4 : decide (0 < j) = true := by simpa using hj0
              have cy := ownI_cell Ho.out (show j - 1 < zs.length by omega)
              obtain ⟨y, hy⟩ : ∃ y, zs.getD (j - 1) 0 = y := ⟨_, rfl⟩
              have hyz : y < z := by
                have := List.pairwise_iff_getElem.1 Hzp.out (j - 1) j (by omega) hjl (by omega)
                rw [← hy, ← Hzz.out, List.getD_eq_getElem?_getD, List.getD_eq_getElem?_getD, List.getElem?_eq_getElem hjl, List.getElem?_eq_getElem (by omega)]
                exact this
              rw [hy] at cy
              clear hy
              have wj1 : IntKind.i64.wrap ((j : Int) - 1) = (j : Int) - 1 := IntWalk.i64_in _ (by omega)
              have j3 : (0 : Int) ≤ (j : Int) - 1 := by omega
              have j4 : (j : Int) - 1 < zs.length := by omega
              have j5 : ((j : Int) - 1).toNat = j - 1 := by omega
              have t5 : decide (z ≤ y) = false := by simp; omega
              go_wp2_with fail
              go_quiet (fail)
              go_wp2_with fail
              go_roundw
              case measure => simp [intOf]; omega
              case rel => exact ⟨j + 1, by go_num, by omega, ⟨q + nq, by simp⟩⟩
            · have t4 : decide (0 < j) = false := by simpa using hj0
              go_wp2_with fail
              go_quiet (fail)
              go_wp2_with fail
              go_roundw
              case measure => simp [intOf]; omega
              case rel => exact ⟨j + 1, by go_num, by omega, ⟨q + nq, by simp⟩⟩
          · have d3 : decide (j < zs.length) = false := by simpa using hjl
            go_wp2_with fail
            go_roundw
            case measure => simp [intOf]; omega
            case rel => exact ⟨k + 1, n + 64, h', by go_num, by omega, by omega, by omega, ⟨HP3.out.below (belowN (Below.refl _ _) _)⟩, HH3, ⟨belowN Hb3.out _⟩, by simp at hs3 ⊢; omega⟩)
    · have HR : Kp (Below w.heap.size w wr) := Hbl
      by_cases hkl2 : k < l.length
      · have d1 : decide (k < l.length) = true := by simpa using hkl2
        have d2 : decide ((k : Int) < 60) = false := by simp; omega
        go_wp2_with fail
        go_ret
        exact ⟨rfl, HR.out⟩
      · have d1 : decide (k < l.length) = false := by simpa using hkl2
        go_wp2_with fail
        go_ret
        exact ⟨rfl, HR.out⟩
end Go.Proofs.Ytlehlpiphplcmaa.PostP
