/-
  R07: match, best.
-/
import Derived.Test.YthahflokacgjjaaC4
import Derived.Test.YthahflokacgjjaaB
namespace Go.Proofs.Ythahflokacgjjaa.WinP
open Go.RowKit Go.WinLaws Go.Proofs.Ythahflokacgjjaa.Pl
set_option linter.unusedVariables false

theorem drawn_more {w w1 : World} (h : ∃ q, w1 = w.drewN q) (n : Nat) : ∃ q, w1.drewN n = w.drewN q := by
  obtain ⟨q, rfl⟩ := h
  exact ⟨q + n, by simp⟩

set_option maxRecDepth 100000 in
set_option maxHeartbeats 8000000 in
theorem match_any (s : ByteArray) (a d : Nat) (w : World) (hd1 : 1 ≤ d) (hd : d ≤ a) (ha : a ≤ s.size) (hs : s.size ≤ 1073741824) :
    Calls Try.prog 19 #[.string s, .int .i64 a, .int .i64 d] w fun e w' => e = .returned (.int .i64 (Pl.mt s.data.toList a (a - d))) ∧ ∃ q, w' = w.drewN q := by
  have Hl : Kp (s.data.toList.length = s.size) := ⟨by rw [Array.length_toList]; rfl⟩
  obtain ⟨R, hR⟩ : ∃ R, Pl.mt s.data.toList a (a - d) = R := ⟨_, rfl⟩
  have HR := Kp.mk hR
  rw [hR]
  clear hR
  obtain ⟨m, hm⟩ : ∃ m, mo s.data.toList a = m := ⟨_, rfl⟩
  have hm2 : m = min 130 (s.size - a) := by rw [← hm, mo, Hl.out]
  have Hm2 := Kp.mk hm2
  have H0 : Kp (mtF s.data.toList a (a - d) m 0 = R) := ⟨by rw [← HR.out, Pl.mt, hm]⟩
  have hm130 : m ≤ 130 := by omega
  have hma : a + m ≤ s.size := by omega
  clear hm hm2
  go_enter Try.func19, Try.ntmps19
  go_wp2_with fail
  go_loopw [7] (fun v7 wr => ∃ k : Nat, v7 = .int .i64 k ∧ k ≤ m ∧ Kp (mtF s.data.toList a (a - d) (m - k) k = R) ∧ Kp (∃ q, wr = w.drewN q)) (fun v7 _ => m - (intOf v7).toNat)
  case atStart => exact ⟨0, rfl, Nat.zero_le _, H0, ⟨0, rfl⟩⟩
  case round =>
    obtain ⟨k, rfl, hk, HF, Hw⟩ := hrel
    by_cases hkm : k < m
    · have c1 : decide ((k : Int) < 130) = true := by simp; omega
      have c2 : decide ((a : Int) + k < (s.size : Int)) = true := by simp; omega
      obtain ⟨x, hx⟩ : ∃ x, at_ s.data.toList (a + k) = x := ⟨_, rfl⟩
      obtain ⟨y, hy⟩ : ∃ y, at_ s.data.toList (a - d + k) = y := ⟨_, rfl⟩
      have l1 : a + k < s.size := by omega
      have l2 : a + k - d < s.size := by omega
      have hbx : (s[a + k]) = x := by rw [byte_at s _ l1, hx]
      have hby : (s[a + k - d]) = y := by rw [byte_at s _ l2, show a + k - d = a - d + k by omega, hy]
      have i1 : (0 : Int) ≤ (a : Int) + k := by omega
      have i2 : (a : Int) + k < s.size := by omega
      have i3 : ((a : Int) + k).toNat = a + k := by omega
      have i4 : (0 : Int) ≤ (a : Int) + k - d := by omega
      have i5 : (a : Int) + k - d < s.size := by omega
      have i6 : ((a : Int) + k - d).toNat = a + k - d := by omega
      have w3 : IntKind.i64.wrap ((a : Int) + k) = (a : Int) + k := IntWalk.i64_in _ (by omega)
      have w4 : IntKind.i64.wrap ((a : Int) + k - d) = (a : Int) + k - d := IntWalk.i64_in _ (by omega)
      have w5 : IntKind.i64.wrap ((k : Int) + 1) = (k : Int) + 1 := IntWalk.i64_in _ (by omega)
      have HF1 := HF.out
      rw [show m - k = (m - (k + 1)) + 1 by omega, mtF, hx, hy] at HF1
      clear hx hy
      by_cases hxy : y = x
      · have hxy' : ((x.toNat : Int) == (y.toNat : Int)) = true := by simp [hxy]
        rw [if_pos hxy] at HF1
        have HF2 := Kp.mk HF1
        clear HF1
        go_wp2_with fail
        go_quiet (fail)
        go_wp2_with fail
        go_roundw
        case measure => simp [intOf]; omega
        case rel => exact ⟨k + 1, by go_num, by omega, HF2, ⟨drawn_more Hw.out _⟩⟩
      · have hxy' : ((x.toNat : Int) == (y.toNat : Int)) = false := by
          simp
          intro h
          exact hxy (UInt8.toNat_inj.1 (by omega))
        rw [if_neg hxy] at HF1
        subst HF1
        go_wp2_with fail
        go_quiet (fail)
        go_wp2_with fail
        go_ret
        exact ⟨rfl, drawn_more Hw.out _⟩
    · have hkm2 : m - k = 0 := by omega
      have hR : R = k := by rw [← HF.out, hkm2, mtF]
      have hke : Kp (k = m) := ⟨by omega⟩
      clear hkm2
      have HRk := Kp.mk hR
      clear hR
      by_cases h130 : k < 130
      · have c1 : decide ((k : Int) < 130) = true := by simp; omega
        have c2 : decide ((a : Int) + k < (s.size : Int)) = false := by have := Hm2.out; have := hke.out; simp; omega
        have w3 : IntKind.i64.wrap ((a : Int) + k) = (a : Int) + k := IntWalk.i64_in _ (by omega)
        go_wp2_with fail
        go_quiet (fail)
        go_wp2_with fail
        go_ret
        exact ⟨by rw [HRk.out]; rfl, drawn_more Hw.out _⟩
      · have c1 : decide ((k : Int) < 130) = false := by simp; omega
        go_wp2_with fail
        go_quiet (fail)
        go_wp2_with fail
        go_ret
        exact ⟨by rw [HRk.out]; rfl, drawn_more Hw.out _⟩

set_option maxRecDepth 100000 in
set_option maxHeartbeats 8000000 in
theorem best_any (s : ByteArray) (a : Nat) (w : World) (ha : a ≤ s.size) (hs : s.size ≤ 1073741824) :
    Calls Try.prog 18 #[.string s, .int .i64 a] w fun e w' => e = .returned (.tuple #[.int .i64 (best s.data.toList a).1, .int .i64 (best s.data.toList a).2]) ∧ ∃ q, w' = w.drewN q := by
  obtain ⟨R, hR⟩ : ∃ R, best s.data.toList a = R := ⟨_, rfl⟩
  have HR := Kp.mk hR
  rw [hR]
  clear hR
  have Hmt : Kp (∀ p, Pl.mt s.data.toList a p ≤ 130) := ⟨fun p => by have := mt_le s.data.toList a p; unfold mo at this; omega⟩
  obtain ⟨t, ht⟩ : ∃ t, min a 32768 = t := ⟨_, rfl⟩
  have H0 : Kp (bstF s.data.toList a (t + 1 - 1) 1 (0, 0) = R) := ⟨by rw [← HR.out, best, ht]; rfl⟩
  have Ht := Kp.mk ht
  have ht1 : t ≤ a := by omega
  have ht2 : t ≤ 32768 := by omega
  clear ht
  go_enter Try.func18, Try.ntmps18
  go_wp2_with fail
  go_loopw [6, 7, 8] (fun v6 v7 v8 wr => ∃ n b d : Nat, v6 = .int .i64 n ∧ v7 = .int .i64 b ∧ v8 = .int .i64 d ∧ 1 ≤ d ∧ d ≤ t + 1 ∧ n ≤ 130 ∧ b ≤ 32768 ∧ Kp (bstF s.data.toList a (t + 1 - d) d (n, b) = R) ∧ Kp (∃ q, wr = w.drewN q)) (fun _ _ v8 _ => t + 1 - (intOf v8).toNat)
  case atStart => exact ⟨0, 0, 1, rfl, rfl, rfl, Nat.le_refl _, by omega, by omega, by omega, H0, ⟨0, rfl⟩⟩
  case round =>
    obtain ⟨n, b, d, rfl, rfl, rfl, hd1, hd, hn, hb, HF, Hw⟩ := hrel
    by_cases hdt : d ≤ t
    · have c1 : decide (d ≤ a) = true := by simp; omega
      have c2 : decide ((d : Int) ≤ 32768) = true := by simp; omega
      have Hc := Kp.mk (match_any s a d wr hd1 (by omega) ha hs)
      have hk := Hmt.out (a - d)
      have HF1 := HF.out
      rw [show t + 1 - d = (t + 1 - (d + 1)) + 1 by omega, bstF, upd] at HF1
      obtain ⟨k, hkk⟩ : ∃ k, Pl.mt s.data.toList a (a - d) = k := ⟨_, rfl⟩
      rw [hkk] at HF1 hk Hc
      clear hkk
      have w5 : IntKind.i64.wrap ((d : Int) + 1) = (d : Int) + 1 := IntWalk.i64_in _ (by omega)
      by_cases hgt : n < k
      · have c3 : decide (n < k) = true := by simpa using hgt
        rw [if_pos hgt] at HF1
        have HF2 := Kp.mk HF1
        clear HF1
        go_wp2_with (go_at_call 19; refine (Hc.out).mono ?_; rintro e w2 ⟨rfl, hq⟩; have Hq : Kp (∃ q, w2 = w.drewN q) := ⟨by obtain ⟨q, rfl⟩ := hq; exact drawn_more Hw.out _⟩; clear hq)
        go_roundw
        case measure => simp [intOf]; omega
        case rel => exact ⟨k, d, d + 1, rfl, rfl, by go_num, by omega, by omega, hk, by omega, HF2, Hq⟩
      · have c3 : decide (n < k) = false := by simpa using hgt
        rw [if_neg hgt] at HF1
        have HF2 := Kp.mk HF1
        clear HF1
        go_wp2_with (go_at_call 19; refine (Hc.out).mono ?_; rintro e w2 ⟨rfl, hq⟩; have Hq : Kp (∃ q, w2 = w.drewN q) := ⟨by obtain ⟨q, rfl⟩ := hq; exact drawn_more Hw.out _⟩; clear hq)
        go_roundw
        case measure => simp [intOf]; omega
        case rel => exact ⟨n, b, d + 1, rfl, rfl, by go_num, by omega, by omega, hn, hb, HF2, Hq⟩
    · have hdt2 : t + 1 - d = 0 := by omega
      have hR : R = (n, b) := by rw [← HF.out, hdt2, bstF]
      subst hR
      clear hdt2
      by_cases hta : d ≤ a
      · have c1 : decide (d ≤ a) = true := by simpa using hta
        have c2 : decide ((d : Int) ≤ 32768) = false := by have := Ht.out; simp; omega
        go_wp2_with fail
        refine bodyPost_ret (results_tmp2 rfl _ _ _) rfl ?_
        exact ⟨rfl, Hw.out⟩
      · have c1 : decide (d ≤ a) = false := by simpa using hta
        go_wp2_with fail
        refine bodyPost_ret (results_tmp2 rfl _ _ _) rfl ?_
        exact ⟨rfl, Hw.out⟩

end Go.Proofs.Ythahflokacgjjaa.WinP
