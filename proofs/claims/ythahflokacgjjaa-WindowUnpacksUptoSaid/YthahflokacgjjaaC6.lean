/-
  window.Unpack.
-/
import Derived.Test.YthahflokacgjjaaC4
import Derived.Lib.SlBytesConst
namespace Go.Proofs.Ythahflokacgjjaa.WinP
open Go.RowKit Go.WinLaws Go.Proofs.Ythahflokacgjjaa.Pl
set_option linter.unusedVariables false

theorem below_drewN {B : Nat} {a w : World} (h : Below B a w) (n : Nat) : Below B a (w.drewN n) := h.trans ⟨rfl, rfl, rfl, Nat.le_refl _, fun _ _ => rfl⟩
theorem own_drewN {w : World} {base : Nat} {v : Value} {xs : List UInt8} (h : Own w base v xs) (n : Nat) : Own (w.drewN n) base v xs := own_kept h (below_drewN (Below.refl w.heap.size w) n) (Nat.le_refl _)

theorem stat_len : stat.length = 68 := rfl

/-- the static text as a slice of its own, marked -/
theorem owns_stat (w : World) (cs : Array Value) (h : cs = (bcells stat).toArray) : Own (w.alloc (.cells cs 5 (68, 69))) w.heap.size (.slice (some ⟨w.heap.size, 0, none⟩) 68 68) stat := by
  subst h
  exact own_row (cur := (bcells stat).toArray) (fr := (68, 69)) (c := 68) (xs := stat) (heap_alloc_new w _) (Nat.le_refl _) rfl (.inl (Nat.le_refl _)) (by unfold maxLen; omega) ⟨[], by simp⟩

set_option maxRecDepth 100000 in
set_option maxHeartbeats 8000000 in
theorem unpack_any (s : ByteArray) (most : Int) (w : World) (hs : s.size ≤ 1125899906842624) (hm1 : -9223372036854775808 ≤ most) (hm2 : most ≤ 9223372036854775807)
    (hfit : ∀ n : Nat, (n : Int) ≤ most → n ≤ 65 * s.size → Fit (n + 68)) :
    Calls Try.prog 13 #[.string s, .int .i64 most] w fun e w' => e = .returned (.tuple #[.string (strOf (unpack s.data.toList most).1), .int .i64 (unpack s.data.toList most).2]) ∧ Below w.heap.size w w' := by
  have Hl : Kp (s.data.toList.length = s.size) := ⟨by rw [Array.length_toList]; rfl⟩
  have Hfit := Kp.mk hfit
  clear hfit
  obtain ⟨R, hR⟩ : ∃ R, unpack s.data.toList most = R := ⟨_, rfl⟩
  have HR := Kp.mk hR
  rw [hR]
  clear hR
  by_cases hneg : most < 0
  · have hneg' : decide (most < 0) = true := by simpa using hneg
    have hr : R = ([], 2) := by rw [← HR.out, unpack, if_pos hneg]
    subst hr
    go_enter Try.func13, Try.ntmps13
    go_wp2_with fail
    refine bodyPost_ret (results_tmp2 rfl _ _ _) rfl ?_
    exact ⟨rfl, Below.refl _ _⟩
  · have hneg' : decide (most < 0) = false := by simpa using hneg
    have Hst : Kp (∀ cs : Array Value, cs = (bcells stat).toArray → Own (w.alloc (.cells cs 5 (68, 69))) w.heap.size (.slice (some ⟨w.heap.size, 0, none⟩) 68 68) stat) := ⟨fun cs h => owns_stat w cs h⟩
    have hcv := fun (w : World) (C : Array Value) (n c : Nat) => Lib.run_convert_bytes_const (P := Try.prog) w 33 5 C n c Try.underlying33 Try.underlying5
    go_enter Try.func13, Try.ntmps13
    go_wp2_with fail
    clear hcv
    go_loopw [6, 7] (fun v6 v7 wr => ∃ (i fu : Nat) (A : Option Addr) (c : Nat) (K : List UInt8), v6 = .slice A K.length c ∧ v7 = .int .i64 i ∧ i ≤ s.size ∧ Own wr w.heap.size (.slice A K.length c) K ∧ Below w.heap.size w wr ∧ s.size - i < fu ∧ K.length ≤ 65 * i + 68 ∧ 68 ≤ K.length ∧ (K.length : Int) ≤ most + 68 ∧ Kp (unF s.data.toList most fu i K = R)) (fun _ v7 _ => s.size - (intOf v7).toNat)
    case atStart => exact ⟨0, s.size + 1, _, 68, stat, rfl, rfl, Nat.zero_le _, Hst.out _ rfl, (Below.refl _ _).alloc (Nat.le_refl _) _, by omega, by rw [stat_len]; omega, by rw [stat_len]; omega, by rw [stat_len]; omega, ⟨by rw [← HR.out, unpack, if_neg (Int.not_lt.2 hneg), Hl.out]⟩⟩
    case round =>
      obtain ⟨i, fu, A, c, K, rfl, rfl, hi, ho, hbl, hfu, h65, h68, hmost, HF⟩ := hrel
      have Ho := Kp.mk ho
      have Hbl := Kp.mk hbl
      clear ho hbl
      by_cases hlt : i < s.size
      · have hlt' : decide (i < s.size) = true := by simpa using hlt
        obtain ⟨fu, rfl⟩ : ∃ g, fu = g + 1 := ⟨fu - 1, by omega⟩
        obtain ⟨b, hb⟩ : ∃ b, (at_ s.data.toList i).toNat = b := ⟨_, rfl⟩
        have hb255 : b < 256 := by rw [← hb]; exact (at_ s.data.toList i).toNat_lt
        have hby : ((s[i]).toNat : Int) = (b : Int) := by rw [byte_at s i hlt, hb]
        have g0 : (0 : Int) ≤ i := by omega
        have g1 : (i : Int) < s.size := by omega
        have HF1 := HF.out
        rw [unF, if_pos (by rw [Hl.out]; exact hlt), hb, Hl.out] at HF1
        clear hb
        have hw0 : IntKind.i64.wrap ((b : Int)) = (b : Int) := IntWalk.i64_in _ (by omega)
        have hw1 : IntKind.i64.wrap ((i : Int) + 1) = (i : Int) + 1 := IntWalk.i64_in _ (by omega)
        have hw2 : IntKind.i64.wrap ((b : Int) + 1) = (b : Int) + 1 := IntWalk.i64_in _ (by omega)
        have hw3 : IntKind.i64.wrap ((s.size : Int) - ((i : Int) + 1)) = (s.size : Int) - ((i : Int) + 1) := IntWalk.i64_in _ (by omega)
        have hw4 : IntKind.i64.wrap ((K.length : Int) - 68) = (K.length : Int) - 68 := IntWalk.i64_in _ (by omega)
        have hw5 : IntKind.i64.wrap (most - ((K.length : Int) - 68)) = most - ((K.length : Int) - 68) := IntWalk.i64_in _ (by omega)
        have hw6 : IntKind.i64.wrap ((b : Int) - 124) = (b : Int) - 124 := IntWalk.i64_in _ (by omega)
        by_cases h255 : b = 255
        · have hq : ((b : Int) == 255) = true := by simp; omega
          have hc1 : decide (127 < (b : Int)) = true := by simp; omega
          rw [if_pos h255] at HF1
          subst HF1
          go_wp2_with fail
          refine bodyPost_ret (results_tmp2 rfl _ _ _) rfl ?_
          exact ⟨rfl, Hbl.out⟩
        · have hq : ((b : Int) == 255) = false := by simp; omega
          rw [if_neg h255] at HF1
          by_cases hc : b ≤ 127
          · have hc1 : decide (127 < (b : Int)) = false := by simp; omega
            rw [if_pos hc] at HF1
            by_cases hsh : s.size < i + (b + 2)
            · have hsh' : decide ((s.size : Int) - ((i : Int) + 1) < (b : Int) + 1) = true := by simp; omega
              rw [if_pos hsh] at HF1
              subst HF1
              go_wp2_with fail
              refine bodyPost_ret (results_tmp2 rfl _ _ _) rfl ?_
              exact ⟨rfl, Hbl.out⟩
            · have hsh' : decide ((s.size : Int) - ((i : Int) + 1) < (b : Int) + 1) = false := by simp; omega
              rw [if_neg hsh] at HF1
              by_cases hbig : most + 68 < (K.length : Int) + ((b : Int) + 1)
              · have hbig' : decide (most - ((K.length : Int) - 68) < (b : Int) + 1) = true := by simp; omega
                rw [if_pos hbig] at HF1
                subst HF1
                go_wp2_with fail
                refine bodyPost_ret (results_tmp2 rfl _ _ _) rfl ?_
                exact ⟨rfl, Hbl.out⟩
              · have hbig' : decide (most - ((K.length : Int) - 68) < (b : Int) + 1) = false := by simp; omega
                rw [if_neg hbig] at HF1
                obtain ⟨zs, hzs⟩ : ∃ zs, (s.data.toList.drop (i + 1)).take (b + 1) = zs := ⟨_, rfl⟩
                have hzl : zs.length = b + 1 := by rw [← hzs, List.length_take, List.length_drop, Hl.out]; omega
                have Hcut : Kp ((s.extract (i + 1) (i + 1 + (b + 1))).data.toList = zs) := ⟨by
                  rw [ByteArray.data_extract, Array.toList_extract, ← hzs, List.extract_eq_take_drop, show i + 1 + (b + 1) - (i + 1) = b + 1 by omega]⟩
                have Hzl := Kp.mk hzl
                rw [hzs] at HF1
                have HF4 := Kp.mk HF1
                have hw7 : IntKind.i64.wrap ((i : Int) + 1 + ((b : Int) + 1)) = (i : Int) + 1 + ((b : Int) + 1) := IntWalk.i64_in _ (by omega)
                have g2 : (0 : Int) ≤ (i : Int) + 1 := by omega
                have g3 : (i : Int) + 1 ≤ (i : Int) + 1 + ((b : Int) + 1) := by omega
                have g4 : (i : Int) + 1 + ((b : Int) + 1) ≤ s.size := by omega
                have g5 : ((i : Int) + 1).toNat = i + 1 := by omega
                have g6 : ((i : Int) + 1 + ((b : Int) + 1)).toNat = i + 1 + (b + 1) := by omega
                have Hf : Kp (Fit (K.length + zs.length)) := ⟨by
                  have := Hfit.out (K.length + zs.length - 68) (by omega) (by omega)
                  rwa [show K.length + zs.length - 68 + 68 = K.length + zs.length by omega] at this⟩
                have hz1 := Hbl.out.size
                clear HF1 hzs hzl
                go_wp2_with (at_builtin; refine list_str rfl (.tmp 76) (.tmp 82) rfl w.heap.size (.slice A K.length c) K rfl Ho.out (s.extract (i + 1) (i + 1 + (b + 1))) rfl zs Hcut.out Hf.out hz1 ?_; intro A2 c2 w2 hk2 ho2 _; have Ho2 : Kp (Own w2 w.heap.size (.slice A2 (K.length + zs.length) c2) (K ++ zs)) := ⟨by rw [show K.length + zs.length = (K ++ zs).length by simp]; exact ho2⟩; have Hb2 : Kp (Below w.heap.size w w2) := ⟨Hbl.out.trans hk2⟩; clear hk2 ho2)
                go_loopw [6, 12] (fun v6 v12 wr => v6 = .slice A2 (K.length + zs.length) c2 ∧ v12 = .int .i64 0 ∧ wr = w2) (fun _ _ _ => 0)
                case atStart => exact ⟨rfl, rfl, rfl⟩
                case round =>
                  obtain ⟨rfl, rfl, rfl⟩ := hrel
                  go_wp2_with fail
                  go_roundw
                  case measure => simp [intOf]; omega
                  case rel =>
                    have hzl := Hzl.out
                    exact ⟨i + b + 2, fu, A2, c2, K ++ zs, by simp, by go_num, by omega, by rw [List.length_append]; exact Ho2.out, Hb2.out, by omega, by rw [List.length_append]; omega, by rw [List.length_append]; omega, by rw [List.length_append]; omega, HF4⟩
          · have hc1 : decide (127 < (b : Int)) = true := by simp; omega
            rw [if_neg hc] at HF1
            by_cases hsh : s.size < i + 3
            · have hsh' : decide ((s.size : Int) - ((i : Int) + 1) < 2) = true := by simp; omega
              rw [if_pos hsh] at HF1
              subst HF1
              go_wp2_with fail
              refine bodyPost_ret (results_tmp2 rfl _ _ _) rfl ?_
              exact ⟨rfl, Hbl.out⟩
            · have hsh' : decide ((s.size : Int) - ((i : Int) + 1) < 2) = false := by simp; omega
              rw [if_neg hsh] at HF1
              obtain ⟨x, hx⟩ : ∃ x, (at_ s.data.toList (i + 1)).toNat = x := ⟨_, rfl⟩
              obtain ⟨y, hy⟩ : ∃ y, (at_ s.data.toList (i + 2)).toNat = y := ⟨_, rfl⟩
              have hx255 : x < 256 := by rw [← hx]; exact (at_ s.data.toList (i + 1)).toNat_lt
              have hy255 : y < 256 := by rw [← hy]; exact (at_ s.data.toList (i + 2)).toNat_lt
              have hl1 : i + 1 < s.size := by omega
              have hl2 : i + 2 < s.size := by omega
              have hbx : ((s[i + 1]).toNat : Int) = (x : Int) := by rw [byte_at s _ hl1, hx]
              have hby2 : ((s[i + 2]).toNat : Int) = (y : Int) := by rw [byte_at s _ hl2, hy]
              rw [hx, hy] at HF1
              have g2 : (0 : Int) ≤ (i : Int) + 1 := by omega
              have g3 : (i : Int) + 1 < s.size := by omega
              have g4 : ((i : Int) + 1).toNat = i + 1 := by omega
              have g5 : (0 : Int) ≤ (i : Int) + 1 + 1 := by omega
              have g6 : (i : Int) + 1 + 1 < s.size := by omega
              have g7 : ((i : Int) + 1 + 1).toNat = i + 2 := by omega
              have hw7 : IntKind.i64.wrap ((i : Int) + 1 + 1) = (i : Int) + 1 + 1 := IntWalk.i64_in _ (by omega)
              have hw8 : IntKind.i64.wrap ((x : Int)) = (x : Int) := IntWalk.i64_in _ (by omega)
              have hw9 : IntKind.i64.wrap ((y : Int)) = (y : Int) := IntWalk.i64_in _ (by omega)
              have HF2 := Kp.mk HF1
              clear HF1 hx hy
              go_wp2_with fail
              go_quiet (fail)
              have HF1 := HF2.out
              clear HF2
              by_cases hf1 : 32768 ≤ x * 256 + y
              · have hb1 : decide (32768 < (x : Int) * 256 + y + 1) = true := by simp; omega
                rw [if_pos (Or.inl hf1)] at HF1
                subst HF1
                go_wp2_with fail
                refine bodyPost_ret (results_tmp2 rfl _ _ _) rfl ?_
                exact ⟨rfl, below_drewN Hbl.out _⟩
              · have hb1 : decide (32768 < (x : Int) * 256 + y + 1) = false := by simp; omega
                by_cases hf2 : K.length < x * 256 + y + 1
                · have hb2 : decide ((K.length : Int) < (x : Int) * 256 + y + 1) = true := by simp; omega
                  rw [if_pos (Or.inr hf2)] at HF1
                  subst HF1
                  go_wp2_with fail
                  refine bodyPost_ret (results_tmp2 rfl _ _ _) rfl ?_
                  exact ⟨rfl, below_drewN Hbl.out _⟩
                · have hb2 : decide ((K.length : Int) < (x : Int) * 256 + y + 1) = false := by simp; omega
                  rw [if_neg (by omega)] at HF1
                  by_cases hbig : most + 68 < (K.length : Int) + ((b : Int) - 124)
                  · have hbig' : decide (most - ((K.length : Int) - 68) < (b : Int) - 124) = true := by simp; omega
                    rw [if_pos hbig] at HF1
                    subst HF1
                    go_wp2_with fail
                    refine bodyPost_ret (results_tmp2 rfl _ _ _) rfl ?_
                    exact ⟨rfl, below_drewN Hbl.out _⟩
                  · have hbig' : decide (most - ((K.length : Int) - 68) < (b : Int) - 124) = false := by simp; omega
                    rw [if_neg hbig] at HF1
                    have HF4 := Kp.mk HF1
                    clear HF1
                    have hne0 : ((x : Int) * 256 + y + 1 == 0) = false := by simp; omega
                    have hpos : decide ((0 : Int) < (x : Int) * 256 + y + 1) = true := by simp; omega
                    obtain ⟨d, hd⟩ : ∃ d, x * 256 + y = d := ⟨_, rfl⟩
                    rw [hd] at HF4
                    have Hd : Kp (x * 256 + y = d) := ⟨hd⟩
                    have Hmost : Kp (∀ k : Nat, k ≤ b - 124 → Fit (K.length + k)) := ⟨fun k hk => by
                      have := Hfit.out (K.length + k - 68) (by omega) (by omega)
                      rwa [show K.length + k - 68 + 68 = K.length + k by omega] at this⟩
                    clear hd
                    go_wp2_with fail
                    go_loopw [6, 12] (fun v6 v12 w2 => ∃ (k : Nat) (A2 : Option Addr) (c2 : Nat), v6 = .slice A2 (K.length + k) c2 ∧ v12 = .int .i64 k ∧ k ≤ b - 124 ∧ Kp (Own w2 w.heap.size (.slice A2 (K.length + k) c2) (copy K d k)) ∧ Kp (Below w.heap.size w w2)) (fun _ v12 _ => b - 124 - (intOf v12).toNat)
                    case atStart => exact ⟨0, A, c, rfl, rfl, Nat.zero_le _, ⟨own_drewN Ho.out _⟩, ⟨below_drewN Hbl.out _⟩⟩
                    case round =>
                      obtain ⟨k, A2, c2, rfl, rfl, hk, Ho2, Hb2⟩ := hrel
                      by_cases hkl : k < b - 124
                      · have hkl' : decide ((k : Int) < (b : Int) - 124) = true := by simp; omega
                        obtain ⟨J, hJ⟩ : ∃ J, copy K d k = J := ⟨_, rfl⟩
                        have hJl : J.length = K.length + k := by rw [← hJ, copy_len]
                        have Hnext : Kp (copy K d (k + 1) = J ++ [at_ J (J.length - d - 1)]) := ⟨by rw [copy, hJ]⟩
                        rw [hJ] at Ho2
                        have HJ := Kp.mk hJl
                        rcases Ho2.out with ⟨hv, hx⟩ | ⟨g, c', hv, hgb, hg, h1, h2, h3, h4⟩
                        · rw [hx] at hJl; simp at hJl; omega
                        · simp only [Value.slice.injEq] at hv
                          obtain ⟨rfl, -, rfl⟩ := hv
                          obtain ⟨z, hz⟩ : ∃ z, at_ J (J.length - d - 1) = z := ⟨_, rfl⟩
                          have c0 : wr.cell? ⟨g, K.length + k - (x * 256 + y + 1), none⟩ = some (.int .u8 z.toNat) := h4 _ _ (by
                            rw [show K.length + k - (x * 256 + y + 1) = J.length - d - 1 by have := Hd.out; omega, bcells, List.getElem?_map, List.getElem?_eq_getElem (by have := Hd.out; omega), ← hz, at_eq (by have := Hd.out; omega)]
                            simp [hJl])
                          rw [hz] at Hnext
                          have hwi : IntKind.i64.wrap (((K.length + k : Nat) : Int) - ((x : Int) * 256 + y + 1)) = ((K.length + k : Nat) : Int) - ((x : Int) * 256 + y + 1) := IntWalk.i64_in _ (by omega)
                          have i1 : (0 : Int) ≤ ((K.length + k : Nat) : Int) - ((x : Int) * 256 + y + 1) := by omega
                          have i2 : ((K.length + k : Nat) : Int) - ((x : Int) * 256 + y + 1) < ((K.length + k : Nat) : Int) := by omega
                          have i3 : (((K.length + k : Nat) : Int) - ((x : Int) * 256 + y + 1)).toNat = K.length + k - (x * 256 + y + 1) := by omega
                          have hwk : IntKind.i64.wrap ((k : Int) + 1) = (k : Int) + 1 := IntWalk.i64_in _ (by omega)
                          clear hJ hJl h3 h4 hz
                          have HfK := Hmost.out (k + 1) (by omega)
                          have hz0 := Hb2.out.size
                          have Hf1 : Kp (Fit (J.length + [z].length)) := ⟨by rw [HJ.out]; exact HfK⟩
                          clear HfK
                          go_wp2_with (at_builtin; refine list_bytes rfl (.tmp 93) (.tmp 101) rfl w.heap.size (.slice (some ⟨g, 0, none⟩) (K.length + k) c2) J rfl (own_kept Ho2.out ((Below.refl wr.heap.size wr).alloc (Nat.le_refl _) _) (Nat.le_refl _)) ⟨wr.heap.size, 0, none⟩ 1 1 [z] rfl rfl (World.news_of_block (cs := #[.int .u8 z.toNat]) (t := 5) (fr := (0, 0)) (heap_alloc_new wr _)) Hf1.out (by simp; omega) ?_; intro A3 c3 w3 hk3 ho3 _; have Ho3 := Kp.mk ho3; have Hb3 : Kp (Below w.heap.size w w3) := ⟨(Hb2.out.alloc hz0 _).trans hk3⟩; clear hk3 ho3)
                          go_roundw
                          case measure => simp [intOf]; omega
                          case rel => exact ⟨k + 1, A3, c3, by have := HJ.out; simp; omega, by go_num, by omega, ⟨by rw [Hnext.out, show K.length + (k + 1) = (J ++ [z]).length by simp [HJ.out]; omega]; exact Ho3.out⟩, Hb3⟩
                      · have hkl' : decide ((k : Int) < (b : Int) - 124) = false := by simp; omega
                        have hkb : k = b - 124 := by omega
                        have HF5 : Kp (unF s.data.toList most fu (i + 3) (copy K d k) = R) := ⟨by rw [hkb]; exact HF4.out⟩
                        go_wp2_with fail
                        go_roundw
                        case measure => simp [intOf]; omega
                        case rel => exact ⟨i + 3, fu, A2, c2, copy K d k, by rw [copy_len], by go_num, by omega, by rw [copy_len]; exact Ho2.out, Hb2.out, by omega, by rw [copy_len]; omega, by rw [copy_len]; omega, by rw [copy_len]; omega, HF5⟩
      · have hlt' : decide (i < s.size) = false := by simpa using hlt
        obtain ⟨fu, rfl⟩ : ∃ g, fu = g + 1 := ⟨fu - 1, by omega⟩
        have hr : R = (K.drop 68, 0) := by rw [← HF.out, unF, if_neg (by rw [Hl.out]; exact hlt)]
        subst hr
        rcases Ho.out with ⟨hv, hx⟩ | ⟨g, c', hv, hb, hg, h1, h2, h3, h4⟩
        · rw [hx] at h68; simp at h68
        · simp only [Value.slice.injEq, true_and] at hv
          obtain ⟨rfl, rfl⟩ := hv
          have hcv := own_str_from (w := wr) (g := g) (n := K.length - 68) (c := c - 68) (k := 68) (xs := K) (by omega) h4
          have g1 : 68 ≤ K.length := h68
          have g2 : K.length ≤ c := h1
          have hcv2 : c = 68 → (convert 33 9 (.slice (some ⟨g, 0, none⟩) (K.length - 68) 0)).run Try.prog wr = .ok (.string (strOf (K.drop 68))) wr := fun hc => by
            have hk : K.length = 68 := by omega
            have := own_str_from (w := wr) (g := g) (n := 0) (c := 0) (k := 0) (xs := []) rfl (fun j u hu => by simp [bcells] at hu)
            rw [hk, List.drop_of_length_le (by omega)]
            exact this
          have Hb := Kp.mk Hbl.out
          by_cases hc : c = 68
          · have hcv3 := hcv2 hc
            subst hc
            have hk : K.length = 68 := by omega
            clear hcv hcv2 g1 g2
            rw [hk] at hcv3
            simp only [Nat.sub_self] at hcv3
            go_wp2_with fail
            refine bodyPost_ret (results_tmp2 rfl _ _ _) rfl ?_
            exact ⟨rfl, Hb.out⟩
          · clear hcv2
            go_wp2_with fail
            refine bodyPost_ret (results_tmp2 rfl _ _ _) rfl ?_
            exact ⟨rfl, Hb.out⟩
end Go.Proofs.Ythahflokacgjjaa.WinP
