/-
  R07.Unpack.
-/
import Derived.Test.YthahflokacgjjaaC6
import Derived.Test.YthahflokacgjjaaQ2
import Derived.Laws.IdiomStrings
namespace Go.Proofs.Ythahflokacgjjaa.WinP
open Go.RowKit Go.WinLaws Go.Proofs.Ythahflokacgjjaa.Pl
set_option linter.unusedVariables false

theorem own_conv (w1 w : World) (S : ByteArray) (hS : S = strOf stat) (hz : w.heap.size ≤ w1.heap.size) :
    Own (w1.drew.alloc (.cells (bytesRow S (grownCap w1 68 0 5)) 5 ((bytesRow S (grownCap w1 68 0 5)).size, (bytesRow S (grownCap w1 68 0 5)).size + 1))) w.heap.size (.slice (some ⟨w1.heap.size, 0, none⟩) 68 (grownCap w1 68 0 5)) stat := by
  subst hS
  have hge := grownCap_ge w1 68 0 5
  have hsz : (bytesRow (strOf stat) (grownCap w1 68 0 5)).size = grownCap w1 68 0 5 := by
    have e1 : (strOf stat).data.size = 68 := rfl
    have e2 : (strOf stat).size = 68 := rfl
    rw [bytesRow, Array.size_append, Array.size_map, Array.size_replicate, e1, e2]
    omega
  refine own_row (cur := bytesRow (strOf stat) (grownCap w1 68 0 5)) (c := grownCap w1 68 0 5) (xs := stat) (heap_alloc_new w1.drew _) hz hsz (.inl (by rw [hsz]; exact Nat.le_refl _)) (grownCap_le_maxLen _ _ _ _ (by unfold maxLen; omega)) ⟨(Array.replicate (grownCap w1 68 0 5 - (strOf stat).size) (Value.int .u8 0)).toList, ?_⟩
  · rw [bytesRow, Array.toList_append]
    congr 1
    rw [Array.toList_map]
    rfl

set_option maxRecDepth 100000 in
set_option maxHeartbeats 8000000 in
theorem unpack_ref (s : ByteArray) (most : Int) (w : World) (hs : s.size ≤ 1125899906842624) (hm1 : -9223372036854775808 ≤ most) (hm2 : most ≤ 9223372036854775807)
    (hfit : ∀ n : Nat, (n : Int) ≤ most → n ≤ 65 * s.size → Fit (n + 68)) :
    Calls Try.prog 14 #[.string s, .int .i64 most] w fun e w' => e = .returned (.tuple #[.string (strOf (unpack s.data.toList most).1), .int .i64 (unpack s.data.toList most).2]) ∧ Below w.heap.size w w' := by
  have Hl : Kp (s.data.toList.length = s.size) := ⟨by rw [Array.length_toList]; rfl⟩
  have Hfit := Kp.mk hfit
  clear hfit
  obtain ⟨R, hR⟩ : ∃ R, unpack s.data.toList most = R := ⟨_, rfl⟩
  have HR := Kp.mk hR
  rw [hR]
  clear hR
  by_cases hneg : most < 0
  · have hneg' : decide (most < 0) = true := by simpa using hneg
    have hr : R = ([], 2) := by rw [← HR.out, unpack, if_pos hneg]
    subst hr
    go_enter Try.func14, Try.ntmps14
    go_wp2_with fail
    refine bodyPost_ret (results_tmp2 rfl _ _ _) rfl ?_
    exact ⟨rfl, Below.refl _ _⟩
  · have hneg' : decide (most < 0) = false := by simpa using hneg
    obtain ⟨S, hS⟩ : ∃ S, strOf stat = S := ⟨_, rfl⟩
    have Hst : Kp (∀ W, Calls Try.prog 12 #[] W fun e w' => e = .returned (.string S) ∧ Below W.heap.size W w') := ⟨fun W => by rw [← hS]; exact static_any W⟩
    have hS68 : S.size = 68 := by rw [← hS]; rfl
    have HS := Kp.mk hS
    have hcv := fun (W : World) => Go.run_bytes_of_string (P := Try.prog) W 9 33 5 S Try.underlying9 Try.underlying33 Try.underlying5
    rw [hS68] at hcv
    clear hS
    go_enter Try.func14, Try.ntmps14
    go_wp2_with (go_at_call 12; refine (Hst.out _).mono ?_; rintro e w1 ⟨rfl, hk⟩; have Hk1 := Kp.mk hk; clear hk)
    have Hown : Kp (Own (w1.drew.alloc (.cells (bytesRow S (grownCap w1 68 0 5)) 5 ((bytesRow S (grownCap w1 68 0 5)).size, (bytesRow S (grownCap w1 68 0 5)).size + 1))) w.heap.size (.slice (some ⟨w1.heap.size, 0, none⟩) 68 (grownCap w1 68 0 5)) stat) := ⟨own_conv w1 w S HS.out.symm Hk1.out.size⟩
    have Hb1 : Kp (Below w.heap.size w (w1.drew.alloc (.cells (bytesRow S (grownCap w1 68 0 5)) 5 ((bytesRow S (grownCap w1 68 0 5)).size, (bytesRow S (grownCap w1 68 0 5)).size + 1)))) := ⟨(Hk1.out.drew).alloc Hk1.out.size _⟩
    clear hcv hS68
    go_loopw [6, 8] (fun v6 v8 wr => ∃ (i fu : Nat) (A : Option Addr) (c : Nat) (K : List UInt8), v6 = .slice A K.length c ∧ v8 = .int .i64 i ∧ i ≤ s.size ∧ Own wr w.heap.size (.slice A K.length c) K ∧ Below w.heap.size w wr ∧ s.size - i < fu ∧ K.length ≤ 65 * i + 68 ∧ 68 ≤ K.length ∧ (K.length : Int) ≤ most + 68 ∧ Kp (unF s.data.toList most fu i K = R)) (fun _ v8 _ => s.size - (intOf v8).toNat)
    case atStart => exact ⟨0, s.size + 1, _, _, stat, rfl, rfl, Nat.zero_le _, Hown.out, Hb1.out, by omega, by rw [stat_len]; omega, by rw [stat_len]; omega, by rw [stat_len]; omega, ⟨by rw [← HR.out, unpack, if_neg (Int.not_lt.2 hneg), Hl.out]⟩⟩
    case round =>
      clear Hown Hb1 Hk1
      obtain ⟨i, fu, A, c, K, rfl, rfl, hi, ho, hbl, hfu, h65, h68, hmost, HF⟩ := hrel
      have Ho := Kp.mk ho
      have Hbl := Kp.mk hbl
      clear ho hbl
      by_cases hlt : i < s.size
      · have hlt' : decide (i < s.size) = true := by simpa using hlt
        obtain ⟨fu, rfl⟩ : ∃ g, fu = g + 1 := ⟨fu - 1, by omega⟩
        obtain ⟨b, hb⟩ : ∃ b, (at_ s.data.toList i).toNat = b := ⟨_, rfl⟩
        have hb255 : b < 256 := by rw [← hb]; exact (at_ s.data.toList i).toNat_lt
        have hby : ((s[i]).toNat : Int) = (b : Int) := by rw [byte_at s i hlt, hb]
        have g0 : (0 : Int) ≤ i := by omega
        have g1 : (i : Int) < s.size := by omega
        have HF1 := HF.out
        rw [unF, if_pos (by rw [Hl.out]; exact hlt), hb, Hl.out] at HF1
        clear hb
        have hw0 : IntKind.i64.wrap ((b : Int)) = (b : Int) := IntWalk.i64_in _ (by omega)
        have hw1 : IntKind.i64.wrap ((i : Int) + b) = (i : Int) + b := IntWalk.i64_in _ (by omega)
        have hw2 : IntKind.i64.wrap ((i : Int) + b + 2) = (i : Int) + b + 2 := IntWalk.i64_in _ (by omega)
        have hw3 : IntKind.i64.wrap ((i : Int) + 3) = (i : Int) + 3 := IntWalk.i64_in _ (by omega)
        have hw4 : IntKind.i64.wrap ((K.length : Int) - 68) = (K.length : Int) - 68 := IntWalk.i64_in _ (by omega)
        have hw5 : IntKind.i64.wrap ((K.length : Int) - 68 + b) = (K.length : Int) - 68 + b := IntWalk.i64_in _ (by omega)
        have hw6 : IntKind.i64.wrap ((K.length : Int) - 68 + b + 1) = (K.length : Int) - 68 + b + 1 := IntWalk.i64_in _ (by omega)
        have hw7 : IntKind.i64.wrap ((K.length : Int) - 68 + b - 124) = (K.length : Int) - 68 + b - 124 := IntWalk.i64_in _ (by omega)
        have hw8 : IntKind.i64.wrap ((b : Int) - 124) = (b : Int) - 124 := IntWalk.i64_in _ (by omega)
        by_cases h255 : b = 255
        · have hq : ((b : Int) == 255) = true := by simp; omega
          rw [if_pos h255] at HF1
          subst HF1
          go_wp2_with fail
          refine bodyPost_ret (results_tmp2 rfl _ _ _) rfl ?_
          exact ⟨rfl, Hbl.out⟩
        · have hq : ((b : Int) == 255) = false := by simp; omega
          rw [if_neg h255] at HF1
          by_cases hc : b ≤ 127
          · have hc1 : decide ((b : Int) < 128) = true := by simp; omega
            rw [if_pos hc] at HF1
            by_cases hsh : s.size < i + (b + 2)
            · have hsh' : decide ((s.size : Int) < (i : Int) + b + 2) = true := by simp; omega
              rw [if_pos hsh] at HF1
              subst HF1
              go_wp2_with fail
              refine bodyPost_ret (results_tmp2 rfl _ _ _) rfl ?_
              exact ⟨rfl, Hbl.out⟩
            · have hsh' : decide ((s.size : Int) < (i : Int) + b + 2) = false := by simp; omega
              rw [if_neg hsh] at HF1
              by_cases hbig : most + 68 < (K.length : Int) + ((b : Int) + 1)
              · have hbig' : decide (most < (K.length : Int) - 68 + b + 1) = true := by simp; omega
                rw [if_pos hbig] at HF1
                subst HF1
                go_wp2_with fail
                refine bodyPost_ret (results_tmp2 rfl _ _ _) rfl ?_
                exact ⟨rfl, Hbl.out⟩
              · have hbig' : decide (most < (K.length : Int) - 68 + b + 1) = false := by simp; omega
                rw [if_neg hbig] at HF1
                obtain ⟨zs, hzs⟩ : ∃ zs, (s.data.toList.drop (i + 1)).take (b + 1) = zs := ⟨_, rfl⟩
                have hzl : zs.length = b + 1 := by rw [← hzs, List.length_take, List.length_drop, Hl.out]; omega
                have Hcut : Kp ((s.extract (i + 1) (i + b + 2)).data.toList = zs) := ⟨by
                  rw [ByteArray.data_extract, Array.toList_extract, ← hzs, List.extract_eq_take_drop, show i + b + 2 - (i + 1) = b + 1 by omega]⟩
                have Hzl := Kp.mk hzl
                rw [hzs] at HF1
                have HF4 := Kp.mk HF1
                have hwi : IntKind.i64.wrap ((i : Int) + 1) = (i : Int) + 1 := IntWalk.i64_in _ (by omega)
                have g2 : (0 : Int) ≤ (i : Int) + 1 := by omega
                have g3 : (i : Int) + 1 ≤ (i : Int) + b + 2 := by omega
                have g4 : (i : Int) + b + 2 ≤ s.size := by omega
                have g5 : ((i : Int) + 1).toNat = i + 1 := by omega
                have g6 : ((i : Int) + b + 2).toNat = i + b + 2 := by omega
                have Hf : Kp (Fit (K.length + zs.length)) := ⟨by
                  have := Hfit.out (K.length + zs.length - 68) (by omega) (by omega)
                  rwa [show K.length + zs.length - 68 + 68 = K.length + zs.length by omega] at this⟩
                have hz1 := Hbl.out.size
                clear HF1 hzs hzl
                go_wp2_with (at_builtin; refine list_str rfl (.tmp 46) (.tmp 54) rfl w.heap.size (.slice A K.length c) K rfl Ho.out (s.extract (i + 1) (i + b + 2)) rfl zs Hcut.out Hf.out hz1 ?_; intro A2 c2 w2 hk2 ho2 _; have Ho2 : Kp (Own w2 w.heap.size (.slice A2 (K.length + zs.length) c2) (K ++ zs)) := ⟨by rw [show K.length + zs.length = (K ++ zs).length by simp]; exact ho2⟩; have Hb2 : Kp (Below w.heap.size w w2) := ⟨Hbl.out.trans hk2⟩; clear hk2 ho2)
                go_roundw
                case measure => simp [intOf]; omega
                case rel =>
                  have hzl := Hzl.out
                  exact ⟨i + b + 2, fu, A2, c2, K ++ zs, by simp, by go_num, by omega, by rw [List.length_append]; exact Ho2.out, Hb2.out, by omega, by rw [List.length_append]; omega, by rw [List.length_append]; omega, by rw [List.length_append]; omega, HF4⟩
          · have hc1 : decide ((b : Int) < 128) = false := by simp; omega
            rw [if_neg hc] at HF1
            by_cases hsh : s.size < i + 3
            · have hsh' : decide ((s.size : Int) < (i : Int) + 3) = true := by simp; omega
              rw [if_pos hsh] at HF1
              subst HF1
              go_wp2_with fail
              refine bodyPost_ret (results_tmp2 rfl _ _ _) rfl ?_
              exact ⟨rfl, Hbl.out⟩
            · have hsh' : decide ((s.size : Int) < (i : Int) + 3) = false := by simp; omega
              rw [if_neg hsh] at HF1
              obtain ⟨x, hx⟩ : ∃ x, (at_ s.data.toList (i + 1)).toNat = x := ⟨_, rfl⟩
              obtain ⟨y, hy⟩ : ∃ y, (at_ s.data.toList (i + 2)).toNat = y := ⟨_, rfl⟩
              have hx255 : x < 256 := by rw [← hx]; exact (at_ s.data.toList (i + 1)).toNat_lt
              have hy255 : y < 256 := by rw [← hy]; exact (at_ s.data.toList (i + 2)).toNat_lt
              have hl1 : i + 1 < s.size := by omega
              have hl2 : i + 2 < s.size := by omega
              have hbx : ((s[i + 1]).toNat : Int) = (x : Int) := by rw [byte_at s _ hl1, hx]
              have hby2 : ((s[i + 2]).toNat : Int) = (y : Int) := by rw [byte_at s _ hl2, hy]
              rw [hx, hy] at HF1
              have g2 : (0 : Int) ≤ (i : Int) + 1 := by omega
              have g3 : (i : Int) + 1 < s.size := by omega
              have g4 : ((i : Int) + 1).toNat = i + 1 := by omega
              have g5 : (0 : Int) ≤ (i : Int) + 2 := by omega
              have g6 : (i : Int) + 2 < s.size := by omega
              have g7 : ((i : Int) + 2).toNat = i + 2 := by omega
              have hwa : IntKind.i64.wrap ((i : Int) + 1) = (i : Int) + 1 := IntWalk.i64_in _ (by omega)
              have hwb : IntKind.i64.wrap ((i : Int) + 2) = (i : Int) + 2 := IntWalk.i64_in _ (by omega)
              have hwc : IntKind.i64.wrap ((x : Int)) = (x : Int) := IntWalk.i64_in _ (by omega)
              have hwd : IntKind.i64.wrap ((y : Int)) = (y : Int) := IntWalk.i64_in _ (by omega)
              have hwe : IntKind.i64.wrap ((x : Int) * 256) = (x : Int) * 256 := IntWalk.i64_in _ (by omega)
              have hwf : IntKind.i64.wrap ((x : Int) * 256 + y) = (x : Int) * 256 + y := IntWalk.i64_in _ (by omega)
              have hwg : IntKind.i64.wrap ((x : Int) * 256 + y + 1) = (x : Int) * 256 + y + 1 := IntWalk.i64_in _ (by omega)
              have HF2 := Kp.mk HF1
              clear HF1 hx hy
              go_wp2_with fail
              go_quiet (fail)
              have HF1 := HF2.out
              clear HF2
              by_cases hf1 : 32768 ≤ x * 256 + y
              · have hb1 : decide (32768 ≤ (x : Int) * 256 + y) = true := by simp; omega
                rw [if_pos (Or.inl hf1)] at HF1
                subst HF1
                go_wp2_with fail
                refine bodyPost_ret (results_tmp2 rfl _ _ _) rfl ?_
                exact ⟨rfl, belowN Hbl.out _⟩
              · have hb1 : decide (32768 ≤ (x : Int) * 256 + y) = false := by simp; omega
                by_cases hf2 : K.length < x * 256 + y + 1
                · have hb2 : decide ((K.length : Int) < (x : Int) * 256 + y + 1) = true := by simp; omega
                  rw [if_pos (Or.inr hf2)] at HF1
                  subst HF1
                  go_wp2_with fail
                  refine bodyPost_ret (results_tmp2 rfl _ _ _) rfl ?_
                  exact ⟨rfl, belowN Hbl.out _⟩
                · have hb2 : decide ((K.length : Int) < (x : Int) * 256 + y + 1) = false := by simp; omega
                  rw [if_neg (by omega)] at HF1
                  by_cases hbig : most + 68 < (K.length : Int) + ((b : Int) - 124)
                  · have hbig' : decide (most < (K.length : Int) - 68 + b - 124) = true := by simp; omega
                    rw [if_pos hbig] at HF1
                    subst HF1
                    go_wp2_with fail
                    refine bodyPost_ret (results_tmp2 rfl _ _ _) rfl ?_
                    exact ⟨rfl, belowN Hbl.out _⟩
                  · have hbig' : decide (most < (K.length : Int) - 68 + b - 124) = false := by simp; omega
                    rw [if_neg hbig] at HF1
                    have HF4 := Kp.mk HF1
                    clear HF1
                    obtain ⟨d, hd⟩ : ∃ d, x * 256 + y = d := ⟨_, rfl⟩
                    rw [hd] at HF4
                    have Hd : Kp (x * 256 + y = d) := ⟨hd⟩
                    have Hmost : Kp (∀ k : Nat, k ≤ b - 124 → Fit (K.length + k)) := ⟨fun k hk => by
                      have := Hfit.out (K.length + k - 68) (by omega) (by omega)
                      rwa [show K.length + k - 68 + 68 = K.length + k by omega] at this⟩
                    clear hd
                    go_wp2_with fail
                    go_loopw [6, 11] (fun v6 v11 w2 => ∃ (k : Nat) (A2 : Option Addr) (c2 : Nat), v6 = .slice A2 (K.length + k) c2 ∧ v11 = .int .i64 k ∧ k ≤ b - 124 ∧ Kp (Own w2 w.heap.size (.slice A2 (K.length + k) c2) (copy K d k)) ∧ Kp (Below w.heap.size w w2)) (fun _ v11 _ => b - 124 - (intOf v11).toNat)
                    case atStart => exact ⟨0, A, c, rfl, rfl, Nat.zero_le _, ⟨own_drewN Ho.out _⟩, ⟨belowN Hbl.out _⟩⟩
                    case round =>
                      obtain ⟨k, A2, c2, rfl, rfl, hk, Ho2, Hb2⟩ := hrel
                      by_cases hkl : k < b - 124
                      · have hkl' : decide ((k : Int) < (b : Int) - 124) = true := by simp; omega
                        obtain ⟨J, hJ⟩ : ∃ J, copy K d k = J := ⟨_, rfl⟩
                        have hJl : J.length = K.length + k := by rw [← hJ, copy_len]
                        have Hnext : Kp (copy K d (k + 1) = J ++ [at_ J (J.length - d - 1)]) := ⟨by rw [copy, hJ]⟩
                        rw [hJ] at Ho2
                        have HJ := Kp.mk hJl
                        rcases Ho2.out with ⟨hv, hx⟩ | ⟨g, c', hv, hgb, hg, h1, h2, h3, h4⟩
                        · rw [hx] at hJl; simp at hJl; omega
                        · simp only [Value.slice.injEq] at hv
                          obtain ⟨rfl, -, rfl⟩ := hv
                          obtain ⟨z, hz⟩ : ∃ z, at_ J (J.length - d - 1) = z := ⟨_, rfl⟩
                          have c0 : wr.cell? ⟨g, K.length + k - (x * 256 + y) - 1, none⟩ = some (.int .u8 z.toNat) := h4 _ _ (by
                            rw [show K.length + k - (x * 256 + y) - 1 = J.length - d - 1 by have := Hd.out; omega, bcells, List.getElem?_map, List.getElem?_eq_getElem (by have := Hd.out; omega), ← hz, at_eq (by have := Hd.out; omega)]
                            simp [hJl])
                          rw [hz] at Hnext
                          have hwi : IntKind.i64.wrap (((K.length + k : Nat) : Int) - ((x : Int) * 256 + y)) = ((K.length + k : Nat) : Int) - ((x : Int) * 256 + y) := IntWalk.i64_in _ (by omega)
                          have hwj : IntKind.i64.wrap (((K.length + k : Nat) : Int) - ((x : Int) * 256 + y) - 1) = ((K.length + k : Nat) : Int) - ((x : Int) * 256 + y) - 1 := IntWalk.i64_in _ (by omega)
                          have i1 : (0 : Int) ≤ ((K.length + k : Nat) : Int) - ((x : Int) * 256 + y) - 1 := by omega
                          have i2 : ((K.length + k : Nat) : Int) - ((x : Int) * 256 + y) - 1 < ((K.length + k : Nat) : Int) := by omega
                          have i3 : (((K.length + k : Nat) : Int) - ((x : Int) * 256 + y) - 1).toNat = K.length + k - (x * 256 + y) - 1 := by omega
                          have hwk : IntKind.i64.wrap ((k : Int) + 1) = (k : Int) + 1 := IntWalk.i64_in _ (by omega)
                          clear hJ hJl h3 h4 hz
                          have HfK := Hmost.out (k + 1) (by omega)
                          have hz0 := Hb2.out.size
                          have Hf1 : Kp (Fit (J.length + [z].length)) := ⟨by rw [HJ.out]; exact HfK⟩
                          clear HfK
                          go_wp2_with (at_builtin; refine list_bytes rfl (.tmp 101) (.tmp 110) rfl w.heap.size (.slice (some ⟨g, 0, none⟩) (K.length + k) c2) J rfl (own_kept Ho2.out ((Below.refl wr.heap.size wr).alloc (Nat.le_refl _) _) (Nat.le_refl _)) ⟨wr.heap.size, 0, none⟩ 1 1 [z] rfl rfl (World.news_of_block (cs := #[.int .u8 z.toNat]) (t := 5) (fr := (0, 0)) (heap_alloc_new wr _)) Hf1.out (by simp; omega) ?_; intro A3 c3 w3 hk3 ho3 _; have Ho3 := Kp.mk ho3; have Hb3 : Kp (Below w.heap.size w w3) := ⟨(Hb2.out.alloc hz0 _).trans hk3⟩; clear hk3 ho3)
                          go_roundw
                          case measure => simp [intOf]; omega
                          case rel => exact ⟨k + 1, A3, c3, by have := HJ.out; simp; omega, by go_num, by omega, ⟨by rw [Hnext.out, show K.length + (k + 1) = (J ++ [z]).length by simp [HJ.out]; omega]; exact Ho3.out⟩, Hb3⟩
                      · have hkl' : decide ((k : Int) < (b : Int) - 124) = false := by simp; omega
                        have hkb : k = b - 124 := by omega
                        have HF5 : Kp (unF s.data.toList most fu (i + 3) (copy K d k) = R) := ⟨by rw [hkb]; exact HF4.out⟩
                        go_wp2_with fail
                        go_roundw
                        case measure => simp [intOf]; omega
                        case rel => exact ⟨i + 3, fu, A2, c2, copy K d k, by rw [copy_len], by go_num, by omega, by rw [copy_len]; exact Ho2.out, Hb2.out, by omega, by rw [copy_len]; omega, by rw [copy_len]; omega, by rw [copy_len]; omega, HF5⟩
      · have hlt' : decide (i < s.size) = false := by simpa using hlt
        obtain ⟨fu, rfl⟩ : ∃ g, fu = g + 1 := ⟨fu - 1, by omega⟩
        have hr : R = (K.drop 68, 0) := by rw [← HF.out, unF, if_neg (by rw [Hl.out]; exact hlt)]
        subst hr
        rcases Ho.out with ⟨hv, hx⟩ | ⟨g, c', hv, hb, hg, h1, h2, h3, h4⟩
        · rw [hx] at h68; simp at h68
        · simp only [Value.slice.injEq, true_and] at hv
          obtain ⟨rfl, rfl⟩ := hv
          have hcv := own_str_from (w := wr) (g := g) (n := K.length - 68) (c := c - 68) (k := 68) (xs := K) (by omega) h4
          have g1 : 68 ≤ K.length := h68
          have g2 : K.length ≤ c := h1
          have hcv2 : c = 68 → (convert 33 9 (.slice (some ⟨g, 0, none⟩) (K.length - 68) 0)).run Try.prog wr = .ok (.string (strOf (K.drop 68))) wr := fun hc => by
            have hk : K.length = 68 := by omega
            have := own_str_from (w := wr) (g := g) (n := 0) (c := 0) (k := 0) (xs := []) rfl (fun j u hu => by simp [bcells] at hu)
            rw [hk, List.drop_of_length_le (by omega)]
            exact this
          have Hb := Kp.mk Hbl.out
          by_cases hc : c = 68
          · have hcv3 := hcv2 hc
            subst hc
            have hk : K.length = 68 := by omega
            clear hcv hcv2 g1 g2
            rw [hk] at hcv3
            simp only [Nat.sub_self] at hcv3
            go_wp2_with fail
            refine bodyPost_ret (results_tmp2 rfl _ _ _) rfl ?_
            exact ⟨rfl, Hb.out⟩
          · clear hcv2
            go_wp2_with fail
            refine bodyPost_ret (results_tmp2 rfl _ _ _) rfl ?_
            exact ⟨rfl, Hb.out⟩
end Go.Proofs.Ythahflokacgjjaa.WinP
