/-
  R06.Unpack.
-/
import Derived.Test.YtnbihffkaagmjaaC4
namespace Go.Proofs.Ytnbihffkaagmjaa.RunsP
open Go.RowKit Go.RunLaws Go.Proofs.Ytnbihffkaagmjaa.Pl
set_option linter.unusedVariables false

/-- '[]byte{}' -/
theorem owns_empty (w : World) : Own (w.alloc (.cells #[] 5)) w.heap.size (.slice (some ⟨w.heap.size, 0, none⟩) 0 0) [] :=
  ⟨rfl, .inr ⟨w.heap.size, 0, #[], rfl, Nat.le_refl _, heap_alloc_new w _, Nat.le_refl _, Nat.zero_le _, rfl, rfl⟩⟩

set_option maxRecDepth 100000 in
set_option maxHeartbeats 8000000 in
theorem unpack_ref (s : ByteArray) (most : Int) (w : World) (hs : s.size ≤ 1125899906842624) (hm1 : -9223372036854775808 ≤ most) (hm2 : most ≤ 9223372036854775807)
    (hfit : ∀ n : Nat, (n : Int) ≤ most → n ≤ 65 * s.size → Fit n) :
    Calls Try.prog 12 #[.string s, .int .i64 most] w fun e w' => e = .returned (.tuple #[.string (strOf (unpack s.data.toList most).1), .int .i64 (unpack s.data.toList most).2]) ∧ Below w.heap.size w w' := by
  have Hl : Kp (s.data.toList.length = s.size) := ⟨by rw [Array.length_toList]; rfl⟩
  have Hfit := Kp.mk hfit
  clear hfit
  obtain ⟨R, hR⟩ : ∃ R, unpack s.data.toList most = R := ⟨_, rfl⟩
  have HR := Kp.mk hR
  rw [hR]
  clear hR
  by_cases hneg : most < 0
  · have hneg' : decide (most < 0) = true := by simpa using hneg
    have hr : R = ([], 2) := by rw [← HR.out, unpack, if_pos hneg]
    subst hr
    go_enter Try.func12, Try.ntmps12
    go_wp2_with fail
    refine bodyPost_ret (results_tmp2 rfl _ _ _) rfl ?_
    exact ⟨rfl, Below.refl _ _⟩
  · have hneg' : decide (most < 0) = false := by simpa using hneg
    have Hem := Kp.mk (owns_empty w)
    go_enter Try.func12, Try.ntmps12
    go_wp2_with fail
    go_loopw [6, 7] (fun v6 v7 wr => ∃ (i fu : Nat) (A : Option Addr) (c : Nat) (out : List UInt8), v6 = .slice A out.length c ∧ v7 = .int .i64 i ∧ i ≤ s.size ∧ Own wr w.heap.size (.slice A out.length c) out ∧ Below w.heap.size w wr ∧ s.size - i < fu ∧ out.length ≤ 65 * i ∧ (out.length : Int) ≤ most ∧ Kp (unF s.data.toList most fu i out = R)) (fun _ v7 _ => s.size - (intOf v7).toNat)
    case atStart => exact ⟨0, s.size + 1, _, 0, [], rfl, rfl, Nat.zero_le _, Hem.out, (Below.refl _ _).alloc (Nat.le_refl _) _, by omega, Nat.zero_le _, by simpa using hneg, ⟨by rw [← HR.out, unpack, if_neg (Int.not_lt.2 hneg), Hl.out]⟩⟩
    case round =>
      obtain ⟨i, fu, A, c, out, rfl, rfl, hi, ho, hbl, hfu, h65, hmost, HF⟩ := hrel
      have Ho := Kp.mk ho
      have Hbl := Kp.mk hbl
      clear ho hbl
      by_cases hlt : i < s.size
      · have hlt' : decide (i < s.size) = true := by simpa using hlt
        obtain ⟨fu, rfl⟩ : ∃ g, fu = g + 1 := ⟨fu - 1, by omega⟩
        obtain ⟨b, hb⟩ : ∃ b, (at_ s.data.toList i).toNat = b := ⟨_, rfl⟩
        have hb255 : b < 256 := by rw [← hb]; exact (at_ s.data.toList i).toNat_lt
        have hby : ((s[i]).toNat : Int) = (b : Int) := by rw [byte_at s i hlt, hb]
        have g0 : (0 : Int) ≤ i := by omega
        have g1 : (i : Int) < s.size := by omega
        have HF1 := HF.out
        rw [unF, if_pos (by rw [Hl.out]; exact hlt), hb, Hl.out] at HF1
        clear hb
        have hw0 : IntKind.i64.wrap ((b : Int)) = (b : Int) := IntWalk.i64_in _ (by omega)
        have hw1 : IntKind.i64.wrap ((i : Int) + 1) = (i : Int) + 1 := IntWalk.i64_in _ (by omega)
        have ho48 : out.length ≤ 65 * s.size := by omega
        by_cases hc : b ≤ 127
        · have hc1 : decide ((b : Int) < 128) = true := by simp; omega
          have HF3 := HF1
          clear HF1
          rw [if_pos hc] at HF3
          have hw2 : IntKind.i64.wrap ((i : Int) + 1 + b) = (i : Int) + 1 + b := IntWalk.i64_in _ (by omega)
          have hw3 : IntKind.i64.wrap ((i : Int) + 1 + b + 1) = (i : Int) + 1 + b + 1 := IntWalk.i64_in _ (by omega)
          have hw4 : IntKind.i64.wrap ((out.length : Int) + b) = (out.length : Int) + b := IntWalk.i64_in _ (by omega)
          have hw5 : IntKind.i64.wrap ((out.length : Int) + b + 1) = (out.length : Int) + b + 1 := IntWalk.i64_in _ (by omega)
          have hw6 : IntKind.i64.wrap ((i : Int) + b) = (i : Int) + b := IntWalk.i64_in _ (by omega)
          have hw7 : IntKind.i64.wrap ((i : Int) + b + 2) = (i : Int) + b + 2 := IntWalk.i64_in _ (by omega)
          by_cases hsh : s.size < i + 1 + (b + 1)
          · have hsh' : decide ((s.size : Int) < (i : Int) + 1 + b + 1) = true := by simp; omega
            rw [if_pos hsh] at HF3
            subst HF3
            go_wp2_with fail
            refine bodyPost_ret (results_tmp2 rfl _ _ _) rfl ?_
            exact ⟨rfl, Hbl.out⟩
          · have hsh' : decide ((s.size : Int) < (i : Int) + 1 + b + 1) = false := by simp; omega
            rw [if_neg hsh] at HF3
            by_cases hbig : most < (out.length : Int) + ((b : Int) + 1)
            · have hbig' : decide (most < (out.length : Int) + b + 1) = true := by simp; omega
              rw [if_pos hbig] at HF3
              subst HF3
              go_wp2_with fail
              refine bodyPost_ret (results_tmp2 rfl _ _ _) rfl ?_
              exact ⟨rfl, Hbl.out⟩
            · have hbig' : decide (most < (out.length : Int) + b + 1) = false := by simp; omega
              rw [if_neg hbig] at HF3
              obtain ⟨zs, hzs⟩ : ∃ zs, (s.data.toList.drop (i + 1)).take (b + 1) = zs := ⟨_, rfl⟩
              have hzl : zs.length = b + 1 := by rw [← hzs, List.length_take, List.length_drop, Hl.out]; omega
              have Hcut : Kp ((s.extract (i + 1) (i + b + 2)).data.toList = zs) := ⟨by
                rw [ByteArray.data_extract, Array.toList_extract, ← hzs, List.extract_eq_take_drop, show i + b + 2 - (i + 1) = b + 1 by omega]⟩
              have Hzl := Kp.mk hzl
              rw [hzs] at HF3
              have HF4 := Kp.mk HF3
              have g2 : (0 : Int) ≤ (i : Int) + 1 := by omega
              have g3 : (i : Int) + 1 ≤ (i : Int) + b + 2 := by omega
              have g4 : (i : Int) + b + 2 ≤ s.size := by omega
              have g5 : ((i : Int) + 1).toNat = i + 1 := by omega
              have g6 : ((i : Int) + b + 2).toNat = i + b + 2 := by omega
              have Hf : Kp (Fit (out.length + zs.length)) := ⟨Hfit.out _ (by omega) (by omega)⟩
              have hz1 := Hbl.out.size
              clear HF3 hzs hzl
              go_wp2_with (at_builtin; refine list_str rfl (.tmp 38) (.tmp 46) rfl w.heap.size (.slice A out.length c) out rfl Ho.out (s.extract (i + 1) (i + b + 2)) rfl zs Hcut.out Hf.out hz1 ?_; intro A2 c2 w2 hk2 ho2; have Ho2 : Kp (Own w2 w.heap.size (.slice A2 (out.length + zs.length) c2) (out ++ zs)) := ⟨by rw [show out.length + zs.length = (out ++ zs).length by simp]; exact ho2⟩; have Hb2 : Kp (Below w.heap.size w w2) := ⟨Hbl.out.trans hk2⟩; clear hk2 ho2)
              go_roundw
              case measure => simp [intOf]; omega
              case rel =>
                have hzl := Hzl.out
                exact ⟨i + b + 2, fu, A2, c2, out ++ zs, by simp, by go_num, by omega, by rw [List.length_append]; exact Ho2.out, Hb2.out, by omega, by rw [List.length_append]; omega, by rw [List.length_append]; omega, HF4⟩
        · have hc1 : decide ((b : Int) < 128) = false := by simp; omega
          have HF3 := HF1
          clear HF1
          have hw2 : IntKind.i64.wrap ((out.length : Int) + b) = (out.length : Int) + b := IntWalk.i64_in _ (by omega)
          have hw3 : IntKind.i64.wrap ((out.length : Int) + b - 125) = (out.length : Int) + b - 125 := IntWalk.i64_in _ (by omega)
          have hw5 : IntKind.i64.wrap ((b : Int) - 125) = (b : Int) - 125 := IntWalk.i64_in _ (by omega)
          have hw7 : IntKind.i64.wrap ((i : Int) + 2) = (i : Int) + 2 := IntWalk.i64_in _ (by omega)
          rw [if_neg hc] at HF3
          by_cases hsh : s.size < i + 2
          · have hsh' : decide ((s.size : Int) ≤ (i : Int) + 1) = true := by simp; omega
            rw [if_pos hsh] at HF3
            subst HF3
            go_wp2_with fail
            refine bodyPost_ret (results_tmp2 rfl _ _ _) rfl ?_
            exact ⟨rfl, Hbl.out⟩
          · have hsh' : decide ((s.size : Int) ≤ (i : Int) + 1) = false := by simp; omega
            rw [if_neg hsh] at HF3
            by_cases hbig : most < (out.length : Int) + ((b : Int) - 125)
            · have hbig' : decide (most < (out.length : Int) + b - 125) = true := by simp; omega
              rw [if_pos hbig] at HF3
              subst HF3
              go_wp2_with fail
              refine bodyPost_ret (results_tmp2 rfl _ _ _) rfl ?_
              exact ⟨rfl, Hbl.out⟩
            · have hbig' : decide (most < (out.length : Int) + b - 125) = false := by simp; omega
              rw [if_neg hbig] at HF3
              have HF4 := Kp.mk HF3
              clear HF3
              go_wp2_with fail
              obtain ⟨x, hx⟩ : ∃ x, at_ s.data.toList (i + 1) = x := ⟨_, rfl⟩
              have hlt2 : i + 1 < s.size := by omega
              have hby2 : ((s[i + 1]).toNat : Int) = (x.toNat : Int) := by rw [byte_at s _ hlt2, hx]
              rw [hx] at HF4
              have g2 : (0 : Int) ≤ (i : Int) + 1 := by omega
              have g3 : (i : Int) + 1 < s.size := by omega
              have g4 : ((i : Int) + 1).toNat = i + 1 := by omega
              clear hx
              go_loopw [6, 9] (fun v6 v54 w1 => ∃ (k : Nat) (A1 : Option Addr) (c1 : Nat) (o : List UInt8), v6 = .slice A1 o.length c1 ∧ v54 = .int .i64 k ∧ k ≤ b - 125 ∧ Kp (o = out ++ List.replicate k x) ∧ Kp (o.length = out.length + k) ∧ Own w1 w.heap.size (.slice A1 o.length c1) o ∧ Below w.heap.size w w1) (fun _ v54 _ => b - (intOf v54).toNat)
              case atStart => exact ⟨0, A, c, out, rfl, rfl, Nat.zero_le _, ⟨by simp⟩, ⟨rfl⟩, Ho.out, Hbl.out⟩
              case round =>
                obtain ⟨k, A1, c1, o, rfl, rfl, hk, HO, Hol, ho1, hb1⟩ := hrel
                have Ho1 := Kp.mk ho1
                have Hb1 := Kp.mk hb1
                have hz1 := hb1.size
                clear ho1 hb1
                by_cases hkl : k < b - 125
                · have hkl' : decide ((k : Int) < (b : Int) - 125) = true := by simp; omega
                  have hwk : IntKind.i64.wrap ((k : Int) + 1) = (k : Int) + 1 := IntWalk.i64_in _ (by omega)
                  have Hf : Kp (Fit (o.length + [x].length)) := ⟨by have hol := Hol.out; exact Hfit.out _ (by simp only [List.length_cons, List.length_nil]; omega) (by simp only [List.length_cons, List.length_nil]; omega)⟩
                  go_wp2_with (at_builtin; refine list_bytes rfl (.tmp 70) (.tmp 75) rfl w.heap.size (.slice A1 o.length c1) o rfl (Ho1.out.alloc _) ⟨wr.heap.size, 0, none⟩ 1 1 [x] rfl rfl (World.news_of_block (cs := #[.int .u8 x.toNat]) (t := 5) (fr := (0, 0)) (heap_alloc_new wr _)) Hf.out (by simp <;> omega) ?_; intro A2 c2 w2 hk2 ho2; have Ho2 : Kp (Own w2 w.heap.size (.slice A2 (o.length + 1) c2) (o ++ [x])) := ⟨by rw [show o.length + 1 = (o ++ [x]).length by simp]; exact ho2⟩; have Hb2 : Kp (Below w.heap.size w w2) := ⟨(Hb1.out.alloc hz1 _).trans hk2⟩; clear hk2 ho2)
                  go_roundw
                  case measure => simp [intOf]; omega
                  case rel => exact ⟨k + 1, A2, c2, o ++ [x], by simp, by go_num, by omega, ⟨by rw [HO.out, List.append_assoc, List.replicate_succ']⟩, ⟨by simp [Hol.out]; omega⟩, by rw [show (o ++ [x]).length = o.length + 1 by simp]; exact Ho2.out, Hb2.out⟩
                · have hkl' : decide ((k : Int) < (b : Int) - 125) = false := by simp; omega
                  have hkb : k = b - 125 := by omega
                  have HF5 : Kp (unF s.data.toList most fu (i + 2) o = R) := ⟨by rw [HO.out, hkb]; exact HF4.out⟩
                  clear hkb
                  go_wp2_with fail
                  go_roundw
                  case measure => simp [intOf]; omega
                  case rel =>
                    have hol := Hol.out
                    exact ⟨i + 2, fu, A1, c1, o, rfl, by go_num, by omega, Ho1.out, Hb1.out, by omega, by omega, by omega, HF5⟩
      · have hlt' : decide (i < s.size) = false := by simpa using hlt
        obtain ⟨fu, rfl⟩ : ∃ g, fu = g + 1 := ⟨fu - 1, by omega⟩
        have hr : R = (out, 0) := by rw [← HF.out, unF, if_neg (by rw [Hl.out]; exact hlt)]
        subst hr
        have hcv := own_str Ho.out
        go_wp2_with fail
        refine bodyPost_ret (results_tmp2 rfl _ _ _) rfl ?_
        exact ⟨rfl, Hbl.out⟩
end Go.Proofs.Ytnbihffkaagmjaa.RunsP
