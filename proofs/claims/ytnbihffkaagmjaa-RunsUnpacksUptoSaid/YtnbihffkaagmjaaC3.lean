/-
  The closure of Pack: a stretch is written.
-/
import Derived.Test.YtnbihffkaagmjaaC2
import Derived.Test.YtnbihffkaagmjaaM2
namespace Go.Proofs.Ytnbihffkaagmjaa.RunsP
open Go.RowKit Go.RunLaws Go.Proofs.Ytnbihffkaagmjaa.Pl
set_option linter.unusedVariables false

/-- the three variables of Pack, as they lie -/
structure Bx (b : Nat) (s : ByteArray) (f : Nat) (v : Value) (w : World) : Prop where
  r0 : w.heap[b]? = some (.cells #[.string s] 9 (0, 0))
  r1 : w.heap[b + 1]? = some (.cells #[v] 30 (0, 0))
  r2 : w.heap[b + 2]? = some (.cells #[.int .i64 f] 3 (0, 0))

namespace Bx
variable {b : Nat} {s : ByteArray} {f : Nat} {v : Value} {w w' : World}
theorem below (h : Bx b s f v w) (k : Below (b + 3) w w') : Bx b s f v w' :=
  ⟨(k.block _ (by omega)).trans h.r0, (k.block _ (by omega)).trans h.r1, (k.block _ (by omega)).trans h.r2⟩
theorem size (h : Bx b s f v w) : b + 3 ≤ w.heap.size := lt_of_block h.r2
theorem c0 (h : Bx b s f v w) : w.cell? ⟨b, 0, none⟩ = some (.string s) := by rw [cell_of_row w _ 0 _ _ _ h.r0]; rfl
theorem c1 (h : Bx b s f v w) : w.cell? ⟨b + 1, 0, none⟩ = some v := by rw [cell_of_row w _ 0 _ _ _ h.r1]; rfl
theorem c2 (h : Bx b s f v w) : w.cell? ⟨b + 2, 0, none⟩ = some (.int .i64 f) := by rw [cell_of_row w _ 0 _ _ _ h.r2]; rfl
theorem f1 (h : Bx b s f v w) : w.frozen? ⟨b + 1, 0, none⟩ = false := frozen_of_row w _ _ _ _ h.r1
theorem f2 (h : Bx b s f v w) : w.frozen? ⟨b + 2, 0, none⟩ = false := frozen_of_row w _ _ _ _ h.r2
theorem setOut (h : Bx b s f v w) (u : Value) : Bx b s f u (w.setCell ⟨b + 1, 0, none⟩ u) :=
  ⟨(Below.heap_setCell _ _ _ _ (by simp)).trans h.r0, Go.heap_setCell_same _ _ _ _ _ _ h.r1, (Below.heap_setCell _ _ _ _ (by simp)).trans h.r2⟩
theorem setFrom (h : Bx b s f v w) (t : Nat) : Bx b s t v (w.setCell ⟨b + 2, 0, none⟩ (.int .i64 t)) :=
  ⟨(Below.heap_setCell _ _ _ _ (by simp)).trans h.r0, (Below.heap_setCell _ _ _ _ (by simp)).trans h.r1, Go.heap_setCell_same _ _ _ _ _ _ h.r2⟩
end Bx

theorem _root_.Go.RowKit.Below.of3 {b : Nat} {w w' : World} (h : Below (b + 3) w w') : Below b w w' := h.mono (by omega)

theorem cut_bytes (s : ByteArray) (f t : Nat) (h : t ≤ s.size) : (s.extract f t).data.toList = (s.data.toList.drop f).take (t - f) := by
  rw [ByteArray.data_extract, Array.toList_extract]

set_option maxRecDepth 100000 in
set_option maxHeartbeats 8000000 in
theorem clos_any (b : Nat) (s : ByteArray) (f to : Nat) (v : Value) (xs : List UInt8) (w : World) (hb : Bx b s f v w) (ho : Own w (b + 3) v xs) (hft : f ≤ to) (hts : to ≤ s.size) (h128 : to - f ≤ 128)
    (hs : s.size ≤ 281474976710656) (hfit : Fit (xs.length + (to - f + 1))) :
    Calls Try.prog 13 #[.int .i64 to, .pointer (some ⟨b + 2, 0, none⟩), .pointer (some ⟨b + 1, 0, none⟩), .pointer (some ⟨b, 0, none⟩)] w fun e w' => e = .returned (.tuple #[]) ∧ ∃ v', Bx b s to v' w' ∧ Own w' (b + 3) v' (xs ++ stretch s.data.toList f to) ∧ Below b w w' := by
  have Hl : Kp (s.data.toList.length = s.size) := ⟨by rw [Array.length_toList]; rfl⟩
  have Hb := Kp.mk hb
  have Ho := Kp.mk ho
  have c0 := hb.c0
  have c1 := hb.c1
  have c2 := hb.c2
  have f1 := hb.f1
  have f2 := hb.f2
  have hsz := hb.size
  have Hfit := Kp.mk hfit
  clear hb ho hfit
  by_cases hlt : f < to
  · have hlt' : decide (f < to) = true := by simpa using hlt
    have hw1 : IntKind.i64.wrap ((to : Int) - f) = (to : Int) - f := IntWalk.i64_in _ (by omega)
    have hw2 : IntKind.i64.wrap ((to : Int) - f - 1) = (to : Int) - f - 1 := IntWalk.i64_in _ (by omega)
    have Hst : Kp (xs ++ stretch s.data.toList f to = (xs ++ [UInt8.ofNat (to - f - 1)]) ++ (s.data.toList.drop f).take (to - f)) := ⟨by unfold stretch; rw [if_pos hlt]; simp⟩
    obtain ⟨q, hq⟩ : ∃ q, UInt8.ofNat (to - f - 1) = q := ⟨_, rfl⟩
    have hq2 : IntKind.u8.wrap ((to : Int) - f - 1) = (q.toNat : Int) := by
      rw [← hq, UInt8.toNat_ofNat', show (to : Int) - f - 1 = ((to - f - 1 : Nat) : Int) by omega]
      have e : (IntKind.u8.wrap ((to - f - 1 : Nat) : Int)) = ((to - f - 1 : Nat) : Int) := by
        unfold IntKind.wrap
        simp only [IntKind.bits, IntKind.signed]
        simp
        omega
      rw [e]
      omega
    rw [hq] at Hst
    go_enter Try.func13, Try.ntmps13
    go_wp2_with fail
    have s1 : Fit (xs.length + [q].length) := by have := Hfit.out; unfold Fit at this ⊢; simp only [List.length_cons, List.length_nil]; omega
    have S1 := Kp.mk s1
    have s2 : Fit ((xs ++ [q]).length + ((s.data.toList.drop f).take (to - f)).length) := by
      have := Hfit.out
      unfold Fit at this ⊢
      rw [List.length_append, List.length_take, List.length_drop, Hl.out]
      simp only [List.length_cons, List.length_nil]
      rw [Nat.min_eq_left (by omega)]
      omega
    have S2 := Kp.mk s2
    obtain ⟨zs, hzs⟩ : ∃ zs, (s.data.toList.drop f).take (to - f) = zs := ⟨_, rfl⟩
    have Hcut : Kp ((s.extract f to).data.toList = zs) := ⟨by rw [cut_bytes s f to hts, hzs]⟩
    rw [hzs] at S2 Hst
    clear s1 s2 hq hzs
    have g0 : (0 : Int) ≤ f := by omega
    have g1 : (f : Int) ≤ to := by omega
    have g2 : (to : Int) ≤ s.size := by omega
    have hBa : Bx b s f v (w.alloc (.cells #[.int .u8 q.toNat] 5)) := Hb.out.below ((Below.refl (b + 3) w).alloc hsz _)
    have k0 := hBa.c0
    have k1 := hBa.c1
    have k2 := hBa.c2
    clear hBa
    go_region_law ((first
      | (refine step_bytes (by rfl) (.tmp 8) (.tmp 14) (by rfl) (b + 3) v xs (by rfl) (Ho.out.drew.alloc _) ⟨w.heap.size, 0, none⟩ 1 1 [q] (by rfl) (by rfl) (World.news_of_block (cs := #[.int .u8 q.toNat]) (t := 5) (fr := (0, 0)) (heap_alloc_new w.drew _)) S1.out (by simp <;> omega) ?_
         intro A1 c1' w1 hk1 ho1
         have hB1 : Bx b s f v w1 := (Hb.out.below (((Below.refl (b + 3) w).drew.alloc (by simp <;> omega) _).trans hk1))
         have d0 := hB1.c0
         have d1 := hB1.c1
         have d2 := hB1.c2
         have e1 := hB1.f1
         have e2 := hB1.f2
         have HB1 := Kp.mk hB1
         have Ho1 : Kp (Own w1 (b + 3) (.slice A1 (xs.length + 1) c1') (xs ++ [q])) := ⟨by rw [show xs.length + 1 = (xs ++ [q]).length by simp]; exact ho1⟩
         have Hk1 : Kp (Below b w w1) := ⟨(((Below.refl (b + 3) w).drew.alloc (by simp <;> omega) _).trans hk1).of3⟩
         clear hB1 hk1 ho1)
      | (refine step_str (by rfl) (.tmp 15) (.tmp 19) (by rfl) (b + 3) (.slice A1 (xs.length + 1) c1') (xs ++ [q]) (by rfl) Ho1.out (s.extract f to) (by rfl) zs Hcut.out S2.out HB1.out.size ?_
         intro A2 c2' w2 hk2 ho2
         have hB2 : Bx b s f v w2 := HB1.out.below hk2
         have d0 := hB2.c0
         have d1 := hB2.c1
         have d2 := hB2.c2
         have e1 := hB2.f1
         have e2 := hB2.f2
         have HB2 := Kp.mk hB2
         have Ho2 : Kp (Own w2 (b + 3) (.slice A2 (xs.length + (zs.length + 1)) c2') (xs ++ [q] ++ zs)) := ⟨by rw [show xs.length + (zs.length + 1) = (xs ++ [q] ++ zs).length by simp]; exact ho2⟩
         have Hk2 : Kp (Below b w w2) := ⟨Hk1.out.trans (hk2.of3)⟩
         clear hB2 hk2 ho2) | fail "neither"))
    all_goals go_wp2_with fail
    all_goals refine bodyPost_end (v := .tuple #[]) (by simp [results, Try.f13, go_sem]) rfl ?_
    all_goals exact ⟨rfl, _, (HB2.out.setOut _).setFrom to, by
      rw [Hst.out]
      exact ownsRow_setCell_below (a := ⟨b + 2, 0, none⟩) (ownsRow_setCell_below (a := ⟨b + 1, 0, none⟩) Ho2.out (Nat.lt_succ_of_lt (Nat.lt_succ_self _)) _) (Nat.lt_succ_self _) _, Below.setCell (p := ⟨b + 2, 0, none⟩) (Below.setCell (p := ⟨b + 1, 0, none⟩) Hk2.out (Nat.le_add_right _ _) _) (Nat.le_add_right _ _) _⟩
  · have hlt' : decide (f < to) = false := by simpa using hlt
    have hft' : f = to := by omega
    subst hft'
    have Hst : Kp (xs ++ stretch s.data.toList f f = xs) := ⟨by unfold stretch; rw [if_neg hlt]; simp⟩
    clear hlt
    go_enter Try.func13, Try.ntmps13
    go_wp2_with fail
    refine bodyPost_end (v := .tuple #[]) (by simp [results, Try.f13, go_sem]) rfl ?_
    exact ⟨rfl, v, Hb.out, by rw [Hst.out]; exact Ho.out, Below.refl _ _⟩

end Go.Proofs.Ytnbihffkaagmjaa.RunsP
