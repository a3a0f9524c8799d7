/-
  The closure of Pack that notes a place.
-/
import Derived.Test.YthahflokacgjjaaG
namespace Go.Proofs.Ythahflokacgjjaa.WinP
open Go.RowKit Go.WinLaws Go.Maps Go.Proofs.Ythahflokacgjjaa.Pl
set_option linter.unusedVariables false

theorem cut_bytes (s : ByteArray) (f t : Nat) : (s.extract f t).data.toList = (s.data.toList.drop f).take (t - f) := by
  rw [ByteArray.data_extract, Array.toList_extract, List.extract_eq_take_drop]

theorem note_end {w wA w1 w2 : World} {B : Nat} {s : ByteArray} {n : Nat} {hd : List UInt8 → Value} {zs : List UInt8 → List Int} {a : Nat} {k0 : List UInt8} {v0 v1 : Value} (hk : (s.extract a (a + 4)).data.toList = k0) (hv : hd k0 = v0) (hlt : a + 4 ≤ s.data.toList.length)
    (hA : Mp wA B s n hd zs) (hN : Nt w wA (B + 1) hd hd) (HO : w1.ownsRow (B + 3) 3 1 v1 ((zs k0).length + 1) (ints (zs k0) ++ [.int .i64 a])) (HG : wA.grownBy w1 v0.ownBlock) (HL : v1.ownBlock = v0.ownBlock ∨ v1.ownBlock = some wA.heap.size)
    (HS2 : Stood w2 (B + 1) (n + 1) (fun k => if k = (s.extract a (a + 4)).data.toList then v1 else hd k)) (HG2 : w1.grownBy w2 (some (B + 1))) :
    ∃ hd', Mp w2 B s (n + 1) hd' (noted s.data.toList a zs) ∧ Nt w w2 (B + 1) hd hd' := by
  subst hv
  rw [hk] at HS2
  have hz := hA.size
  obtain ⟨h1, h2⟩ := hA.g.turn (by omega) k0 v1 a HO HG (HL.imp id (fun e => ⟨_, e, Nat.le_refl _⟩)) HS2 HG2
  have hb := h2.below (B := B + 1) (Nat.le_refl _) (fun k g e => by have := ((hA.g.own k).lt g e).1; omega) (by omega)
  have e : noted s.data.toList a zs = fun k => if k = k0 then zs k ++ [(a : Int)] else zs k := by
    rw [noted, if_pos hlt, ← hk, cut_bytes, show a + 4 - a = 4 by omega]
  refine ⟨_, ⟨(hb.block B (by omega)).trans hA.k0, ?_, by rw [e]; exact h1⟩, hN.trans h2⟩
  exact (h2.block (B + 2) (by omega) (by omega) (fun k e => by have := ((hA.g.own k).lt _ e).1; omega)).trans hA.k2

theorem nt_alloc (w : World) (o : Obj) (b : Nat) (hd : List UInt8 → Value) : Nt w (w.alloc o).drew b hd hd :=
  ⟨rfl, rfl, rfl, by show _ ≤ (w.alloc o).heap.size; simp, fun i hi _ _ => heap_alloc_old w o hi, fun _ => .inl rfl⟩

set_option maxRecDepth 100000 in
set_option maxHeartbeats 8000000 in
theorem note_any (B : Nat) (s : ByteArray) (n : Nat) (hd : List UInt8 → Value) (zs : List UInt8 → List Int) (a : Nat) (w : World) (hM : Mp w B s n hd zs) (ha : a ≤ s.size) (hs : s.size ≤ 1073741824) (hn : n ≤ 1073741823) :
    Calls Try.prog 15 #[.int .i64 a, .pointer (some ⟨B, 0, none⟩), .pointer (some ⟨B + 2, 0, none⟩)] w fun e w' => e = .returned (.tuple #[]) ∧ ∃ hd', Mp w' B s (n + 1) hd' (noted s.data.toList a zs) ∧ Nt w w' (B + 1) hd hd' := by
  have Hl : Kp (s.data.toList.length = s.size) := ⟨by rw [Array.length_toList]; rfl⟩
  have HM := Kp.mk hM
  have c0 := hM.c0
  have c2 := hM.c2
  have hsz := hM.size
  clear hM
  have hw1 : IntKind.i64.wrap ((a : Int) + 4) = (a : Int) + 4 := IntWalk.i64_in _ (by omega)
  by_cases hlt : a + 4 ≤ s.size
  · have hlt' : decide ((a : Int) + 4 ≤ s.size) = true := by simp; omega
    have g0 : (0 : Int) ≤ a := by omega
    have g1 : (a : Int) ≤ (a : Int) + 4 := by omega
    have g2 : (a : Int) + 4 ≤ s.size := by omega
    have g3 : ((a : Int) + 4).toNat = a + 4 := by omega
    obtain ⟨k0, hk0⟩ : ∃ k0, (s.extract a (a + 4)).data.toList = k0 := ⟨_, rfl⟩
    have Hk0 := Kp.mk hk0
    obtain ⟨v0, hv0⟩ : ∃ v0, hd k0 = v0 := ⟨_, rfl⟩
    have Hv0 : Kp (hd (s.extract a (a + 4)).data.toList = v0) := ⟨by rw [hk0]; exact hv0⟩
    have Hv1 := Kp.mk hv0
    have hrow := HM.out.g.own k0
    rw [hv0] at hrow
    have Hrow := Kp.mk hrow
    have Hxs : Kp ((s.extract a (a + 4)).size ≤ maxLen) := ⟨by rw [ByteArray.size_extract]; unfold maxLen; omega⟩
    have Hst := Kp.mk HM.out.g.st
    have hlen := HM.out.g.len k0
    have Ha := HM.out.alloc (.cells #[.int .i64 a] 3)
    have Hsta := Kp.mk Ha.g.st
    have k2 := Ha.c2
    clear Ha hk0 hv0 hrow
    go_enter Try.func15, Try.ntmps15
    go_wp2_with fail
    have lk1 : (Instr.lookup 30 (.map (some (B + 1))) (.string (s.extract a (a + 4))) false).run Try.prog w.drew = .ok v0 w.drew := by
      have := (Hst.out.of_block (w' := w.drew) rfl).lookup (s.extract a (a + 4)) Hxs.out
      rw [Hv0.out] at this
      exact this
    have lk2 : (Instr.lookup 30 (.map (some (B + 1))) (.string (s.extract a (a + 4))) false).run Try.prog (w.alloc (.cells #[.int .i64 a] 3)).drew = .ok v0 (w.alloc (.cells #[.int .i64 a] 3)).drew := by
      have := (Hsta.out.of_block (w' := (w.alloc (.cells #[.int .i64 a] 3)).drew) rfl).lookup (s.extract a (a + 4)) Hxs.out
      rw [Hv0.out] at this
      exact this
    go_region_law (
      (refine step_int (by rfl) (.tmp 19) (.tmp 21) (by rfl) (B + 3) v0 (zs k0) (by rfl) (Hrow.out.alloc _) w.heap.size a (by rfl) (heap_alloc_new w.drew _) (by omega) (by simp; omega) ?_
       intro v1 w1 ho1 hg1 hl1
       have hM1 : Stood w1 (B + 1) n hd := by
         refine Hsta.out.of_block (hg1.block (B + 1) (by simp; omega) (fun e => ?_))
         have := (Hrow.out.lt (B + 1) e.symm).1
         omega
       have d2 : w1.cell? ⟨B + 2, 0, none⟩ = some (.map (some (B + 1))) := (World.cell?_of_block (w := w.drew.alloc (.cells #[.int .i64 a] 3)) (hg1.block (B + 2) (by simp; omega) (fun e => by have := (Hrow.out.lt (B + 2) e.symm).1; omega))).trans k2
       obtain ⟨d, p, hdp⟩ := hdRd_own ho1
       obtain ⟨w2, hr2, hs2, hg2⟩ := hM1.update (s.extract a (a + 4)) Hxs.out (by unfold maxLen; omega) v1 hdp
       have HO := Kp.mk ho1
       have HG := Kp.mk hg1
       have HL := Kp.mk hl1
       have HS2 := Kp.mk hs2
       have HG2 := Kp.mk hg2
       clear hM1 ho1 hg1 hl1 hs2 hg2 hdp))
    all_goals go_wp2_with fail
    all_goals refine bodyPost_end (v := .tuple #[]) (by simp [results, Try.f15, go_sem]) rfl ?_
    all_goals exact ⟨rfl, note_end Hk0.out Hv1.out (by rw [Hl.out]; exact hlt) ((HM.out.alloc _).drewN 1) (nt_alloc w _ _ _) HO.out HG.out HL.out HS2.out HG2.out⟩
  · have hlt' : decide ((a : Int) + 4 ≤ s.size) = false := by simp; omega
    go_enter Try.func15, Try.ntmps15
    go_wp2_with fail
    refine bodyPost_end (v := .tuple #[]) (by simp [results, Try.f15, go_sem]) rfl ?_
    exact ⟨rfl, hd, by rw [noted, if_neg (by rw [Hl.out]; exact hlt)]; exact HM.out.mono, Nt.refl _ _ _⟩

end Go.Proofs.Ythahflokacgjjaa.WinP
