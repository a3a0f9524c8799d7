/-
  The closure of Pack that writes a stretch.
-/
import Derived.Test.YthahflokacgjjaaC4
import Derived.Laws.AppendOwn
namespace Go.Proofs.Ythahflokacgjjaa.Pl
/-- what a stretch is written as -/
def stretch (L : List UInt8) (f t : Nat) : List UInt8 := if f < t then UInt8.ofNat (t - f - 1) :: (L.drop f).take (t - f) else []
theorem stretch_len (L : List UInt8) (f t : Nat) (h : t ≤ L.length) : (stretch L f t).length = if f < t then t - f + 1 else 0 := by
  unfold stretch
  by_cases hft : f < t
  · rw [if_pos hft, if_pos hft, List.length_cons, List.length_take, List.length_drop]
    omega
  · rw [if_neg hft, if_neg hft]; rfl
end Go.Proofs.Ythahflokacgjjaa.Pl
namespace Go.Proofs.Ythahflokacgjjaa.WinP
open Go.RowKit Go.WinLaws Go.Proofs.Ythahflokacgjjaa.Pl
set_option linter.unusedVariables false

/-- what Pack has written, as it lies -/
structure Ot (w : World) (B c : Nat) (s : ByteArray) (f : Nat) (v : Value) (xs : List UInt8) : Prop where
  bc : B < c
  r0 : w.heap[B]? = some (.cells #[.string s] 9 (0, 0))
  r1 : w.heap[c]? = some (.cells #[v] 33 (0, 0))
  r2 : w.heap[c + 1]? = some (.cells #[.int .i64 f] 3 (0, 0))
  own : Own w (c + 2) v xs

/-- what writing turns -/
structure Sr (w w' : World) (c : Nat) (v v' : Value) : Prop where
  os : w'.os = w.os
  tape : w'.tape = w.tape
  output : w'.output = w.output
  size : w.heap.size ≤ w'.heap.size
  block : ∀ i, i < w.heap.size → i ≠ c → i ≠ c + 1 → v.ownBlock ≠ some i → w'.heap[i]? = w.heap[i]?
  loc : v'.ownBlock = v.ownBlock ∨ ∃ g, v'.ownBlock = some g ∧ w.heap.size ≤ g

theorem Sr.refl (w : World) (c : Nat) (v : Value) : Sr w w c v v := ⟨rfl, rfl, rfl, Nat.le_refl _, fun _ _ _ _ _ => rfl, .inl rfl⟩
theorem Sr.trans {w w1 w2 : World} {c : Nat} {v v1 v2 : Value} (h : Sr w w1 c v v1) (k : Sr w1 w2 c v1 v2) : Sr w w2 c v v2 :=
  ⟨k.os.trans h.os, k.tape.trans h.tape, k.output.trans h.output, Nat.le_trans h.size k.size, fun i hi h1 h2 h3 => (k.block i (Nat.lt_of_lt_of_le hi h.size) h1 h2 (fun e => by
    rcases h.loc with h4 | ⟨g, h4, h5⟩
    · exact h3 (h4.symm.trans e)
    · rw [h4] at e; cases e; omega)).trans (h.block i hi h1 h2 h3), by
    rcases k.loc with h1 | ⟨g, h1, h2⟩
    · rcases h.loc with h3 | ⟨g, h3, h4⟩
      · exact .inl (h1.trans h3)
      · exact .inr ⟨g, h1.trans h3, h4⟩
    · exact .inr ⟨g, h1, Nat.le_trans h.size h2⟩⟩
theorem Sr.of_set (w : World) (c d : Nat) (hd : d = c ∨ d = c + 1) (v u : Value) : Sr w (w.setCell ⟨d, 0, none⟩ u) c v v :=
  have h := (Below.refl 0 w).setCell (p := ⟨d, 0, none⟩) (Nat.zero_le _) u
  ⟨h.os, h.tape, h.output, h.size, fun i hi h1 h2 _ => Below.heap_setCell _ _ _ _ (by dsimp only; omega), .inl rfl⟩
theorem Sr.of_drew {w w' : World} {c : Nat} {v : Value} (o : Obj) : Sr w (w.alloc o).drew c v v := ⟨rfl, rfl, rfl, by show _ ≤ (w.alloc o).heap.size; simp, fun i hi _ _ _ => heap_alloc_old w o hi, .inl rfl⟩
theorem Sr.of_lies {w w' : World} {c n k : Nat} {v : Value} {A : Option Addr} (h : Lies w w' v A) : Sr w w' c v (.slice A n k) :=
  ⟨h.grown.os, h.grown.tape, h.grown.output, h.grown.size, fun i hi _ _ h3 => h.grown.block i hi (fun e => h3 e.symm), by
    have e : (Value.slice A n k).ownBlock = A.map Addr.block := by cases A <;> rfl
    rw [e]
    exact h.lie.imp id (fun h => ⟨_, h, Nat.le_refl _⟩)⟩
theorem Sr.below {w w' : World} {c B : Nat} {v v' : Value} (h : Sr w w' c v v') (hB : B ≤ c) (hv : ∀ g, v.ownBlock = some g → B ≤ g) (hs : B ≤ w.heap.size) : Below B w w' :=
  ⟨h.os, h.tape, h.output, h.size, fun i hi => h.block i (by omega) (by omega) (by omega) (fun e => by have := hv i e; omega)⟩

theorem own_set {w : World} {base d : Nat} {v u : Value} {xs : List UInt8} (h : Own w base v xs) (hd : d < base) : Own (w.setCell ⟨d, 0, none⟩ u) base v xs := by
  rcases h with h | ⟨g, c, hv, hb, hg, h1, h2, h3, h4⟩
  · exact .inl h
  · have hbl : (w.setCell ⟨d, 0, none⟩ u).heap[g]? = w.heap[g]? := Below.heap_setCell _ _ _ _ (by dsimp only; omega)
    have hs := ((Below.refl 0 w).setCell (p := ⟨d, 0, none⟩) (Nat.zero_le _) u).size
    refine .inr ⟨g, c, hv, hb, Nat.lt_of_lt_of_le hg hs, h1, h2, fun j hj => ?_, fun j x hx => ?_⟩
    · rw [World.cell?_of_block (a := ⟨g, j, none⟩) hbl, World.frozen?_of_block (a := ⟨g, j, none⟩) hbl]
      exact h3 j hj
    · rw [World.cell?_of_block (a := ⟨g, j, none⟩) hbl]
      exact h4 j x hx
theorem own_lt {w : World} {base : Nat} {v : Value} {xs : List UInt8} (h : Own w base v xs) : ∀ g, v.ownBlock = some g → base ≤ g ∧ g < w.heap.size := by
  intro g hg
  rcases h with ⟨rfl, _⟩ | ⟨g', c, rfl, hb, hlt, _⟩
  · cases hg
  · simp [Value.ownBlock] at hg
    omega

namespace Ot
variable {w w' : World} {B c : Nat} {s : ByteArray} {f : Nat} {v : Value} {xs : List UInt8}
theorem below (h : Ot w B c s f v xs) (k : Below (c + 2) w w') {u : Value} {ys : List UInt8} (ho : Own w' (c + 2) u ys) : Ot w' B c s f v xs → True := fun _ => trivial
theorem c0 (h : Ot w B c s f v xs) : w.cell? ⟨B, 0, none⟩ = some (.string s) := by rw [cell_of_row w _ 0 _ _ _ h.r0]; rfl
theorem c1 (h : Ot w B c s f v xs) : w.cell? ⟨c, 0, none⟩ = some v := by rw [cell_of_row w _ 0 _ _ _ h.r1]; rfl
theorem c2 (h : Ot w B c s f v xs) : w.cell? ⟨c + 1, 0, none⟩ = some (.int .i64 f) := by rw [cell_of_row w _ 0 _ _ _ h.r2]; rfl
theorem f1 (h : Ot w B c s f v xs) : w.frozen? ⟨c, 0, none⟩ = false := frozen_of_row w _ _ _ _ h.r1
theorem f2 (h : Ot w B c s f v xs) : w.frozen? ⟨c + 1, 0, none⟩ = false := frozen_of_row w _ _ _ _ h.r2
theorem size (h : Ot w B c s f v xs) : c + 2 ≤ w.heap.size := lt_of_block h.r2
theorem setOut (h : Ot w B c s f v xs) (k : Below (c + 2) w w') (u : Value) (ys : List UInt8) (ho : Own w' (c + 2) u ys) : Ot (w'.setCell ⟨c, 0, none⟩ u) B c s f u ys := by
  have hbc := h.bc
  exact ⟨hbc, (Below.heap_setCell _ _ _ _ (by dsimp only; omega)).trans ((k.block _ (by omega)).trans h.r0), Go.heap_setCell_same _ _ _ _ _ _ ((k.block _ (by omega)).trans h.r1), (Below.heap_setCell _ _ _ _ (by dsimp only; omega)).trans ((k.block _ (by omega)).trans h.r2), own_set ho (by omega)⟩
theorem setFrom (h : Ot w B c s f v xs) (t : Nat) : Ot (w.setCell ⟨c + 1, 0, none⟩ (.int .i64 t)) B c s t v xs := by
  have hbc := h.bc
  exact ⟨hbc, (Below.heap_setCell _ _ _ _ (by dsimp only; omega)).trans h.r0, (Below.heap_setCell _ _ _ _ (by dsimp only; omega)).trans h.r1, Go.heap_setCell_same _ _ _ _ _ _ h.r2, own_set h.own (by omega)⟩
end Ot

theorem cut_str (s : ByteArray) (f t : Nat) : (s.extract f t).data.toList = (s.data.toList.drop f).take (t - f) := by
  rw [ByteArray.data_extract, Array.toList_extract, List.extract_eq_take_drop]

set_option maxRecDepth 100000 in
set_option maxHeartbeats 8000000 in
theorem stretch_any (B c : Nat) (s : ByteArray) (f to : Nat) (v : Value) (xs : List UInt8) (w : World) (hO : Ot w B c s f v xs) (hft : f ≤ to) (hts : to ≤ s.size) (h128 : to - f ≤ 128)
    (hs : s.size ≤ 1073741824) (hfit : xs.length + (to - f + 1) ≤ 1073741824) :
    Calls Try.prog 16 #[.int .i64 to, .pointer (some ⟨c + 1, 0, none⟩), .pointer (some ⟨c, 0, none⟩), .pointer (some ⟨B, 0, none⟩)] w fun e w' => e = .returned (.tuple #[]) ∧ ∃ v', Ot w' B c s f v' (xs ++ stretch s.data.toList f to) ∧ Sr w w' c v v' := by
  have Hl : Kp (s.data.toList.length = s.size) := ⟨by rw [Array.length_toList]; rfl⟩
  have HO := Kp.mk hO
  have c0 := hO.c0
  have c1 := hO.c1
  have c2 := hO.c2
  have f1 := hO.f1
  have hsz := hO.size
  have hbc := hO.bc
  clear hO
  by_cases hlt : f < to
  · have hlt' : decide (f < to) = true := by simpa using hlt
    have hw1 : IntKind.i64.wrap ((to : Int) - f) = (to : Int) - f := IntWalk.i64_in _ (by omega)
    have hw2 : IntKind.i64.wrap ((to : Int) - f - 1) = (to : Int) - f - 1 := IntWalk.i64_in _ (by omega)
    have Hst : Kp (xs ++ stretch s.data.toList f to = (xs ++ [UInt8.ofNat (to - f - 1)]) ++ (s.data.toList.drop f).take (to - f)) := ⟨by unfold stretch; rw [if_pos hlt]; simp⟩
    obtain ⟨q, hq⟩ : ∃ q, UInt8.ofNat (to - f - 1) = q := ⟨_, rfl⟩
    have hq2 : IntKind.u8.wrap ((to : Int) - f - 1) = (q.toNat : Int) := by
      rw [← hq, UInt8.toNat_ofNat', show (to : Int) - f - 1 = ((to - f - 1 : Nat) : Int) by omega]
      have e : (IntKind.u8.wrap ((to - f - 1 : Nat) : Int)) = ((to - f - 1 : Nat) : Int) := by
        unfold IntKind.wrap
        simp only [IntKind.bits, IntKind.signed]
        simp
        omega
      rw [e]
      omega
    rw [hq] at Hst
    obtain ⟨zs, hzs⟩ : ∃ zs, (s.data.toList.drop f).take (to - f) = zs := ⟨_, rfl⟩
    have hzl : zs.length = to - f := by rw [← hzs, List.length_take, List.length_drop, Hl.out]; omega
    have S1 : Kp (Fit (xs.length + [q].length)) := ⟨by unfold Fit; simp only [List.length_cons, List.length_nil]; omega⟩
    have S2 : Kp (Fit ((xs ++ [q]).length + zs.length)) := ⟨by
      unfold Fit
      rw [List.length_append, hzl]
      simp only [List.length_cons, List.length_nil]
      omega⟩
    have Hcut : Kp ((s.extract f to).data.toList = zs) := ⟨by rw [cut_str s f to, hzs]⟩
    rw [hzs] at Hst
    clear hq hzs hzl
    have g0 : (0 : Int) ≤ f := by omega
    have g1 : (f : Int) ≤ to := by omega
    have g2 : (to : Int) ≤ s.size := by omega
    have hBa : Below (c + 2) w (w.alloc (.cells #[.int .u8 q.toNat] 5)) := (Below.refl (c + 2) w).alloc hsz _
    have k0 : (w.alloc (.cells #[.int .u8 q.toNat] 5)).cell? ⟨B, 0, none⟩ = some (.string s) := (hBa.cell (by dsimp only; omega)).trans c0
    have k1 : (w.alloc (.cells #[.int .u8 q.toNat] 5)).cell? ⟨c, 0, none⟩ = some v := (hBa.cell (by dsimp only; omega)).trans c1
    have k2 : (w.alloc (.cells #[.int .u8 q.toNat] 5)).cell? ⟨c + 1, 0, none⟩ = some (.int .i64 f) := (hBa.cell (by dsimp only; omega)).trans c2
    have HBa : Kp (Below (c + 2) w (w.alloc (.cells #[.int .u8 q.toNat] 5)).drew) := ⟨hBa.drew⟩
    clear hBa
    go_enter Try.func16, Try.ntmps16
    go_wp2_with fail
    go_region_law ((first
      | (refine step_bytes (by rfl) (.tmp 8) (.tmp 14) (by rfl) (c + 2) v xs (by rfl) (own_kept HO.out.own (((Below.refl w.heap.size w).alloc (Nat.le_refl _) _).drew) (Nat.le_refl _)) ⟨w.heap.size, 0, none⟩ 1 1 [q] (by rfl) (by rfl) (World.news_of_block (cs := #[.int .u8 q.toNat]) (t := 5) (fr := (0, 0)) (heap_alloc_new w.drew _)) S1.out (by simp <;> omega) ?_
         intro A1 c1' w1 hk1 ho1 hL1
         have hB1 : Below (c + 2) w w1 := HBa.out.trans hk1
         have d0 : w1.cell? ⟨B, 0, none⟩ = some (.string s) := (hB1.cell (by dsimp only; omega)).trans c0
         have d1 : w1.cell? ⟨c, 0, none⟩ = some v := (hB1.cell (by dsimp only; omega)).trans c1
         have d2 : w1.cell? ⟨c + 1, 0, none⟩ = some (.int .i64 f) := (hB1.cell (by dsimp only; omega)).trans c2
         have e1 : w1.frozen? ⟨c, 0, none⟩ = false := (hB1.frozen (by dsimp only; omega)).trans f1
         have HB1 := Kp.mk hB1
         have Ho1 : Kp (Own w1 (c + 2) (.slice A1 (xs.length + 1) c1') (xs ++ [q])) := ⟨by rw [show xs.length + 1 = (xs ++ [q]).length by simp]; exact ho1⟩
         have HL1 := Kp.mk hL1
         clear hB1 hk1 ho1 hL1)
      | (refine step_str (by rfl) (.tmp 15) (.tmp 19) (by rfl) (c + 2) (.slice A1 (xs.length + 1) c1') (xs ++ [q]) (by rfl) Ho1.out (s.extract f to) (by rfl) zs Hcut.out S2.out (Nat.le_trans hsz HB1.out.size) ?_
         intro A2 c2' w2 hk2 ho2 hL2
         have hB2 : Below (c + 2) w w2 := HB1.out.trans hk2
         have d0 : w2.cell? ⟨B, 0, none⟩ = some (.string s) := (hB2.cell (by dsimp only; omega)).trans c0
         have d1 : w2.cell? ⟨c, 0, none⟩ = some v := (hB2.cell (by dsimp only; omega)).trans c1
         have d2 : w2.cell? ⟨c + 1, 0, none⟩ = some (.int .i64 f) := (hB2.cell (by dsimp only; omega)).trans c2
         have e1 : w2.frozen? ⟨c, 0, none⟩ = false := (hB2.frozen (by dsimp only; omega)).trans f1
         have HB2 := Kp.mk hB2
         have Ho2 : Kp (Own w2 (c + 2) (.slice A2 (xs.length + (zs.length + 1)) c2') (xs ++ [q] ++ zs)) := ⟨by rw [show xs.length + (zs.length + 1) = (xs ++ [q] ++ zs).length by simp]; exact ho2⟩
         have HL2 := Kp.mk hL2
         clear hB2 hk2 ho2 hL2) | fail "neither"))
    all_goals go_wp2_with fail
    all_goals refine bodyPost_end (v := .tuple #[]) (by simp [results, Try.f16, go_sem]) rfl ?_
    all_goals exact ⟨rfl, _, by
      rw [Hst.out]
      exact HO.out.setOut HB2.out _ _ Ho2.out, ((Sr.of_drew (w' := w) _).trans (Sr.of_lies HL1.out)).trans ((Sr.of_lies HL2.out).trans (Sr.of_set _ _ _ (.inl rfl) _ _))⟩
  · have hlt' : decide (f < to) = false := by simpa using hlt
    have hft' : f = to := by omega
    subst hft'
    have Hst : Kp (xs ++ stretch s.data.toList f f = xs) := ⟨by unfold stretch; rw [if_neg hlt]; simp⟩
    clear hlt
    go_enter Try.func16, Try.ntmps16
    go_wp2_with fail
    refine bodyPost_end (v := .tuple #[]) (by simp [results, Try.f16, go_sem]) rfl ?_
    exact ⟨rfl, v, by rw [Hst.out]; exact HO.out, Sr.refl _ _ _⟩

end Go.Proofs.Ythahflokacgjjaa.WinP
