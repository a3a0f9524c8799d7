/-
  R07.Pack.
-/
import Derived.Test.YthahflokacgjjaaQ1
import Derived.Test.YthahflokacgjjaaP
namespace Go.Proofs.Ythahflokacgjjaa.Pl
theorem At.flush {L f xs R} (h : At L f L.length xs R) : At L L.length L.length (xs ++ stretch L f L.length) R := by
  have hd := h.done (Nat.lt_irrefl _)
  have := h.len
  have := h.fa
  have := h.lt
  refine ⟨Nat.le_refl _, Nat.le_refl _, by omega, by rw [List.length_append, stretch_len _ _ _ (Nat.le_refl _)]; split <;> omega, 1, by omega, ?_⟩
  rw [packF, if_neg (Nat.lt_irrefl _), hd, stretch, if_neg (Nat.lt_irrefl _), List.append_nil]
end Go.Proofs.Ythahflokacgjjaa.Pl
namespace Go.Proofs.Ythahflokacgjjaa.WinP
open Go.RowKit Go.WinLaws Go.Maps Go.Proofs.Ythahflokacgjjaa.Pl
set_option linter.unusedVariables false

theorem static_any (w : World) : Calls Try.prog 12 #[] w fun e w' => e = .returned (.string (strOf stat)) ∧ Below w.heap.size w w' := by
  go_enter Try.func12, Try.ntmps12
  go_wp2_with fail
  go_ret
  exact ⟨rfl, Below.refl _ _⟩

theorem best_b (s : ByteArray) (a : Nat) (w : World) (ha : a ≤ s.size) (hs : s.size ≤ 1073741824) :
    Calls Try.prog 18 #[.string s, .int .i64 a] w fun e w' => e = .returned (.tuple #[.int .i64 (best s.data.toList a).1, .int .i64 (best s.data.toList a).2]) ∧ Below w.heap.size w w' := by
  refine (best_any s a w ha hs).mono ?_
  rintro e w1 ⟨rfl, q, rfl⟩
  exact ⟨rfl, belowN (Below.refl _ _) q⟩

theorem own_other {w w' : World} {base : Nat} {u v : Value} {ys : List UInt8} {A : Option Addr} (h : Own w base u ys) (l : Lies w w' v A) (hne : u.ownBlock ≠ v.ownBlock) : Own w' base u ys :=
  own_block h l.grown.size (fun g e => l.grown.block g (own_lt h g e).2 (fun e2 => hne (by rw [e, e2])))

theorem lies_ne {w w' : World} {base : Nat} {u v : Value} {ys : List UInt8} {A : Option Addr} (h : Own w base u ys) (l : Lies w w' v A) (hne : u.ownBlock ≠ v.ownBlock) : u.ownBlock ≠ A.map Addr.block := by
  rcases l.lie with h1 | h1
  · rw [h1]; exact hne
  · rw [h1]
    intro e
    have := (own_lt h _ e).2
    omega

/-- the reference's packer's two slices -/
structure Tw (w0 wr : World) (xs ys : List UInt8) (A4 : Option Addr) (c4 : Nat) (A5 : Option Addr) (c5 : Nat) : Prop where
  o4 : Own wr w0.heap.size (.slice A4 xs.length c4) xs
  o5 : Own wr w0.heap.size (.slice A5 ys.length c5) ys
  ap : A4.map Addr.block ≠ A5.map Addr.block
  bl : Below w0.heap.size w0 wr
/-- .. and where it stands -/
structure Lw (L R : List UInt8) (a f : Nat) (xs ys : List UInt8) : Prop where
  at_ : At L f a xs R
  hy : ys = (L.drop f).take (a - f)
  dn : a = L.length → f = a

theorem sl_block (A : Option Addr) (n c : Nat) : (Value.slice A n c).ownBlock = A.map Addr.block := by cases A <;> rfl

theorem Lw.len {L R : List UInt8} {a f : Nat} {xs ys : List UInt8} (h : Lw L R a f xs ys) : ys.length = a - f := by
  rw [h.hy, List.length_take, List.length_drop]
  have := h.at_.al
  omega

namespace Tw
variable {w0 wr w1 : World} {xs ys zs : List UInt8} {A4 : Option Addr} {c4 : Nat} {A5 : Option Addr} {c5 : Nat} {A : Option Addr} {c : Nat}
theorem keep (h : Tw w0 wr xs ys A4 c4 A5 c5) (k : Below wr.heap.size wr w1) : Tw w0 w1 xs ys A4 c4 A5 c5 :=
  ⟨own_kept h.o4 k (Nat.le_refl _), own_kept h.o5 k (Nat.le_refl _), h.ap, h.bl.trans (k.mono h.bl.size)⟩
theorem alloc (h : Tw w0 wr xs ys A4 c4 A5 c5) (o : Obj) : Tw w0 (wr.alloc o) xs ys A4 c4 A5 c5 := h.keep ((Below.refl wr.heap.size wr).alloc (Nat.le_refl _) o)
theorem push (h : Tw w0 wr xs ys A4 c4 A5 c5) (ho : Own w1 w0.heap.size (.slice A (ys ++ zs).length c) (ys ++ zs)) (hb : Below w0.heap.size wr w1) (l : Lies wr w1 (.slice A5 ys.length c5) A) : Tw w0 w1 xs (ys ++ zs) A4 c4 A c := by
  have hne : (Value.slice A4 xs.length c4).ownBlock ≠ (Value.slice A5 ys.length c5).ownBlock := by rw [sl_block, sl_block]; exact h.ap
  refine ⟨own_other h.o4 l hne, ho, ?_, h.bl.trans hb⟩
  have := lies_ne h.o4 l hne
  rwa [sl_block] at this
theorem outp (h : Tw w0 wr xs ys A4 c4 A5 c5) (ho : Own w1 w0.heap.size (.slice A (xs ++ zs).length c) (xs ++ zs)) (hb : Below w0.heap.size wr w1) (l : Lies wr w1 (.slice A4 xs.length c4) A) : Tw w0 w1 (xs ++ zs) ys A c A5 c5 := by
  have hne : (Value.slice A5 ys.length c5).ownBlock ≠ (Value.slice A4 xs.length c4).ownBlock := by rw [sl_block, sl_block]; exact h.ap.symm
  refine ⟨ho, own_other h.o5 l hne, ?_, h.bl.trans hb⟩
  have := lies_ne h.o5 l hne
  rw [sl_block] at this
  exact this.symm
end Tw

theorem own_some {w : World} {base n c : Nat} {A : Option Addr} {xs : List UInt8} (h : Own w base (.slice A n c) xs) (hne : 0 < xs.length) : ∃ g, A = some ⟨g, 0, none⟩ := by
  rcases h with ⟨_, hx⟩ | ⟨g, c', hv, _⟩
  · rw [hx] at hne; simp at hne
  · simp only [Value.slice.injEq] at hv
    exact ⟨g, hv.1⟩
theorem own_cells {w : World} {base n c g : Nat} {xs : List UInt8} (h : Own w base (.slice (some ⟨g, 0, none⟩) n c) xs) : ∀ j u, (bcells xs)[j]? = some u → w.cell? ((⟨g, 0, none⟩ : Addr).add j) = some u := by
  intro j u hu
  rcases h with ⟨hv, _⟩ | ⟨g', c', hv, _, _, _, _, _, h4⟩
  · cases hv
  · simp only [Value.slice.injEq, Option.some.injEq, Addr.mk.injEq] at hv
    obtain ⟨⟨rfl, _⟩, _⟩ := hv
    rw [Addr.add_lit, Nat.zero_add]
    exact h4 j u hu

theorem own_empty (w : World) (base : Nat) (hb : base ≤ w.heap.size) : Own (w.alloc (.cells #[] 5)) base (.slice (some ⟨w.heap.size, 0, none⟩) 0 0) [] :=
  own_row (cur := #[]) (fr := (0, 0)) (c := 0) (xs := []) (heap_alloc_new w _) hb rfl (.inr rfl) (Nat.zero_le _) ⟨[], rfl⟩

theorem Tw.new {w0 wr : World} {xs ys : List UInt8} {A4 : Option Addr} {c4 : Nat} {A5 : Option Addr} {c5 : Nat} (h : Tw w0 wr xs ys A4 c4 A5 c5) : Tw w0 (wr.alloc (.cells #[] 5)) xs [] A4 c4 (some ⟨wr.heap.size, 0, none⟩) 0 := by
  refine ⟨(h.alloc _).o4, own_empty wr _ h.bl.size, ?_, (h.alloc _).bl⟩
  intro e
  have := (own_lt h.o4 wr.heap.size (by rw [sl_block]; exact e)).2
  omega

theorem one_cell (n : Nat) (h : n < 256) : bcells [UInt8.ofNat n] = [.int .u8 n] := by
  have e1 : ((UInt8.ofNat n).toNat : Int) = n := by rw [UInt8.toNat_ofNat']; omega
  simp only [bcells, List.map_cons, List.map_nil, e1]

theorem stretch_is {L : List UInt8} {f a : Nat} (h : f < a) (ys : List UInt8) (hy : ys = (L.drop f).take (a - f)) (hl : ys.length = a - f) : [UInt8.ofNat (ys.length - 1)] ++ ys = stretch L f a := by
  rw [stretch, if_pos h, hl, ← hy]
  rfl

set_option maxRecDepth 100000 in
set_option maxHeartbeats 8000000 in
theorem pack_ref (s : ByteArray) (w : World) (hs : s.size ≤ 1000000) :
    Calls Try.prog 11 #[.string s] w fun e w' => e = .returned (.string (strOf (pack s.data.toList))) ∧ Below w.heap.size w w' := by
  obtain ⟨S, hS⟩ : ∃ S, strOf stat = S := ⟨_, rfl⟩
  have Hst : Kp (∀ W, Calls Try.prog 12 #[] W fun e w' => e = .returned (.string S) ∧ Below W.heap.size W w') := ⟨fun W => by rw [← hS]; exact static_any W⟩
  have hS68 : S.size = 68 := by rw [← hS]; rfl
  obtain ⟨kn, hkn⟩ : ∃ kn, S ++ s = kn := ⟨_, rfl⟩
  have hL : kn.data.toList = stat ++ s.data.toList := by rw [← hkn, ← hS, ByteArray.data_append, Array.toList_append]; rfl
  have hsz : kn.size = 68 + s.size := by
    have e : kn.data.toList.length = kn.size := by rw [Array.length_toList]; rfl
    rw [← e, hL, List.length_append, Array.length_toList]; rfl
  have Hl : Kp (kn.data.toList.length = kn.size) := ⟨by rw [Array.length_toList]; rfl⟩
  have Hstart : Kp (At kn.data.toList 68 68 [] (pack s.data.toList)) := ⟨by rw [hL]; exact At.start _⟩
  obtain ⟨R, hR⟩ : ∃ R, pack s.data.toList = R := ⟨_, rfl⟩
  rw [hR] at Hstart
  obtain ⟨RS, hRS⟩ : ∃ RS, strOf R = RS := ⟨_, rfl⟩
  have HRS := Kp.mk hRS
  rw [hR, hRS]
  have hk1 : kn.size ≤ 1000068 := by omega
  have hk68 : 68 ≤ kn.size := by omega
  clear hL hsz hR hRS hS
  go_enter Try.func11, Try.ntmps11
  have Hst1 := Kp.mk (Hst.out w)
  go_wp2_with (first
    | (go_at_call 12; with_reducible refine (Hst1.out).mono ?_; rintro e w1 ⟨rfl, hk⟩; have Hk1 := Kp.mk hk; clear hk)
    | (go_at_call 12; refine (Hst.out _).mono ?_; rintro e w2 ⟨rfl, hk⟩; have Hk2 := Kp.mk hk; clear hk))
  have HT0 : Kp (Tw w w2 [] [] (some ⟨w1.heap.size, 0, none⟩) 0 (some ⟨w1.heap.size + 1, 0, none⟩) 0) := ⟨by
    have hz := Hk1.out.size
    have hz2 : (w1.alloc (.cells #[] 5)).heap.size = w1.heap.size + 1 := by simp
    have h2 := own_empty (w1.alloc (.cells #[] 5)) w.heap.size (by omega)
    rw [hz2] at h2
    refine ⟨own_kept (own_kept (own_empty w1 w.heap.size hz) ((Below.refl (w1.alloc (.cells #[] 5)).heap.size _).alloc (Nat.le_refl _) _) (Nat.le_refl _)) Hk2.out (Nat.le_refl _), own_kept h2 Hk2.out (Nat.le_refl _), by simp, ?_⟩
    exact ((Hk1.out.alloc hz _).alloc (by omega) _).trans (Hk2.out.mono (by simp; omega))⟩
  have HL0 : Kp (Lw kn.data.toList R 68 68 [] []) := ⟨⟨Hstart.out, by simp, fun _ => rfl⟩⟩
  clear hkn hS68 Hstart Hk1 Hk2 Hst1
  go_loopw [4, 5, 6] (fun v4 v5 v6 wr => ∃ (a f : Nat) (xs ys : List UInt8) (A4 : Option Addr) (c4 : Nat) (A5 : Option Addr) (c5 : Nat), v4 = .slice A4 xs.length c4 ∧ v5 = .slice A5 ys.length c5 ∧ v6 = .int .i64 a ∧ Kp (Tw w wr xs ys A4 c4 A5 c5) ∧ Kp (Lw kn.data.toList R a f xs ys)) (fun _ _ v6 _ => kn.size - (intOf v6).toNat)
  case atStart => exact ⟨68, 68, [], [], _, _, _, _, rfl, rfl, rfl, HT0, HL0⟩
  case round =>
    clear HT0 HL0
    obtain ⟨a, f, xs, ys, A4, c4, A5, c5, rfl, rfl, rfl, HT, HLw⟩ := hrel
    have hyl := HLw.out.len
    have hfa := HLw.out.at_.fa
    have hal := HLw.out.at_.al
    rw [Hl.out] at hal
    have haf := HLw.out.at_.lt
    have hxl := HLw.out.at_.len
    have hy128 : ys.length < 128 := by omega
    have Hyl := Kp.mk hyl
    have hz := HT.out.bl.size
    clear hyl
    by_cases hlt : a < kn.size
    · have hlt' : decide (a < kn.size) = true := by simpa using hlt
      have Hbest := Kp.mk (best_b kn a wr hal (by omega))
      obtain ⟨q, hq⟩ : ∃ q, best kn.data.toList a = q := ⟨_, rfl⟩
      rw [hq] at Hbest
      have Hq := Kp.mk hq
      clear hq
      obtain ⟨x, y⟩ := q
      dsimp only at Hbest
      by_cases h4 : x < 4
      · have h4' : decide ((x : Int) < 4) = true := by simp; omega
        have h4n : decide ((4 : Int) ≤ (x : Int)) = false := by simp; omega
        have Hb4 : Kp ((best kn.data.toList a).1 < 4) := ⟨by rw [Hq.out]; exact h4⟩
        obtain ⟨z, hz1⟩ : ∃ z, at_ kn.data.toList a = z := ⟨_, rfl⟩
        have hby : (kn[a]) = z := by rw [byte_at kn _ hlt, hz1]
        have g0 : (0 : Int) ≤ a := by omega
        have g1 : (a : Int) < kn.size := by omega
        have w1a : IntKind.i64.wrap ((a : Int) + 1) = (a : Int) + 1 := IntWalk.i64_in _ (by omega)
        have Hys : Kp (ys ++ [z] = (kn.data.toList.drop f).take (a + 1 - f)) := ⟨by
          have := HLw.out.hy
          rw [this, show a + 1 - f = a - f + 1 by omega, List.take_add_one, List.getElem?_drop, show f + (a - f) = a by omega, at_get (by rw [Hl.out]; exact hlt), hz1]
          rfl⟩
        have Hf1 : Kp (Fit (ys.length + [z].length)) := ⟨by unfold Fit; simp; omega⟩
        have hpos : decide ((0 : Int) < (ys.length : Int) + 1) = true := by simp <;> omega
        clear hz1
        by_cases hfl : a + 1 - f = 128 ∨ a + 1 = kn.size
        · obtain ⟨zn, hzn⟩ : ∃ zn, UInt8.ofNat ((ys ++ [z]).length - 1) = zn := ⟨_, rfl⟩
          have Hzn : Kp (bcells [zn] = [.int .u8 ys.length]) := ⟨by
            have e : (ys ++ [z]).length - 1 = ys.length := by simp
            rw [← hzn, e]
            exact one_cell _ (by omega)⟩
          have Hstr : Kp (xs ++ [zn] ++ (ys ++ [z]) = xs ++ stretch kn.data.toList f (a + 1)) := ⟨by
            rw [← hzn, List.append_assoc, stretch_is (by omega) (ys ++ [z]) Hys.out (by have := Hyl.out; simp; omega)]⟩
          have Hf2 : Kp (Fit (xs.length + [zn].length)) := ⟨by unfold Fit; simp; omega⟩
          have Hf3 : Kp (Fit ((xs ++ [zn]).length + (ys ++ [z]).length)) := ⟨by unfold Fit; simp; omega⟩
          clear hzn
          have Hat : Kp (At kn.data.toList (a + 1) (a + 1) (xs ++ [zn] ++ (ys ++ [z])) R) := ⟨by
            rw [Hstr.out]
            by_cases h1 : a + 1 - f = 128
            · exact HLw.out.at_.full (by rw [Hl.out]; exact hlt) Hb4.out h1
            · have h2 := HLw.out.at_.on (by rw [Hl.out]; exact hlt) Hb4.out h1
              have e : a + 1 = kn.data.toList.length := by rw [Hl.out]; omega
              rw [e] at h2 ⊢
              exact h2.flush⟩
          by_cases hfull : a + 1 - f = 128
          · have c1 : (((ys.length : Int) + 1) == 128) = true := by have := Hyl.out; simp; omega
            go_wp2_with (first
            | (go_at_call 18; refine (Hbest.out).mono ?_; rintro e w1 ⟨rfl, hk⟩; have Hw1 := Kp.mk (HT.out.keep hk); have hs1 := hk.size; clear hk)
            | (at_builtin; refine list_bytes rfl (.tmp 28) (.tmp 32) rfl w.heap.size (.slice A5 ys.length c5) ys rfl (Hw1.out.alloc _).o5 ⟨w1.heap.size, 0, none⟩ 1 1 [z] rfl rfl (World.news_of_block (cs := #[.int .u8 z.toNat]) (t := 5) (fr := (0, 0)) (heap_alloc_new w1 _)) Hf1.out (by simp; omega) ?_; intro A6 c6 w2 hk2 ho2 hL2; have HT2 := Kp.mk ((Hw1.out.alloc _).push ho2 hk2 hL2); have hz2 := HT2.out.bl.size; obtain ⟨g6, rfl⟩ := own_some ho2 (by simp); clear hk2 ho2 hL2)
            | (at_builtin; refine list_bytes rfl (.tmp 54) (.tmp 59) rfl w.heap.size (.slice A4 xs.length c4) xs rfl (HT2.out.alloc _).o4 ⟨w2.heap.size, 0, none⟩ 1 1 [zn] rfl rfl (by rw [Hzn.out]; exact World.news_of_block (cs := #[.int .u8 ys.length]) (t := 5) (fr := (0, 0)) (heap_alloc_new w2 _)) Hf2.out (by simp; omega) ?_; intro A7 c7 w3 hk3 ho3 hL3; have HT3 := Kp.mk ((HT2.out.alloc _).outp ho3 hk3 hL3); have hz3 := HT3.out.bl.size; have hs3 := hk3.size; clear hk3 ho3 hL3)
            | (at_builtin; refine list_bytes rfl (.tmp 61) (.tmp 62) rfl w.heap.size (.slice A7 (xs.length + 1) c7) (xs ++ [zn]) rfl (by have := HT3.out.o4; rwa [List.length_append] at this) ⟨g6, 0, none⟩ (ys.length + 1) c6 (ys ++ [z]) rfl (by simp) (own_cells HT3.out.o5) Hf3.out hz3 ?_; intro A8 c8 w4 hk4 ho4 hL4; have HT4 := Kp.mk (HT3.out.outp ho4 hk4 (by rw [List.length_append]; exact hL4)); have hs4 := hk4.size; clear hk4 ho4 hL4))
            go_roundw
            case measure => simp [intOf]; omega
            case rel => exact ⟨a + 1, a + 1, xs ++ [zn] ++ (ys ++ [z]), [], A8, c8, _, 0, by simp, rfl, by go_num, ⟨HT4.out.new⟩, ⟨⟨Hat.out, by simp, fun _ => rfl⟩⟩⟩
          · have c1 : (((ys.length : Int) + 1) == 128) = false := by have := Hyl.out; simp; omega
            have c2 : (((a : Int) + 1) == (kn.size : Int)) = true := by simp; omega
            go_wp2_with (first
            | (go_at_call 18; refine (Hbest.out).mono ?_; rintro e w1 ⟨rfl, hk⟩; have Hw1 := Kp.mk (HT.out.keep hk); have hs1 := hk.size; clear hk)
            | (at_builtin; refine list_bytes rfl (.tmp 28) (.tmp 32) rfl w.heap.size (.slice A5 ys.length c5) ys rfl (Hw1.out.alloc _).o5 ⟨w1.heap.size, 0, none⟩ 1 1 [z] rfl rfl (World.news_of_block (cs := #[.int .u8 z.toNat]) (t := 5) (fr := (0, 0)) (heap_alloc_new w1 _)) Hf1.out (by simp; omega) ?_; intro A6 c6 w2 hk2 ho2 hL2; have HT2 := Kp.mk ((Hw1.out.alloc _).push ho2 hk2 hL2); have hz2 := HT2.out.bl.size; obtain ⟨g6, rfl⟩ := own_some ho2 (by simp); clear hk2 ho2 hL2)
            | (at_builtin; refine list_bytes rfl (.tmp 54) (.tmp 59) rfl w.heap.size (.slice A4 xs.length c4) xs rfl (HT2.out.alloc _).o4 ⟨w2.heap.size, 0, none⟩ 1 1 [zn] rfl rfl (by rw [Hzn.out]; exact World.news_of_block (cs := #[.int .u8 ys.length]) (t := 5) (fr := (0, 0)) (heap_alloc_new w2 _)) Hf2.out (by simp; omega) ?_; intro A7 c7 w3 hk3 ho3 hL3; have HT3 := Kp.mk ((HT2.out.alloc _).outp ho3 hk3 hL3); have hz3 := HT3.out.bl.size; have hs3 := hk3.size; clear hk3 ho3 hL3)
            | (at_builtin; refine list_bytes rfl (.tmp 61) (.tmp 62) rfl w.heap.size (.slice A7 (xs.length + 1) c7) (xs ++ [zn]) rfl (by have := HT3.out.o4; rwa [List.length_append] at this) ⟨g6, 0, none⟩ (ys.length + 1) c6 (ys ++ [z]) rfl (by simp) (own_cells HT3.out.o5) Hf3.out hz3 ?_; intro A8 c8 w4 hk4 ho4 hL4; have HT4 := Kp.mk (HT3.out.outp ho4 hk4 (by rw [List.length_append]; exact hL4)); have hs4 := hk4.size; clear hk4 ho4 hL4))
            go_roundw
            case measure => simp [intOf]; omega
            case rel => exact ⟨a + 1, a + 1, xs ++ [zn] ++ (ys ++ [z]), [], A8, c8, _, 0, by simp, rfl, by go_num, ⟨HT4.out.new⟩, ⟨⟨Hat.out, by simp, fun _ => rfl⟩⟩⟩
        · have c1 : (((ys.length : Int) + 1) == 128) = false := by have := Hyl.out; simp; omega
          have c2 : (((a : Int) + 1) == (kn.size : Int)) = false := by simp; omega
          go_wp2_with (first
            | (go_at_call 18; refine (Hbest.out).mono ?_; rintro e w1 ⟨rfl, hk⟩; have Hw1 := Kp.mk (HT.out.keep hk); have hs1 := hk.size; clear hk)
            | (at_builtin; refine list_bytes rfl (.tmp 28) (.tmp 32) rfl w.heap.size (.slice A5 ys.length c5) ys rfl (Hw1.out.alloc _).o5 ⟨w1.heap.size, 0, none⟩ 1 1 [z] rfl rfl (World.news_of_block (cs := #[.int .u8 z.toNat]) (t := 5) (fr := (0, 0)) (heap_alloc_new w1 _)) Hf1.out (by simp; omega) ?_; intro A6 c6 w2 hk2 ho2 hL2; have HT2 := Kp.mk ((Hw1.out.alloc _).push ho2 hk2 hL2); have hz2 := HT2.out.bl.size; obtain ⟨g6, rfl⟩ := own_some ho2 (by simp); clear hk2 ho2 hL2))
          go_roundw
          case measure => simp [intOf]; omega
          case rel => exact ⟨a + 1, f, xs, ys ++ [z], A4, c4, _, c6, rfl, by simp, by go_num, HT2, ⟨⟨HLw.out.at_.on (by rw [Hl.out]; exact hlt) Hb4.out (by omega), Hys.out, fun h => absurd (by rw [Hl.out] at h; exact .inr h) hfl⟩⟩⟩
      · have h4' : decide ((x : Int) < 4) = false := by simp; omega
        have h4n : decide ((4 : Int) ≤ (x : Int)) = true := by simp; omega
        have hbq : ¬ (best kn.data.toList a).1 < 4 := by rw [Hq.out]; exact h4
        have hroom := best_room kn.data.toList a (by rw [Hl.out]; exact hal)
        have hback := best_back (L := kn.data.toList) (a := a) (by omega)
        have hat := HLw.out.at_.match (by rw [Hl.out]; exact hlt) hbq
        rw [Hq.out, Hl.out] at hroom
        rw [Hq.out] at hback hat
        dsimp only at hroom hback hat
        have hy1 := hback.1
        have hy2 : y ≤ 32768 := by have := hback.2.1; omega
        have hr1 := hroom.1
        have hr2 := hroom.2
        have hth := three_cells x y hr2 hy1 hy2
        obtain ⟨tz, htz⟩ : ∃ tz, three (x, y) = tz := ⟨_, rfl⟩
        have Htl : Kp (tz.length = 3) := ⟨by rw [← htz]; rfl⟩
        rw [htz] at hth hat
        have Hth := Kp.mk hth
        have Hat := Kp.mk hat
        have wx : IntKind.i64.wrap ((x : Int) + 124) = (x : Int) + 124 := IntWalk.i64_in _ (by omega)
        have wy : IntKind.i64.wrap ((y : Int) - 1) = (y : Int) - 1 := IntWalk.i64_in _ (by omega)
        have wax : IntKind.i64.wrap ((a : Int) + x) = (a : Int) + x := IntWalk.i64_in _ (by omega)
        clear hth htz hat hback hroom hbq
        by_cases hfa2 : f < a
        · have hpos : decide (0 < ys.length) = true := by have := Hyl.out; simp; omega
          have hyp : 0 < ys.length := by have := Hyl.out; omega
          obtain ⟨g5, rfl⟩ := own_some HT.out.o5 hyp
          obtain ⟨zn, hzn⟩ : ∃ zn, UInt8.ofNat (ys.length - 1) = zn := ⟨_, rfl⟩
          have Hzn : Kp (bcells [zn] = [.int .u8 ((ys.length : Int) - 1)]) := ⟨by
            rw [← hzn, one_cell _ (by omega), show ((ys.length - 1 : Nat) : Int) = (ys.length : Int) - 1 by omega]⟩
          have Hstr : Kp (xs ++ [zn] ++ ys = xs ++ stretch kn.data.toList f a) := ⟨by
            rw [← hzn, List.append_assoc, stretch_is hfa2 ys HLw.out.hy Hyl.out]⟩
          have Hf2 : Kp (Fit (xs.length + [zn].length)) := ⟨by unfold Fit; simp; omega⟩
          have Hf3 : Kp (Fit ((xs ++ [zn]).length + ys.length)) := ⟨by unfold Fit; simp; omega⟩
          have Hf4 : Kp (Fit ((xs ++ [zn] ++ ys).length + tz.length)) := ⟨by unfold Fit; rw [Htl.out]; simp; omega⟩
          have wl : IntKind.i64.wrap ((ys.length : Int) - 1) = (ys.length : Int) - 1 := IntWalk.i64_in _ (by omega)
          clear hzn
          go_wp2_with (first
            | (go_at_call 18; refine (Hbest.out).mono ?_; rintro e w1 ⟨rfl, hk⟩; have Hw1 := Kp.mk (HT.out.keep hk); have hs1 := hk.size; clear hk)
            | (at_builtin; refine list_bytes rfl (.tmp 54) (.tmp 59) rfl w.heap.size (.slice A4 xs.length c4) xs rfl (Hw1.out.alloc _).o4 ⟨w1.heap.size, 0, none⟩ 1 1 [zn] rfl rfl (by rw [Hzn.out]; exact World.news_of_block (cs := #[.int .u8 ((ys.length : Int) - 1)]) (t := 5) (fr := (0, 0)) (heap_alloc_new w1 _)) Hf2.out (by simp; omega) ?_; intro A7 c7 w3 hk3 ho3 hL3; have HT3 := Kp.mk ((Hw1.out.alloc _).outp ho3 hk3 hL3); have hz3 := HT3.out.bl.size; have hs3 := hk3.size; clear hk3 ho3 hL3)
            | (at_builtin; refine list_bytes rfl (.tmp 61) (.tmp 62) rfl w.heap.size (.slice A7 (xs.length + 1) c7) (xs ++ [zn]) rfl (by have := HT3.out.o4; rwa [List.length_append] at this) ⟨g5, 0, none⟩ (ys.length) c5 (ys) rfl rfl (own_cells HT3.out.o5) Hf3.out hz3 ?_; intro A8 c8 w4 hk4 ho4 hL4; have HT4 := Kp.mk (HT3.out.outp ho4 hk4 (by rw [List.length_append]; exact hL4)); have HT5 := Kp.mk HT4.out.new; have hz5 := HT5.out.bl.size; have hs4 := hk4.size; clear hk4 ho4 hL4)
            | (at_builtin; refine list_bytes rfl (.tmp 67) (.tmp 79) rfl w.heap.size (.slice A8 (xs.length + (ys.length + 1)) c8) (xs ++ [zn] ++ ys) rfl (by have h := (HT5.out.alloc (.cells #[.int .u8 ((x : Int) + 124), .int .u8 (((y : Int) - 1) / 256), .int .u8 (((y : Int) - 1) % 256)] 5)).o4; rw [show (xs ++ [zn] ++ ys).length = xs.length + (ys.length + 1) by simp] at h; exact h) ⟨w4.heap.size + 1, 0, none⟩ 3 3 tz rfl Htl.out (by rw [Hth.out]; exact World.news_of_block (cs := #[.int .u8 ((x : Int) + 124), .int .u8 (((y : Int) - 1) / 256), .int .u8 (((y : Int) - 1) % 256)]) (t := 5) (fr := (0, 0)) (by have := heap_alloc_new (w4.alloc (.cells #[] 5)) (.cells #[.int .u8 ((x : Int) + 124), .int .u8 (((y : Int) - 1) / 256), .int .u8 (((y : Int) - 1) % 256)] 5); rw [show (w4.alloc (.cells #[] 5)).heap.size = w4.heap.size + 1 by simp] at this; exact this)) Hf4.out (by simp; omega) ?_; intro A9 c9 w5 hk5 ho5 hL5; have HT6 := Kp.mk ((HT5.out.alloc _).outp ho5 hk5 (by rw [show (xs ++ [zn] ++ ys).length = xs.length + (ys.length + 1) by simp]; exact hL5)); clear hk5 ho5 hL5))
          go_roundw
          case measure => simp [intOf]; omega
          case rel => exact ⟨a + x, a + x, xs ++ [zn] ++ ys ++ tz, [], A9, c9, _, 0, by simp, rfl, by go_num, HT6, ⟨⟨by rw [Hstr.out]; exact Hat.out, by simp, fun _ => rfl⟩⟩⟩
        · have hpos : decide (0 < ys.length) = false := by have := Hyl.out; simp only [decide_eq_false_iff_not]; omega
          have hy0 : Kp (ys = []) := ⟨List.eq_nil_of_length_eq_zero (by have := Hyl.out; omega)⟩
          have Hstr : Kp (xs = xs ++ stretch kn.data.toList f a) := ⟨by rw [stretch, if_neg hfa2, List.append_nil]⟩
          have Hf4 : Kp (Fit (xs.length + tz.length)) := ⟨by unfold Fit; rw [Htl.out]; omega⟩
          go_wp2_with (first
            | (go_at_call 18; refine (Hbest.out).mono ?_; rintro e w1 ⟨rfl, hk⟩; have Hw1 := Kp.mk (HT.out.keep hk); have hs1 := hk.size; clear hk)
            | (at_builtin; refine list_bytes rfl (.tmp 67) (.tmp 79) rfl w.heap.size (.slice A4 (xs.length) c4) (xs) rfl ((Hw1.out.alloc _).o4) ⟨(w1).heap.size, 0, none⟩ 3 3 tz rfl Htl.out (by rw [Hth.out]; exact World.news_of_block (cs := #[.int .u8 ((x : Int) + 124), .int .u8 (((y : Int) - 1) / 256), .int .u8 (((y : Int) - 1) % 256)]) (t := 5) (fr := (0, 0)) (heap_alloc_new (w1) _)) Hf4.out (by simp; omega) ?_; intro A9 c9 w5 hk5 ho5 hL5; have HT6 := Kp.mk ((Hw1.out.alloc _).outp ho5 hk5 (hL5)); clear hk5 ho5 hL5))
          go_roundw
          case measure => simp [intOf]; omega
          case rel => exact ⟨a + x, a + x, xs ++ tz, ys, A9, c9, A5, c5, by simp, rfl, by go_num, HT6, ⟨⟨by have h := Hat.out; rw [← Hstr.out] at h; exact h, by rw [hy0.out]; simp, fun _ => rfl⟩⟩⟩
    · have hlt' : decide (a < kn.size) = false := by simpa using hlt
      have hcv := own_str HT.out.o4
      have hd := HLw.out.at_.done (by rw [Hl.out]; exact hlt)
      have hf := HLw.out.dn (by rw [Hl.out]; omega)
      rw [hf, stretch, if_neg (Nat.lt_irrefl _), List.append_nil] at hd
      have hxr : strOf xs = RS := by rw [hd, HRS.out]
      rw [hxr] at hcv
      clear hd hf hxr
      go_wp2_with fail
      go_ret
      exact ⟨rfl, HT.out.bl⟩
end Go.Proofs.Ythahflokacgjjaa.WinP
