/-
  runs.Pack.
-/
import Derived.Test.YtnbihffkaagmjaaC3
import Derived.Test.YtnbihffkaagmjaaC4
import Derived.Test.YtnbihffkaagmjaaM2
import Derived.WalkSmall
namespace Go.Proofs.Ytnbihffkaagmjaa.RunsP
open Go.RowKit Go.RunLaws Go.Proofs.Ytnbihffkaagmjaa.Pl
set_option linter.unusedVariables false

/-- a world with the three variables made -/
theorem bx_start (s : ByteArray) (w : World) : Bx w.heap.size s 0 (.slice none 0 0) (((w.alloc (.cells #[.string s] 9)).alloc (.cells #[.slice none 0 0] 30)).alloc (.cells #[.int .i64 0] 3)) := by
  refine ⟨?_, ?_, ?_⟩
  · rw [Below.heap_alloc _ _ _ (by simp <;> omega), Below.heap_alloc _ _ _ (by simp)]
    exact heap_alloc_new w _
  · rw [Below.heap_alloc _ _ _ (by simp)]
    have := heap_alloc_new (w.alloc (.cells #[.string s] 9)) (.cells #[.slice none 0 0] 30)
    simpa using this
  · have := heap_alloc_new ((w.alloc (.cells #[.string s] 9)).alloc (.cells #[.slice none 0 0] 30)) (.cells #[.int .i64 0] 3)
    simpa using this

/-- an owned row that lies below what has turned -/
theorem own_kept {w w' : World} {base : Nat} {v : Value} {n : Nat} {xs : List Value} (h : w.ownsRow base 5 1 v n xs) (k : Below w.heap.size w w') : w'.ownsRow base 5 1 v n xs := by
  refine ⟨h.1, ?_⟩
  rcases h.2 with h2 | ⟨g, cap, cur, hv, hb, hg, r⟩
  · exact .inl h2
  · exact .inr ⟨g, cap, cur, hv, hb, by rw [k.block g (lt_of_block hg)]; exact hg, r⟩

theorem pack_fit (L : List UInt8) (h : L.length ≤ 140737488351232) (n : Nat) (hn : n ≤ (pack L).length + 2) : Fit n := by
  have := pack_little L
  unfold Fit
  omega

theorem same_b (s : ByteArray) (a : Nat) (w : World) (ha : a < s.size) (hs : s.size ≤ 140737488351232) :
    Calls Try.prog 14 #[.string s, .int .i64 a] w fun e w' => e = .returned (.int .i64 (run s.data.toList a)) ∧ Below w.heap.size w w' := by
  refine (same_any s a w ha hs).mono ?_
  rintro e w1 ⟨rfl, n, rfl⟩
  exact ⟨rfl, rfl, rfl, rfl, Nat.le_refl _, fun _ _ => rfl⟩

set_option maxRecDepth 100000 in
set_option maxHeartbeats 8000000 in
theorem pack_any (s : ByteArray) (w : World) (hs : s.size ≤ 140737488351232) :
    Calls Try.prog 9 #[.string s] w fun e w' => e = .returned (.string (strOf (pack s.data.toList))) ∧ Below w.heap.size w w' := by
  have Hl : Kp (s.data.toList.length = s.size) := ⟨by rw [Array.length_toList]; rfl⟩
  have Hfit : Kp (∀ n, n ≤ (pack s.data.toList).length + 2 → Fit n) := ⟨fun n hn => pack_fit _ (by rw [Hl.out]; exact hs) n hn⟩
  have Hst := Kp.mk (bx_start s w)
  have HB0 : Kp (Below w.heap.size w (((w.alloc (.cells #[.string s] 9)).alloc (.cells #[.slice none 0 0] 30)).alloc (.cells #[.int .i64 0] 3))) := ⟨(((Below.refl _ w).alloc (Nat.le_refl _) _).alloc (by simp) _).alloc (by simp <;> omega) _⟩
  obtain ⟨R, hR⟩ : ∃ R, strOf (pack s.data.toList) = R := ⟨_, rfl⟩
  have HR := Kp.mk hR
  rw [hR]
  clear hR
  go_enter Try.func9, Try.ntmps9
  go_wp2_with fail
  go_loopw [6, 7] (fun v6 v7 wr => ∃ (a f : Nat) (v : Value) (xs : List UInt8), v6 = .int .i64 a ∧ Bx w.heap.size s f v wr ∧ Own wr (w.heap.size + 3) v xs ∧ Below w.heap.size w wr ∧ Kp (At s.data.toList f a xs)) (fun v6 _ _ => s.size - (intOf v6).toNat)
  case atStart => exact ⟨0, 0, _, [], rfl, Hst.out, nil_owns _ _, HB0.out, ⟨At.start _⟩⟩
  case round =>
    obtain ⟨a, f, v, xs, rfl, hb, ho, hbl, HA⟩ := hrel
    have c0 := hb.c0
    have hsz := hb.size
    have Hb := Kp.mk hb
    have Ho := Kp.mk ho
    have Hbl := Kp.mk hbl
    have hfa := HA.out.fa
    have hal := HA.out.al
    have haf := HA.out.lt
    rw [Hl.out] at hal
    have hlen := HA.out.len
    clear hb ho hbl
    by_cases hlt : a < s.size
    · have hlt' : decide (a < s.size) = true := by simpa using hlt
      obtain ⟨r, hr⟩ : ∃ r, run s.data.toList a = r := ⟨_, rfl⟩
      have HR2 := Kp.mk hr
      have Hsame : Kp (∀ W, Calls Try.prog 14 #[.string s, .int .i64 a] W fun e w' => e = .returned (.int .i64 r) ∧ Below W.heap.size W w') := ⟨fun W => by rw [← hr]; exact same_b s a W hlt hs⟩
      have hr130 : r ≤ 130 ∧ a + r ≤ s.size := by rw [← hr, ← Hl.out]; exact run_le (by rw [Hl.out]; omega)
      clear hr
      by_cases h3 : r < 3
      · have h3' : decide ((r : Int) < 3) = true := by simp; omega
        have Ht : Kp (three s.data.toList a = false) := ⟨by
          cases ht : three s.data.toList a with
          | false => rfl
          | true => have := (three_iff (by rw [Hl.out]; exact hlt)).1 ht; rw [HR2.out] at this; omega⟩
        have hw1 : IntKind.i64.wrap ((a : Int) + 1) = (a : Int) + 1 := IntWalk.i64_in _ (by omega)
        have hw2 : IntKind.i64.wrap ((a : Int) + 1 - f) = (a : Int) + 1 - f := IntWalk.i64_in _ (by omega)
        by_cases h128 : a + 1 - f = 128
        · have h128' : (((a : Int) + 1 - f) == 128) = true := by simp; omega
          have hat := HA.out.full (by rw [Hl.out]; exact hlt) Ht.out h128
          have Hat := Kp.mk hat
          have hl2 := hat.len
          rw [List.length_append, stretch_len _ _ _ (by rw [Hl.out]; exact hlt), if_pos (by omega)] at hl2
          have Hcl : Kp (∀ W, Bx w.heap.size s f v W → Own W (w.heap.size + 3) v xs → Calls Try.prog 13 #[.int .i64 ((a : Int) + 1), .pointer (some ⟨w.heap.size + 2, 0, none⟩), .pointer (some ⟨w.heap.size + 1, 0, none⟩), .pointer (some ⟨w.heap.size, 0, none⟩)] W fun e w' => e = .returned (.tuple #[]) ∧ ∃ v', Bx w.heap.size s (a + 1) v' w' ∧ Own w' (w.heap.size + 3) v' (xs ++ stretch s.data.toList f (a + 1)) ∧ Below w.heap.size W w') := ⟨fun W h1 h2 =>
            clos_any w.heap.size s f (a + 1) v xs W h1 h2 (by omega) (by omega) (by omega) (by omega) (Hfit.out _ (by omega))⟩
          clear hat hl2 hlen
          go_wp2_with (first | (go_at_call 14; refine (Hsame.out _).mono ?_; rintro e w1 ⟨rfl, hk⟩; have hB1 : Bx w.heap.size s f v w1 := Hb.out.below (hk.mono hsz); have e0 := hB1.c0; have e1 := hB1.c1; have d2 := hB1.c2; have HB1 := Kp.mk hB1; have Ho1 : Kp (Own w1 (w.heap.size + 3) v xs) := ⟨own_kept Ho.out hk⟩; have Hk1 : Kp (Below w.heap.size wr w1) := ⟨hk.mono (by omega)⟩; clear hk hB1) | (go_at_call 13; refine (Hcl.out _ HB1.out Ho1.out).mono ?_; rintro e w2 ⟨rfl, v2, hB2, ho2, hk2⟩; have i0 := hB2.c0; have i1 := hB2.c1; have i2 := hB2.c2; have j1 := hB2.f1; have j2 := hB2.f2; have HB2 := Kp.mk hB2; have Ho2 := Kp.mk ho2; have Hk2 := Kp.mk hk2; clear hB2 ho2 hk2))
          go_roundw
          case measure => simp [intOf]; omega
          case rel => exact ⟨a + 1, a + 1, v2, _, by go_num, HB2.out, Ho2.out, (Hbl.out.trans Hk1.out).trans Hk2.out, Hat⟩
        · have h128' : (((a : Int) + 1 - f) == 128) = false := by simp; omega
          go_wp2_with (go_at_call 14; refine (Hsame.out _).mono ?_; rintro e w1 ⟨rfl, hk⟩; have hB1 : Bx w.heap.size s f v w1 := Hb.out.below (hk.mono hsz); have d2 := hB1.c2; have HB1 := Kp.mk hB1; have Ho1 : Kp (Own w1 (w.heap.size + 3) v xs) := ⟨own_kept Ho.out hk⟩; have Hk1 := Kp.mk hk; clear hk hB1)
          go_roundw
          case measure => simp [intOf]; omega
          case rel => exact ⟨a + 1, f, v, xs, by go_num, HB1.out, Ho1.out, Hbl.out.trans (Hk1.out.mono (by omega)), ⟨HA.out.on (by rw [Hl.out]; exact hlt) Ht.out h128⟩⟩
      · have h3' : decide ((r : Int) < 3) = false := by simp; omega
        have Ht : Kp (three s.data.toList a = true) := ⟨(three_iff (by rw [Hl.out]; exact hlt)).2 (by rw [HR2.out]; omega)⟩
        have hat := HA.out.three Ht.out
        rw [HR2.out] at hat
        have Hat := Kp.mk hat
        have hl2 := hat.len
        have hs0 := stretch_len s.data.toList f a (by rw [Hl.out]; exact hal)
        have hs1 : (stretch s.data.toList f a).length ≤ a - f + 1 ∧ a - f ≤ (stretch s.data.toList f a).length := by rw [hs0]; split <;> omega
        simp only [List.length_append, List.length_cons, List.length_nil] at hl2
        have hw1 : IntKind.i64.wrap ((a : Int) + r) = (a : Int) + r := IntWalk.i64_in _ (by omega)
        have hw2 : IntKind.i64.wrap ((r : Int) + 125) = (r : Int) + 125 := IntWalk.i64_in _ (by omega)
        have hw3 : IntKind.u8.wrap ((r : Int) + 125) = ((UInt8.ofNat (125 + r)).toNat : Int) := by
          rw [UInt8.toNat_ofNat']
          unfold IntKind.wrap
          simp only [IntKind.bits, IntKind.signed]
          simp
          omega
        have Hcl : Kp (∀ W, Bx w.heap.size s f v W → Own W (w.heap.size + 3) v xs → Calls Try.prog 13 #[.int .i64 a, .pointer (some ⟨w.heap.size + 2, 0, none⟩), .pointer (some ⟨w.heap.size + 1, 0, none⟩), .pointer (some ⟨w.heap.size, 0, none⟩)] W fun e w' => e = .returned (.tuple #[]) ∧ ∃ v', Bx w.heap.size s a v' w' ∧ Own w' (w.heap.size + 3) v' (xs ++ stretch s.data.toList f a) ∧ Below w.heap.size W w') := ⟨fun W h1 h2 =>
          clos_any w.heap.size s f a v xs W h1 h2 (by omega) (by omega) (by omega) (by omega) (Hfit.out _ (by omega))⟩
        have hf2 : Fit ((xs ++ stretch s.data.toList f a).length + [UInt8.ofNat (125 + r), at_ s.data.toList a].length) := Hfit.out _ (by rw [List.length_append]; simp only [List.length_cons, List.length_nil]; omega)
        have Hf2 := Kp.mk hf2
        obtain ⟨q, hq⟩ : ∃ q, UInt8.ofNat (125 + r) = q := ⟨_, rfl⟩
        rw [hq] at hw3 Hat Hf2
        have g0 : (0 : Int) ≤ a := by omega
        have g1 : (a : Int) < s.size := by omega
        have hby : ((s[a]).toNat : Int) = ((at_ s.data.toList a).toNat : Int) := by rw [byte_at s a hlt]
        clear hat hl2 hlen hf2 hq hs0 hs1
        go_wp2_with (first | (go_at_call 14; refine (Hsame.out _).mono ?_; rintro e w1 ⟨rfl, hk⟩; have hB1 : Bx w.heap.size s f v w1 := Hb.out.below (hk.mono hsz); have e0 := hB1.c0; have e1 := hB1.c1; have d2 := hB1.c2; have HB1 := Kp.mk hB1; have Ho1 : Kp (Own w1 (w.heap.size + 3) v xs) := ⟨own_kept Ho.out hk⟩; have Hk1 : Kp (Below w.heap.size wr w1) := ⟨hk.mono (by omega)⟩; clear hk hB1) | (go_at_call 13; refine (Hcl.out _ HB1.out Ho1.out).mono ?_; rintro e w2 ⟨rfl, v2, hB2, ho2, hk2⟩; have i0 := hB2.c0; have i1 := hB2.c1; have i2 := hB2.c2; have j1 := hB2.f1; have j2 := hB2.f2; have HB2 := Kp.mk hB2; have Ho2 := Kp.mk ho2; have Hk2 := Kp.mk hk2; clear hB2 ho2 hk2))
        have hz2 := HB2.out.size
        obtain ⟨ys, hys⟩ : ∃ ys, xs ++ stretch s.data.toList f a = ys := ⟨_, rfl⟩
        rw [hys] at Ho2 Hf2 Hat Hcl
        clear hys
        have hBa : Bx w.heap.size s a v2 (w2.alloc (.cells #[.int .u8 q.toNat, .int .u8 (at_ s.data.toList a).toNat] 5)) := HB2.out.below ((Below.refl _ w2).alloc hz2 _)
        have k0 := hBa.c0
        have k1 := hBa.c1
        clear hBa
        go_region_law (
          (refine step_bytes (by rfl) (.tmp 30) (.tmp 37) (by rfl) (w.heap.size + 3) v2 ys (by rfl) (Ho2.out.drew.alloc _) ⟨w2.heap.size, 0, none⟩ 2 2 [q, at_ s.data.toList a] (by rfl) (by rfl) (World.news_of_block (cs := #[.int .u8 q.toNat, .int .u8 (at_ s.data.toList a).toNat]) (t := 5) (fr := (0, 0)) (heap_alloc_new w2.drew _)) Hf2.out (by simp <;> omega) ?_
           intro A3 c3 w3 hk3 ho3
           have hk3' : Below (w.heap.size + 3) w2 w3 := ((Below.refl (w.heap.size + 3) w2).drew.alloc hz2 _).trans hk3
           have hB3 : Bx w.heap.size s a v2 w3 := HB2.out.below hk3'
           have m0 := hB3.c0
           have m1 := hB3.c1
           have m2 := hB3.c2
           have n1 := hB3.f1
           have n2 := hB3.f2
           have HB3 := Kp.mk hB3
           have Ho3 : Kp (Own w3 (w.heap.size + 3) (.slice A3 (ys.length + 2) c3) (ys ++ [q, at_ s.data.toList a])) := ⟨by rw [show ys.length + 2 = (ys ++ [q, at_ s.data.toList a]).length by simp]; exact ho3⟩
           have Hk3 := Kp.mk hk3'.of3
           clear hB3 ho3 hk3 hk3'))
        all_goals go_wp2_with fail
        all_goals go_roundw
        all_goals try case measure => simp [intOf]; omega
        all_goals exact ⟨a + r, a + r, _, _, by go_num, (HB3.out.setOut _).setFrom _, ownsRow_setCell_below (a := ⟨w.heap.size + 2, 0, none⟩) (ownsRow_setCell_below (a := ⟨w.heap.size + 1, 0, none⟩) Ho3.out (Nat.lt_succ_of_lt (Nat.lt_succ_self _)) _) (Nat.lt_succ_self _) _,
          Below.setCell (p := ⟨w.heap.size + 2, 0, none⟩) (Below.setCell (p := ⟨w.heap.size + 1, 0, none⟩) (((Hbl.out.trans Hk1.out).trans Hk2.out).trans Hk3.out) (Nat.le_add_right _ _) _) (Nat.le_add_right _ _) _, Hat⟩
    · have hlt' : decide (a < s.size) = false := by simpa using hlt
      have hd := HA.out.done (by rw [Hl.out]; omega)
      rw [Hl.out] at hd
      have Hd := Kp.mk hd
      have hs0 := stretch_len s.data.toList f s.size (by rw [Hl.out]; exact Nat.le_refl _)
      have hs1 : s.size - f ≤ (stretch s.data.toList f s.size).length := by rw [hs0]; split <;> omega
      have hl2 : xs.length + (stretch s.data.toList f s.size).length = (pack s.data.toList).length := by rw [← hd, List.length_append]
      have Hcl : Kp (∀ W, Bx w.heap.size s f v W → Own W (w.heap.size + 3) v xs → Calls Try.prog 13 #[.int .i64 s.size, .pointer (some ⟨w.heap.size + 2, 0, none⟩), .pointer (some ⟨w.heap.size + 1, 0, none⟩), .pointer (some ⟨w.heap.size, 0, none⟩)] W fun e w' => e = .returned (.tuple #[]) ∧ ∃ v', Bx w.heap.size s s.size v' w' ∧ Own w' (w.heap.size + 3) v' (xs ++ stretch s.data.toList f s.size) ∧ Below w.heap.size W w') := ⟨fun W h1 h2 =>
        clos_any w.heap.size s f s.size v xs W h1 h2 (by omega) (Nat.le_refl _) (by omega) (by omega) (Hfit.out _ (by omega))⟩
      clear hd hs0 hs1 hl2 hlen
      go_wp2_with (go_at_call 13; refine (Hcl.out _ Hb.out Ho.out).mono ?_; rintro e w2 ⟨rfl, v2, hB2, ho2, hk2⟩; have i0 := hB2.c0; have i1 := hB2.c1; have HB2 := Kp.mk hB2; have Ho2 := Kp.mk ho2; have Hk2 := Kp.mk hk2; clear hB2 ho2 hk2; have hcv := own_str Ho2.out; rw [Hd.out, HR.out] at hcv)
      go_ret
      exact ⟨rfl, Hbl.out.trans Hk2.out⟩
end Go.Proofs.Ytnbihffkaagmjaa.RunsP
