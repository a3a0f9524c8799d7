/-
  R06.Pack.
-/
import Derived.Test.YtnbihffkaagmjaaC8
namespace Go.Proofs.Ytnbihffkaagmjaa.RunsP
open Go.RowKit Go.RunLaws Go.Proofs.Ytnbihffkaagmjaa.Pl
set_option linter.unusedVariables false

theorem below_dn (B : Nat) (w : World) (n : Nat) : Below B w (w.drewN n) := ⟨rfl, rfl, rfl, Nat.le_refl _, fun _ _ => rfl⟩

theorem three_b (s : ByteArray) (a : Nat) (w : World) (hs : s.size ≤ 140737488351232) (has : a ≤ s.size) :
    Calls Try.prog 15 #[.string s, .int .i64 a] w fun e w' => e = .returned (.bool (three s.data.toList a)) ∧ Below w.heap.size w w' := by
  refine (three_any s a w hs has).mono ?_
  rintro e w1 ⟨rfl, n, rfl⟩
  exact ⟨rfl, rfl, rfl, rfl, Nat.le_refl _, fun _ _ => rfl⟩

theorem pack_fit' (L : List UInt8) (h : L.length ≤ 140737488351232) (n : Nat) (hn : n ≤ (pack L).length + 2) : Fit n := by
  have := pack_little L
  unfold Fit
  omega

theorem own_kept' {w w' : World} {base : Nat} {v : Value} {n : Nat} {xs : List Value} (h : w.ownsRow base 5 1 v n xs) (k : Below w.heap.size w w') : w'.ownsRow base 5 1 v n xs := by
  refine ⟨h.1, ?_⟩
  rcases h.2 with h2 | ⟨g, cap, cur, hv, hb, hg, r⟩
  · exact .inl h2
  · exact .inr ⟨g, cap, cur, hv, hb, by rw [k.block g (lt_of_block hg)]; exact hg, r⟩

set_option maxRecDepth 100000 in
set_option maxHeartbeats 8000000 in
theorem pack_ref (s : ByteArray) (w : World) (hs : s.size ≤ 140737488351232) :
    Calls Try.prog 10 #[.string s] w fun e w' => e = .returned (.string (strOf (pack s.data.toList))) ∧ Below w.heap.size w w' := by
  have Hl : Kp (s.data.toList.length = s.size) := ⟨by rw [Array.length_toList]; rfl⟩
  have Hfit : Kp (∀ n, n ≤ (pack s.data.toList).length + 2 → Fit n) := ⟨fun n hn => pack_fit' _ (by rw [Hl.out]; exact hs) n hn⟩
  obtain ⟨P, hP⟩ : ∃ P, pack s.data.toList = P := ⟨_, rfl⟩
  rw [hP] at Hfit
  have HP := Kp.mk hP
  rw [hP]
  clear hP
  have Hem := Kp.mk (owns_empty w)
  go_enter Try.func10, Try.ntmps10
  go_wp2_with fail
  go_loopw [3, 4] (fun v3 v4 wr => ∃ (i : Nat) (A : Option Addr) (c : Nat) (out : List UInt8), v3 = .slice A out.length c ∧ v4 = .int .i64 i ∧ i ≤ s.size ∧ Own wr w.heap.size (.slice A out.length c) out ∧ Below w.heap.size w wr ∧ Kp (out ++ pk s.data.toList i = P)) (fun _ v4 _ => s.size - (intOf v4).toNat)
  case atStart => exact ⟨0, _, 0, [], rfl, rfl, Nat.zero_le _, Hem.out, (Below.refl _ _).alloc (Nat.le_refl _) _, ⟨HP.out⟩⟩
  case round =>
    obtain ⟨a, A, c, out, rfl, rfl, hi, ho, hbl, HF⟩ := hrel
    have Ho := Kp.mk ho
    have Hbl := Kp.mk hbl
    clear ho hbl
    by_cases hlt : a < s.size
    · have hlt' : decide (a < s.size) = true := by simpa using hlt
      have g0 : (0 : Int) ≤ a := by omega
      have g1 : (a : Int) < s.size := by omega
      obtain ⟨t, ht⟩ : ∃ t, three s.data.toList a = t := ⟨_, rfl⟩
      have Hth : Kp (∀ W, Calls Try.prog 15 #[.string s, .int .i64 a] W fun e w' => e = .returned (.bool t) ∧ Below W.heap.size W w') := ⟨fun W => by rw [← ht]; exact three_b s a W hs hi⟩
      have Ht := Kp.mk ht
      clear ht
      cases t with
      | true =>
        obtain ⟨r, hr⟩ : ∃ r, run s.data.toList a = r := ⟨_, rfl⟩
        have hr3 : 3 ≤ r := by rw [← hr]; exact run_ge Ht.out
        have hr130 : r ≤ 130 ∧ a + r ≤ s.size := by rw [← hr, ← Hl.out]; exact run_le (by rw [Hl.out]; exact hi)
        have HF1 : Kp ((out ++ [UInt8.ofNat (125 + r), at_ s.data.toList a]) ++ pk s.data.toList (a + r) = P) := ⟨by
          rw [← HF.out, pk_run Ht.out, hr, List.append_assoc]; rfl⟩
        have HR := Kp.mk hr
        have hwr : IntKind.i64.wrap ((125 : Int) + r) = (125 : Int) + r := IntWalk.i64_in _ (by omega)
        obtain ⟨q, hq⟩ : ∃ q, UInt8.ofNat (125 + r) = q := ⟨_, rfl⟩
        have hq2 : IntKind.u8.wrap ((125 : Int) + r) = (q.toNat : Int) := by
          rw [← hq, UInt8.toNat_ofNat']
          unfold IntKind.wrap
          simp only [IntKind.bits, IntKind.signed]
          simp
        rw [hq] at HF1
        have hby : ((s[a]).toNat : Int) = ((at_ s.data.toList a).toNat : Int) := by rw [byte_at s a hlt]
        clear hr hq
        go_wp2_with (go_at_call 15; refine (Hth.out _).mono ?_; rintro e w1 ⟨rfl, hk⟩; have Ho1 : Kp (Own w1 w.heap.size (.slice A out.length c) out) := ⟨own_kept' Ho.out hk⟩; have Hb1 : Kp (Below w.heap.size w w1) := ⟨Hbl.out.trans (hk.mono Hbl.out.size)⟩; clear hk)
        go_loopw [5] (fun v5 wr => ∃ n : Nat, v5 = .int .i64 n ∧ n ≤ 130 ∧ a + n ≤ s.size ∧ Kp (r = runF s.data.toList a (130 - n) n) ∧ Below w1.heap.size w1 wr) (fun v5 _ => 130 - (intOf v5).toNat)
        case atStart => exact ⟨0, rfl, Nat.zero_le _, hi, ⟨HR.out.symm⟩, Below.refl _ _⟩
        case round =>
          obtain ⟨n, rfl, hn130, han, HN, hb2⟩ := hrel
          have Hb2 := Kp.mk hb2
          clear hb2
          have hwn : IntKind.i64.wrap ((a : Int) + n) = (a : Int) + n := IntWalk.i64_in _ (by omega)
          have hwn1 : IntKind.i64.wrap ((n : Int) + 1) = (n : Int) + 1 := IntWalk.i64_in _ (by omega)
          by_cases hco : a + n < s.size ∧ n < 130 ∧ at_ s.data.toList (a + n) = at_ s.data.toList a
          · obtain ⟨c1, c2, c3⟩ := hco
            have c1' : decide ((a : Int) + n < s.size) = true := by simp; omega
            have c2' : decide ((n : Int) < 130) = true := by simp; omega
            have g2 : (0 : Int) ≤ (a : Int) + n := by omega
            have g3 : (a : Int) + n < s.size := by omega
            have g4 : ((a : Int) + n).toNat = a + n := by omega
            have c3' : (((s[a + n]).toNat : Int) == ((s[a]).toNat : Int)) = true := by rw [byte_at s _ c1, byte_at s _ hlt, c3]; simp
            have HN2 : Kp (r = runF s.data.toList a (130 - (n + 1)) (n + 1)) := ⟨by
              rw [HN.out, show 130 - n = 130 - (n + 1) + 1 by omega, runF, if_pos ⟨by rw [Hl.out]; exact c1, c2, c3⟩]⟩
            clear c3
            go_wp2_with fail
            go_quiet (fail)
            go_wp2_with fail
            go_roundw
            case measure => simp [intOf]; omega
            case rel => exact ⟨n + 1, by go_num, by omega, by omega, HN2, Hb2.out.trans (below_dn _ wr nq)⟩
          · have hnr : r = n := by
              have hn := HN.out
              cases hf : 130 - n with
              | zero => rw [hf] at hn; exact hn
              | succ f => rw [hf, runF, if_neg (fun h => hco ⟨by rw [← Hl.out]; exact h.1, h.2⟩)] at hn; exact hn
            subst hnr
            have Hbx : Kp (Below w.heap.size w wr) := ⟨Hb1.out.trans (Hb2.out.mono Hb1.out.size)⟩
            have hz1 := Hbx.out.size
            have hl1 : out.length + 2 ≤ P.length := by
              have := congrArg List.length HF1.out
              rw [List.length_append, List.length_append] at this
              simp only [List.length_cons, List.length_nil] at this
              omega
            have Hf : Kp (Fit (out.length + [q, at_ s.data.toList a].length)) := ⟨Hfit.out _ (by simp only [List.length_cons, List.length_nil]; omega)⟩
            clear hl1
            by_cases c1 : a + r < s.size
            · have c1' : decide ((a : Int) + r < s.size) = true := by simp; omega
              by_cases c2 : r < 130
              · have c2' : decide ((r : Int) < 130) = true := by simp; omega
                have g2 : (0 : Int) ≤ (a : Int) + r := by omega
                have g3 : (a : Int) + r < s.size := by omega
                have g4 : ((a : Int) + r).toNat = a + r := by omega
                have c3' : (((s[a + r]).toNat : Int) == ((s[a]).toNat : Int)) = false := by
                  rw [byte_at s _ c1, byte_at s _ hlt]
                  simp only [beq_eq_false_iff_ne, ne_eq, Int.natCast_inj]
                  exact fun h => hco ⟨c1, c2, UInt8.toNat_inj.1 h⟩
                clear hco
                go_wp2_with fail
                go_quiet (fail)
                go_wp2_with (at_builtin; refine list_bytes rfl (.tmp 37) (.tmp 44) rfl w.heap.size (.slice A out.length c) out rfl (own_kept' (own_kept' Ho1.out Hb2.out) ((below_dn _ wr nq).alloc (by simp) _)) ⟨wr.heap.size, 0, none⟩ 2 2 [q, at_ s.data.toList a] rfl rfl (World.news_of_block (cs := #[.int .u8 q.toNat, .int .u8 (at_ s.data.toList a).toNat]) (t := 5) (fr := (0, 0)) (heap_alloc_new (wr.drewN nq) _)) Hf.out (by simp <;> omega) ?_; intro A2 c2 w2 hk2 ho2; have Ho2 : Kp (Own w2 w.heap.size (.slice A2 (out.length + 2) c2) (out ++ [q, at_ s.data.toList a])) := ⟨by rw [show out.length + 2 = (out ++ [q, at_ s.data.toList a]).length by simp]; exact ho2⟩; have Hb3 : Kp (Below w.heap.size w w2) := ⟨((Hbx.out.trans (below_dn _ wr nq)).alloc hz1 _).trans hk2⟩; clear hk2 ho2)
                go_roundw
                case measure => simp [intOf]; omega
                case rel => exact ⟨a + r, A2, c2, out ++ [q, at_ s.data.toList a], by simp, by go_num, by omega, by rw [show (out ++ [q, at_ s.data.toList a]).length = out.length + 2 by simp]; exact Ho2.out, Hb3.out, HF1⟩
              · have c2' : decide ((r : Int) < 130) = false := by simp; omega
                clear hco
                go_wp2_with fail
                go_quiet (fail)
                go_wp2_with (at_builtin; refine list_bytes rfl (.tmp 37) (.tmp 44) rfl w.heap.size (.slice A out.length c) out rfl (own_kept' (own_kept' Ho1.out Hb2.out) ((below_dn _ wr nq).alloc (by simp) _)) ⟨wr.heap.size, 0, none⟩ 2 2 [q, at_ s.data.toList a] rfl rfl (World.news_of_block (cs := #[.int .u8 q.toNat, .int .u8 (at_ s.data.toList a).toNat]) (t := 5) (fr := (0, 0)) (heap_alloc_new (wr.drewN nq) _)) Hf.out (by simp <;> omega) ?_; intro A2 c2 w2 hk2 ho2; have Ho2 : Kp (Own w2 w.heap.size (.slice A2 (out.length + 2) c2) (out ++ [q, at_ s.data.toList a])) := ⟨by rw [show out.length + 2 = (out ++ [q, at_ s.data.toList a]).length by simp]; exact ho2⟩; have Hb3 : Kp (Below w.heap.size w w2) := ⟨((Hbx.out.trans (below_dn _ wr nq)).alloc hz1 _).trans hk2⟩; clear hk2 ho2)
                go_roundw
                case measure => simp [intOf]; omega
                case rel => exact ⟨a + r, A2, c2, out ++ [q, at_ s.data.toList a], by simp, by go_num, by omega, by rw [show (out ++ [q, at_ s.data.toList a]).length = out.length + 2 by simp]; exact Ho2.out, Hb3.out, HF1⟩
            · have c1' : decide ((a : Int) + r < s.size) = false := by simp; omega
              clear hco
              go_wp2_with fail
              go_quiet (fail)
              go_wp2_with (at_builtin; refine list_bytes rfl (.tmp 37) (.tmp 44) rfl w.heap.size (.slice A out.length c) out rfl (own_kept' (own_kept' Ho1.out Hb2.out) ((below_dn _ wr nq).alloc (by simp) _)) ⟨wr.heap.size, 0, none⟩ 2 2 [q, at_ s.data.toList a] rfl rfl (World.news_of_block (cs := #[.int .u8 q.toNat, .int .u8 (at_ s.data.toList a).toNat]) (t := 5) (fr := (0, 0)) (heap_alloc_new (wr.drewN nq) _)) Hf.out (by simp <;> omega) ?_; intro A2 c2 w2 hk2 ho2; have Ho2 : Kp (Own w2 w.heap.size (.slice A2 (out.length + 2) c2) (out ++ [q, at_ s.data.toList a])) := ⟨by rw [show out.length + 2 = (out ++ [q, at_ s.data.toList a]).length by simp]; exact ho2⟩; have Hb3 : Kp (Below w.heap.size w w2) := ⟨((Hbx.out.trans (below_dn _ wr nq)).alloc hz1 _).trans hk2⟩; clear hk2 ho2)
              go_roundw
              case measure => simp [intOf]; omega
              case rel => exact ⟨a + r, A2, c2, out ++ [q, at_ s.data.toList a], by simp, by go_num, by omega, by rw [show (out ++ [q, at_ s.data.toList a]).length = out.length + 2 by simp]; exact Ho2.out, Hb3.out, HF1⟩
      | false =>
        obtain ⟨r, hr⟩ : ∃ r, lit s.data.toList a = r := ⟨_, rfl⟩
        have hr1 : 1 ≤ r := by rw [← hr]; exact lit_ge (by rw [Hl.out]; exact hlt) Ht.out
        have hr128 : r ≤ 128 ∧ a + r ≤ s.size := by rw [← hr, ← Hl.out]; exact lit_le (by rw [Hl.out]; exact hi)
        obtain ⟨q, hq⟩ : ∃ q, UInt8.ofNat (r - 1) = q := ⟨_, rfl⟩
        obtain ⟨zs, hzs⟩ : ∃ zs, (s.data.toList.drop a).take r = zs := ⟨_, rfl⟩
        have Hzl : Kp (zs.length = r) := ⟨by rw [← hzs, List.length_take, List.length_drop, Hl.out]; omega⟩
        have HF1 : Kp (((out ++ [q]) ++ zs) ++ pk s.data.toList (a + r) = P) := ⟨by
          rw [← HF.out, pk_lit (by rw [Hl.out]; exact hlt) Ht.out, hr, hq, hzs]; simp⟩
        have hq2 : IntKind.u8.wrap ((r : Int) - 1) = (q.toNat : Int) := by
          rw [← hq, UInt8.toNat_ofNat']
          unfold IntKind.wrap
          simp only [IntKind.bits, IntKind.signed]
          simp
          omega
        have hwr : IntKind.i64.wrap ((r : Int) - 1) = (r : Int) - 1 := IntWalk.i64_in _ (by omega)
        have hwr2 : IntKind.i64.wrap ((a : Int) + r) = (a : Int) + r := IntWalk.i64_in _ (by omega)
        have Hcut : Kp ((s.extract a (a + r)).data.toList = zs) := ⟨by
          rw [ByteArray.data_extract, Array.toList_extract, ← hzs, List.extract_eq_take_drop, show a + r - a = r by omega]⟩
        have HR := Kp.mk hr
        clear hr hq hzs
        go_wp2_with (go_at_call 15; refine (Hth.out _).mono ?_; rintro e w1 ⟨rfl, hk⟩; have Ho1 : Kp (Own w1 w.heap.size (.slice A out.length c) out) := ⟨own_kept' Ho.out hk⟩; have Hb1 : Kp (Below w.heap.size w w1) := ⟨Hbl.out.trans (hk.mono Hbl.out.size)⟩; clear hk)
        go_loopw [5] (fun v5 wr => ∃ n : Nat, v5 = .int .i64 n ∧ n ≤ 128 ∧ a + n ≤ s.size ∧ Kp (r = litF s.data.toList a (128 - n) n) ∧ Below w1.heap.size w1 wr) (fun v5 _ => 128 - (intOf v5).toNat)
        case atStart => exact ⟨0, rfl, Nat.zero_le _, hi, ⟨HR.out.symm⟩, Below.refl _ _⟩
        case round =>
          obtain ⟨n, rfl, hn128, han, HN, hb2⟩ := hrel
          have Hb2 := Kp.mk hb2
          clear hb2
          have hwn : IntKind.i64.wrap ((a : Int) + n) = (a : Int) + n := IntWalk.i64_in _ (by omega)
          have hwn1 : IntKind.i64.wrap ((n : Int) + 1) = (n : Int) + 1 := IntWalk.i64_in _ (by omega)
          obtain ⟨t2, ht2⟩ : ∃ t2, three s.data.toList (a + n) = t2 := ⟨_, rfl⟩
          have Hth2 : Kp (∀ W, Calls Try.prog 15 #[.string s, .int .i64 ((a : Int) + n)] W fun e w' => e = .returned (.bool t2) ∧ Below W.heap.size W w') := ⟨fun W => by rw [← ht2]; exact three_b s (a + n) W hs han⟩
          have Ht2 := Kp.mk ht2
          clear ht2
          by_cases hco : a + n < s.size ∧ n < 128 ∧ t2 = false
          · obtain ⟨c1, c2, rfl⟩ := hco
            have c1' : decide ((a : Int) + n < s.size) = true := by simp; omega
            have c2' : decide ((n : Int) < 128) = true := by simp; omega
            have HN2 : Kp (r = litF s.data.toList a (128 - (n + 1)) (n + 1)) := ⟨by
              rw [HN.out, show 128 - n = 128 - (n + 1) + 1 by omega, litF, if_pos ⟨by rw [Hl.out]; exact c1, c2, Ht2.out⟩]⟩
            go_wp2_with (go_at_call 15; refine (Hth2.out _).mono ?_; rintro e w2 ⟨rfl, hk⟩; have Hb3 : Kp (Below w1.heap.size w1 w2) := ⟨Hb2.out.trans (hk.mono Hb2.out.size)⟩; clear hk)
            go_roundw
            case measure => simp [intOf]; omega
            case rel => exact ⟨n + 1, by go_num, by omega, by omega, HN2, Hb3.out⟩
          · have hnr : r = n := by
              have hn := HN.out
              cases hf : 128 - n with
              | zero => rw [hf] at hn; exact hn
              | succ f => rw [hf, litF, if_neg (fun h => hco ⟨by rw [← Hl.out]; exact h.1, h.2.1, by rw [← Ht2.out]; exact h.2.2⟩)] at hn; exact hn
            subst hnr
            have hl1 : out.length + 1 + r ≤ P.length := by
              have := congrArg List.length HF1.out
              rw [List.length_append, List.length_append, List.length_append, Hzl.out] at this
              simp only [List.length_cons, List.length_nil] at this
              omega
            have Hf : Kp (Fit (out.length + [q].length)) := ⟨Hfit.out _ (by simp only [List.length_cons, List.length_nil]; omega)⟩
            have Hf2 : Kp (Fit ((out ++ [q]).length + zs.length)) := ⟨Hfit.out _ (by rw [List.length_append, Hzl.out]; simp only [List.length_cons, List.length_nil]; omega)⟩
            have gg1 : (0 : Int) ≤ (a : Int) + r := by omega
            have gg2 : (a : Int) + r ≤ s.size := by omega
            have gg3 : (a : Int) ≤ (a : Int) + r := by omega
            have gg4 : ((a : Int) + r).toNat = a + r := by omega
            clear hl1
            by_cases c1 : a + r < s.size
            · have c1' : decide ((a : Int) + r < s.size) = true := by simp; omega
              by_cases c2 : r < 128
              · have c2' : decide ((r : Int) < 128) = true := by simp; omega
                obtain rfl : t2 = true := by
                  cases t2 with
                  | true => rfl
                  | false => exact absurd ⟨c1, c2, rfl⟩ hco
                clear hco
                go_wp2_with (first | (go_at_call 15; refine (Hth2.out _).mono ?_; rintro e w2 ⟨rfl, hk⟩; have Hbx : Kp (Below w.heap.size w w2) := ⟨(Hb1.out.trans (Hb2.out.mono Hb1.out.size)).trans (hk.mono (Hb1.out.trans (Hb2.out.mono Hb1.out.size)).size)⟩; have Hox : Kp (Own w2 w.heap.size (.slice A out.length c) out) := ⟨own_kept' (own_kept' Ho1.out Hb2.out) hk⟩; clear hk) | (at_builtin; refine list_bytes rfl (.tmp 66) (.tmp 70) rfl w.heap.size (.slice A out.length c) out rfl (own_kept' Hox.out ((Below.refl _ _).alloc (Nat.le_refl _) _)) ⟨w2.heap.size, 0, none⟩ 1 1 [q] rfl rfl (World.news_of_block (cs := #[.int .u8 q.toNat]) (t := 5) (fr := (0, 0)) (heap_alloc_new w2 _)) Hf.out (by have := Hbx.out.size; simp <;> omega) ?_; intro A2 c2 w3 hk2 ho2; have Ho2 : Kp (Own w3 w.heap.size (.slice A2 (out.length + 1) c2) (out ++ [q])) := ⟨by rw [show out.length + 1 = (out ++ [q]).length by simp]; exact ho2⟩; have Hb3 : Kp (Below w.heap.size w w3) := ⟨(Hbx.out.alloc Hbx.out.size _).trans hk2⟩; clear hk2 ho2) | (at_builtin; refine list_str rfl (.tmp 72) (.tmp 78) rfl w.heap.size (.slice A2 (out.length + 1) c2) (out ++ [q]) rfl Ho2.out (s.extract a (a + r)) rfl zs Hcut.out Hf2.out Hb3.out.size ?_; intro A3 c3 w4 hk3 ho3; have Ho3 : Kp (Own w4 w.heap.size (.slice A3 (out.length + (r + 1)) c3) (out ++ [q] ++ zs)) := ⟨by rw [show out.length + (r + 1) = (out ++ [q] ++ zs).length by simp [Hzl.out] <;> omega]; exact ho3⟩; have Hb4 : Kp (Below w.heap.size w w4) := ⟨Hb3.out.trans hk3⟩; clear hk3 ho3))
                go_roundw
                case measure => simp [intOf]; omega
                case rel => exact ⟨a + r, A3, c3, out ++ [q] ++ zs, by simp [Hzl.out] <;> omega, by go_num, by omega, by rw [show (out ++ [q] ++ zs).length = out.length + (r + 1) by simp [Hzl.out] <;> omega]; exact Ho3.out, Hb4.out, HF1⟩
              · have c2' : decide ((r : Int) < 128) = false := by simp; omega
                have Hbx : Kp (Below w.heap.size w wr) := ⟨Hb1.out.trans (Hb2.out.mono Hb1.out.size)⟩
                have Hox : Kp (Own wr w.heap.size (.slice A out.length c) out) := ⟨own_kept' Ho1.out Hb2.out⟩
                clear hco
                go_wp2_with (first | (at_builtin; refine list_bytes rfl (.tmp 66) (.tmp 70) rfl w.heap.size (.slice A out.length c) out rfl (own_kept' Hox.out ((Below.refl _ _).alloc (Nat.le_refl _) _)) ⟨wr.heap.size, 0, none⟩ 1 1 [q] rfl rfl (World.news_of_block (cs := #[.int .u8 q.toNat]) (t := 5) (fr := (0, 0)) (heap_alloc_new wr _)) Hf.out (by have := Hbx.out.size; simp <;> omega) ?_; intro A2 c2 w3 hk2 ho2; have Ho2 : Kp (Own w3 w.heap.size (.slice A2 (out.length + 1) c2) (out ++ [q])) := ⟨by rw [show out.length + 1 = (out ++ [q]).length by simp]; exact ho2⟩; have Hb3 : Kp (Below w.heap.size w w3) := ⟨(Hbx.out.alloc Hbx.out.size _).trans hk2⟩; clear hk2 ho2) | (at_builtin; refine list_str rfl (.tmp 72) (.tmp 78) rfl w.heap.size (.slice A2 (out.length + 1) c2) (out ++ [q]) rfl Ho2.out (s.extract a (a + r)) rfl zs Hcut.out Hf2.out Hb3.out.size ?_; intro A3 c3 w4 hk3 ho3; have Ho3 : Kp (Own w4 w.heap.size (.slice A3 (out.length + (r + 1)) c3) (out ++ [q] ++ zs)) := ⟨by rw [show out.length + (r + 1) = (out ++ [q] ++ zs).length by simp [Hzl.out] <;> omega]; exact ho3⟩; have Hb4 : Kp (Below w.heap.size w w4) := ⟨Hb3.out.trans hk3⟩; clear hk3 ho3))
                go_roundw
                case measure => simp [intOf]; omega
                case rel => exact ⟨a + r, A3, c3, out ++ [q] ++ zs, by simp [Hzl.out] <;> omega, by go_num, by omega, by rw [show (out ++ [q] ++ zs).length = out.length + (r + 1) by simp [Hzl.out] <;> omega]; exact Ho3.out, Hb4.out, HF1⟩
            · have c1' : decide ((a : Int) + r < s.size) = false := by simp; omega
              have Hbx : Kp (Below w.heap.size w wr) := ⟨Hb1.out.trans (Hb2.out.mono Hb1.out.size)⟩
              have Hox : Kp (Own wr w.heap.size (.slice A out.length c) out) := ⟨own_kept' Ho1.out Hb2.out⟩
              clear hco
              go_wp2_with (first | (at_builtin; refine list_bytes rfl (.tmp 66) (.tmp 70) rfl w.heap.size (.slice A out.length c) out rfl (own_kept' Hox.out ((Below.refl _ _).alloc (Nat.le_refl _) _)) ⟨wr.heap.size, 0, none⟩ 1 1 [q] rfl rfl (World.news_of_block (cs := #[.int .u8 q.toNat]) (t := 5) (fr := (0, 0)) (heap_alloc_new wr _)) Hf.out (by have := Hbx.out.size; simp <;> omega) ?_; intro A2 c2 w3 hk2 ho2; have Ho2 : Kp (Own w3 w.heap.size (.slice A2 (out.length + 1) c2) (out ++ [q])) := ⟨by rw [show out.length + 1 = (out ++ [q]).length by simp]; exact ho2⟩; have Hb3 : Kp (Below w.heap.size w w3) := ⟨(Hbx.out.alloc Hbx.out.size _).trans hk2⟩; clear hk2 ho2) | (at_builtin; refine list_str rfl (.tmp 72) (.tmp 78) rfl w.heap.size (.slice A2 (out.length + 1) c2) (out ++ [q]) rfl Ho2.out (s.extract a (a + r)) rfl zs Hcut.out Hf2.out Hb3.out.size ?_; intro A3 c3 w4 hk3 ho3; have Ho3 : Kp (Own w4 w.heap.size (.slice A3 (out.length + (r + 1)) c3) (out ++ [q] ++ zs)) := ⟨by rw [show out.length + (r + 1) = (out ++ [q] ++ zs).length by simp [Hzl.out] <;> omega]; exact ho3⟩; have Hb4 : Kp (Below w.heap.size w w4) := ⟨Hb3.out.trans hk3⟩; clear hk3 ho3))
              go_roundw
              case measure => simp [intOf]; omega
              case rel => exact ⟨a + r, A3, c3, out ++ [q] ++ zs, by simp [Hzl.out] <;> omega, by go_num, by omega, by rw [show (out ++ [q] ++ zs).length = out.length + (r + 1) by simp [Hzl.out] <;> omega]; exact Ho3.out, Hb4.out, HF1⟩
    · have hlt' : decide (a < s.size) = false := by simpa using hlt
      have hr : P = out := by rw [← HF.out, pk_end (by rw [Hl.out]; omega), List.append_nil]
      subst hr
      have hcv := own_str Ho.out
      go_wp2_with fail
      go_ret
      exact ⟨rfl, Hbl.out⟩
end Go.Proofs.Ytnbihffkaagmjaa.RunsP
