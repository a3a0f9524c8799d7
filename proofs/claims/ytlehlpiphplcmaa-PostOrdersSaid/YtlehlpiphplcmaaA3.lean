/-
  (*Poster).Look.
-/
import Derived.Test.YtlehlpiphplcmaaA2
namespace Go.Proofs.Ytlehlpiphplcmaa.Pl
/-- is it to be told? -/
def due (P H : Int) : Option Int → Bool
  | none => true
  | some v => decide (H < v) || decide (P ≤ H - v)
def cutd (h : Int → Option Int) (L : Int) : Int → Option Int := fun k => if k < L then none else h k
/-- what is told of m from L on -/
def told (P H : Int) (h : Int → Option Int) (L : Int) : Nat → List Int
  | 0 => []
  | i + 1 => if due P H (h (L + i)) = true then told P H h L i ++ [L + i] else told P H h L i
def aft (P H : Int) (h : Int → Option Int) (L : Int) (m : Nat) : Int → Option Int := fun k => if L ≤ k ∧ k < L + m ∧ due P H (h k) = true then some H else h k
def reach (W L C : Int) : Nat := (min W (C - L)).toNat

theorem told_len (P H : Int) (h : Int → Option Int) (L : Int) : ∀ m, (told P H h L m).length ≤ m
  | 0 => Nat.le_refl _
  | m + 1 => by
    have := told_len P H h L m
    unfold told
    split
    · rw [List.length_append]; simp; omega
    · omega
theorem aft_zero (P H : Int) (h : Int → Option Int) (L : Int) : aft P H h L 0 = h := by
  funext k
  unfold aft
  rw [if_neg (by omega)]
theorem aft_next (P H : Int) (h : Int → Option Int) (L : Int) (m : Nat) : aft P H h L m (L + m) = h (L + m) := by
  unfold aft
  rw [if_neg (by omega)]
theorem aft_told {P H : Int} {h : Int → Option Int} {L : Int} {m : Nat} (hd : due P H (h (L + m)) = true) : (fun k => if k = L + m then some H else aft P H h L m k) = aft P H h L (m + 1) := by
  funext k
  by_cases hk : k = L + m
  · rw [if_pos hk]
    unfold aft
    rw [if_pos ⟨by omega, by omega, by rw [hk]; exact hd⟩]
  · rw [if_neg hk]
    unfold aft
    by_cases h1 : L ≤ k ∧ k < L + m ∧ due P H (h k) = true
    · rw [if_pos h1, if_pos ⟨h1.1, by omega, h1.2.2⟩]
    · rw [if_neg h1, if_neg (fun h2 => h1 ⟨h2.1, by omega, h2.2.2⟩)]
theorem aft_not {P H : Int} {h : Int → Option Int} {L : Int} {m : Nat} (hd : ¬ due P H (h (L + m)) = true) : aft P H h L m = aft P H h L (m + 1) := by
  funext k
  unfold aft
  by_cases h1 : L ≤ k ∧ k < L + m ∧ due P H (h k) = true
  · rw [if_pos h1, if_pos ⟨h1.1, by omega, h1.2.2⟩]
  · rw [if_neg h1, if_neg (fun h2 => by
      by_cases hk : k = L + m
      · rw [hk] at h2; exact hd h2.2.2
      · exact h1 ⟨h2.1, by omega, h2.2.2⟩)]
end Go.Proofs.Ytlehlpiphplcmaa.Pl
namespace Go.Proofs.Ytlehlpiphplcmaa.PostP
open Go.RowKit Go.PostLaws Go.Maps Go.Proofs.Ytlehlpiphplcmaa.Pl
set_option linter.unusedVariables false

theorem list_look_none {ops : Array Oper} {rest : List Oper} {o : Oper} {a : Act} {w : World} {Q : Exit → Act → World → Prop} (hg : o.guard = none) (m x : Operand) (hop : o.op = Op.lookup 38 m x true)
    {M n : Nat} {h : Int → Option Int} (hm : a.eval m = .map (some M)) (hown : Mh w M n h) (z : Int) (hx : a.eval x = .int .i64 z) (h1 : -9223372036854775808 ≤ z) (h2 : z ≤ 9223372036854775807) (hv : h z = none)
    (hK : ∀ c : Int, wpList Try.prog ops Q rest (a.put o.dst (.tuple #[.int .i64 c, .bool false])) w) : wpList Try.prog ops Q (o :: rest) a w :=
  list_look hg m x hop hm hown z hx h1 h2 (fun c _ => by rw [hv]; exact hK c)
theorem list_look_some {ops : Array Oper} {rest : List Oper} {o : Oper} {a : Act} {w : World} {Q : Exit → Act → World → Prop} (hg : o.guard = none) (m x : Operand) (hop : o.op = Op.lookup 38 m x true)
    {M n : Nat} {h : Int → Option Int} (hm : a.eval m = .map (some M)) (hown : Mh w M n h) (z : Int) (hx : a.eval x = .int .i64 z) (h1 : -9223372036854775808 ≤ z) (h2 : z ≤ 9223372036854775807) (v : Int) (hv : h z = some v)
    (hK : wpList Try.prog ops Q rest (a.put o.dst (.tuple #[.int .i64 v, .bool true])) w) : wpList Try.prog ops Q (o :: rest) a w :=
  list_look hg m x hop hm hown z hx h1 h2 (fun c hc => by rw [hv, hc v hv]; exact hK)

/-- nothing has turned but the map and new blocks -/
structure Fr (w w' : World) (M : Nat) : Prop where
  os : w'.os = w.os
  tape : w'.tape = w.tape
  output : w'.output = w.output
  size : w.heap.size ≤ w'.heap.size
  block : ∀ i, i < w.heap.size → i ≠ M → w'.heap[i]? = w.heap[i]?
theorem Fr.refl (w : World) (M : Nat) : Fr w w M := ⟨rfl, rfl, rfl, Nat.le_refl _, fun _ _ _ => rfl⟩
theorem Fr.trans {w w1 w2 : World} {M : Nat} (h : Fr w w1 M) (k : Fr w1 w2 M) : Fr w w2 M :=
  ⟨k.os.trans h.os, k.tape.trans h.tape, k.output.trans h.output, Nat.le_trans h.size k.size, fun i hi hm => (k.block i (Nat.lt_of_lt_of_le hi h.size) hm).trans (h.block i hi hm)⟩
theorem Fr.of_below {w w' : World} {M : Nat} (h : Below w.heap.size w w') : Fr w w' M := ⟨h.os, h.tape, h.output, h.size, fun i hi _ => h.block i hi⟩
theorem Fr.of_map {w w' : World} {M : Nat} (h : w.grownBy w' (some M)) : Fr w w' M := ⟨h.os, h.tape, h.output, h.size, fun i hi hm => h.block i hi (fun e => hm (by cases e; rfl))⟩
theorem Fr.below {w w' : World} {M B : Nat} (h : Fr w w' M) (hB : B ≤ M) (hs : B ≤ w.heap.size) : Below B w w' := ⟨h.os, h.tape, h.output, h.size, fun i hi => h.block i (by omega) (by omega)⟩
theorem Fr.thenB {w w1 w2 : World} {M : Nat} (h : Fr w w1 M) (k : Below w.heap.size w1 w2) : Fr w w2 M :=
  ⟨k.os.trans h.os, k.tape.trans h.tape, k.output.trans h.output, Nat.le_trans h.size k.size, fun i hi hm => (k.block i hi).trans (h.block i hi hm)⟩
theorem ownI_fr {w w' : World} {base M : Nat} {v : Value} {zs : List Int} (h : OwnI w base v zs) (k : Fr w w' M) (hM : M < base) : OwnI w' base v zs := by
  refine ⟨h.1, ?_⟩
  rcases h.2 with hn | ⟨g, cap, cur, hv, hg, hgg, r⟩
  · exact .inl hn
  · exact .inr ⟨g, cap, cur, hv, hg, by rw [k.block g (lt_of_block hgg) (by omega)]; exact hgg, r⟩

theorem po_fr {w w' : World} {M B n n' : Nat} {P W : Int} {h h' : Int → Option Int} (k : Po w M B n P W h) (f : Fr w w' M) (hne : B ≠ M) (hm : Mh w' M n' h') : Po w' M B n' P W h' := ⟨(f.block B k.lt hne).trans k.r, hm⟩
theorem po_ne {w : World} {M B n : Nat} {P W : Int} {h : Int → Option Int} (k : Po w M B n P W h) : B ≠ M := by
  rintro rfl
  obtain ⟨D, ⟨es, clock, h1, _⟩, _⟩ := k.m.out
  rw [k.r] at h1
  cases h1

theorem cut_all {h : Int → Option Int} {L : Int} {zs : List Int} (hall : ∀ k, (h k).isSome = true → k ∈ zs) : (fun k => if k < L ∧ k ∈ zs then none else h k) = cutd h L := by
  funext k
  unfold cutd
  by_cases hk : k < L
  · rw [if_pos hk]
    by_cases hz : k ∈ zs
    · rw [if_pos ⟨hk, hz⟩]
    · rw [if_neg (fun e => hz e.2)]
      cases hh : h k with
      | none => rfl
      | some v => exact absurd (hall k (by rw [hh]; rfl)) hz
  · rw [if_neg hk, if_neg (fun e => hk e.1)]
theorem cut_del {h : Int → Option Int} {L z : Int} {zs : List Int} {j : Nat} (hj : j < zs.length) (hz : zs.getD j 0 = z) (hL : z < L) : (fun k => if k = z then none else (fun k => if k < L ∧ k ∈ zs.take j then none else h k) k) = fun k => if k < L ∧ k ∈ zs.take (j + 1) then none else h k := by
  have hzz : zs[j]? = some z := by rw [← hz, List.getD_eq_getElem?_getD, List.getElem?_eq_getElem hj]; rfl
  funext k
  rw [List.take_add_one, hzz]
  by_cases hk : k = z
  · rw [if_pos hk, if_pos ⟨by omega, by rw [hk]; simp⟩]
  · rw [if_neg hk]
    by_cases h1 : k < L ∧ k ∈ zs.take j
    · dsimp only; rw [if_pos h1, if_pos ⟨h1.1, List.mem_append_left _ h1.2⟩]
    · dsimp only
      rw [if_neg h1, if_neg (fun h2 => h1 ⟨h2.1, by
        rcases List.mem_append.1 h2.2 with h3 | h3
        · exact h3
        · simp at h3; exact absurd h3 hk⟩)]
theorem cut_keep {h : Int → Option Int} {L z : Int} {zs : List Int} {j : Nat} (hj : j < zs.length) (hz : zs.getD j 0 = z) (hL : ¬ z < L) : (fun k => if k < L ∧ k ∈ zs.take j then none else h k) = fun k => if k < L ∧ k ∈ zs.take (j + 1) then none else h k := by
  have hzz : zs[j]? = some z := by rw [← hz, List.getD_eq_getElem?_getD, List.getElem?_eq_getElem hj]; rfl
  funext k
  rw [List.take_add_one, hzz]
  by_cases h1 : k < L ∧ k ∈ zs.take j
  · rw [if_pos h1, if_pos ⟨h1.1, List.mem_append_left _ h1.2⟩]
  · rw [if_neg h1, if_neg (fun h2 => h1 ⟨h2.1, by
      rcases List.mem_append.1 h2.2 with h3 | h3
      · exact h3
      · simp at h3; rw [h3] at h2; exact absurd h2.1 hL⟩)]

set_option maxRecDepth 100000 in
set_option maxHeartbeats 8000000 in
theorem look_any {w : World} {M B n : Nat} {P W : Int} {h : Int → Option Int} (hP : Po w M B n P W h) (H L C : Int) (hH : 0 ≤ H) (hL : 0 ≤ L) (hC : 0 ≤ C) (hH2 : H ≤ 9223372036854775807) (hL2 : L ≤ 9223372036854775807) (hC2 : C ≤ 9223372036854775807)
    (hW : 0 ≤ W) (hW2 : W ≤ 64) (hP1 : 0 ≤ P) (hP2 : P ≤ 1000000) (hh : ∀ k v, h k = some v → 0 ≤ v ∧ v ≤ 9223372036854775807) (hn : n ≤ 536870912) :
    Calls Try.prog 9 #[.pointer (some ⟨B, 0, none⟩), .int .i64 H, .int .i64 L, .int .i64 C] w fun e w' => ∃ (A : Option Addr) (c : Nat), e = .returned (.slice A (told P H (cutd h L) L (reach W L C)).length c) ∧ OwnI w' w.heap.size (.slice A (told P H (cutd h L) L (reach W L C)).length c) (told P H (cutd h L) L (reach W L C)) ∧
      Po w' M B (n + 64) P W (aft P H (cutd h L) L (reach W L C)) ∧ Fr w w' M := by
  have Hout := Kp.mk (out_any hP (by omega))
  have HP := Kp.mk hP
  have hne := po_ne hP
  have hMl := hP.m.lt
  have hBl := hP.lt
  have Hh := Kp.mk hh
  clear hP hh
  have d1 : decide (H < 0) = false := by simp; omega
  have d2 : decide (L < 0) = false := by simp; omega
  have d3 : decide (C < 0) = false := by simp; omega
  go_enter Try.func9, Try.ntmps9
  go_wp2_with (go_at_call 10; refine (Hout.out).mono ?_; rintro e w1 ⟨A, c, zs, rfl, ho, hall, hzn, hzin, hbl⟩; have Ho := Kp.mk ho; have Hall := Kp.mk hall; have Hzin := Kp.mk hzin; have Hb1 := Kp.mk hbl; clear ho hall hzin hbl)
  have HP1 := Kp.mk (HP.out.below Hb1.out)
  have hs1 := Hb1.out.size
  go_loopw [33] (fun v33 wr => ∃ j : Nat, v33 = .int .i64 j ∧ j ≤ zs.length ∧ Kp (Mh wr M n (fun k => if k < L ∧ k ∈ zs.take j then none else h k)) ∧ Kp (Fr w1 wr M)) (fun v33 _ => zs.length - (intOf v33).toNat)
  case atStart => exact ⟨0, rfl, Nat.zero_le _, ⟨by simpa using HP1.out.m⟩, ⟨Fr.refl _ _⟩⟩
  case round =>
    obtain ⟨j, rfl, hj, Hm, Hf⟩ := hrel
    have HPr := Kp.mk (po_fr HP1.out Hf.out hne Hm.out)
    have c2 := HPr.out.c2
    by_cases hjl : j < zs.length
    · have hjl' : decide (j < zs.length) = true := by simpa using hjl
      obtain ⟨g, rfl⟩ := ownI_some Ho.out (by omega)
      obtain ⟨z, hz⟩ : ∃ z, zs.getD j 0 = z := ⟨_, rfl⟩
      have cz := ownI_cell (ownI_fr Ho.out Hf.out (by omega)) hjl
      rw [hz] at cz
      have hzr : -9223372036854775808 ≤ z ∧ z ≤ 9223372036854775807 := Hzin.out z (by
        rw [← hz, List.getD_eq_getElem?_getD, List.getElem?_eq_getElem hjl]
        exact List.getElem_mem hjl)
      have Hz := Kp.mk hz
      clear hz
      have i1 : (0 : Int) ≤ j := by omega
      have i2 : (j : Int) < zs.length := by omega
      have w1j : IntKind.i64.wrap ((j : Int) + 1) = (j : Int) + 1 := IntWalk.i64_in _ (by omega)
      by_cases hzL : z < L
      · have d4 : decide (z < L) = true := by simpa using hzL
        go_wp2_with (first
          | (at_delete; refine list_del rfl (.tmp 43) (.tmp 44) rfl rfl HPr.out.m z rfl hzr.1 hzr.2 ?_; intro w2 hm2 hg2; have Hm2 := Kp.mk hm2; have Hg2 := Kp.mk hg2; clear hm2 hg2; go_frame)
          | go_in)
        go_roundw
        case measure => simp [intOf]; omega
        case rel => exact ⟨j + 1, by go_num, by omega, ⟨by have := Hm2.out; rw [cut_del hjl Hz.out hzL] at this; exact this⟩, ⟨Hf.out.trans (Fr.of_map Hg2.out)⟩⟩
      · have d4 : decide (z < L) = false := by simpa using hzL
        go_wp2_with fail
        go_roundw
        case measure => simp [intOf]; omega
        case rel => exact ⟨j + 1, by go_num, by omega, ⟨by have := Hm.out; rw [cut_keep hjl Hz.out hzL] at this; exact this⟩, Hf⟩
    · have hjl' : decide (j < zs.length) = false := by simpa using hjl
      have hje : zs.take j = zs := List.take_of_length_le (by omega)
      have hm1 := Hm.out
      rw [hje, cut_all Hall.out] at hm1
      have Hm1 := Kp.mk hm1
      have HP2 := Kp.mk (po_fr HP1.out Hf.out hne hm1)
      have Hf1 : Kp (Fr w wr M) := ⟨(Fr.of_below Hb1.out).trans Hf.out⟩
      clear hje hm1 Hm c2 HPr Ho Hall Hzin
      have c1 := HP2.out.c1
      go_wp2_with fail
      obtain ⟨w3, rfl⟩ : ∃ w3, w3 = wr := ⟨wr, rfl⟩
      have hs3 := Hf1.out.size
      clear c1
      go_loopw [11, 50] (fun v11 v50 wr => ∃ (i : Nat) (A2 : Option Addr) (c2 : Nat), v50 = .int .i64 i ∧ v11 = .slice A2 (told P H (cutd h L) L i).length c2 ∧ i ≤ reach W L C ∧ Kp (OwnI wr w.heap.size (.slice A2 (told P H (cutd h L) L i).length c2) (told P H (cutd h L) L i)) ∧ Kp (Mh wr M (n + i) (aft P H (cutd h L) L i)) ∧ Kp (Fr w wr M)) (fun _ v50 _ => 65 - (intOf v50).toNat)
      case atStart => exact ⟨0, none, 0, rfl, rfl, Nat.zero_le _, ⟨nilI _ _⟩, ⟨by rw [aft_zero]; exact Hm1.out⟩, Hf1⟩
      case round =>
        obtain ⟨i, A2, c2, rfl, rfl, hi, Ho2, Hm2, Hf2⟩ := hrel
        obtain ⟨T, hT⟩ : ∃ T, told P H (cutd h L) L i = T := ⟨_, rfl⟩
        have hTl : T.length ≤ i := by rw [← hT]; exact told_len _ _ _ _ _
        rw [hT] at Ho2
        have HT := Kp.mk hT
        rw [hT]
        clear hT
        have HPr := Kp.mk (po_fr HP2.out (Fr.refl _ _) hne HP2.out.m)
        have HPq : Kp (Po wr M B (n + i) P W (aft P H (cutd h L) L i)) := ⟨po_fr HP.out Hf2.out hne Hm2.out⟩
        have c0 := HPq.out.c0
        have cm := HPq.out.c2
        have hs5 := Hf2.out.size
        have hre : (reach W L C : Int) ≤ 64 := by unfold reach; omega
        have w1i : IntKind.i64.wrap ((i : Int) + 1) = (i : Int) + 1 := IntWalk.i64_in _ (by omega)
        have wcl : IntKind.i64.wrap (C - L) = C - L := IntWalk.i64_in _ (by omega)
        by_cases him : i < reach W L C
        · have hiW : (i : Int) < W ∧ (i : Int) < C - L := by unfold reach at him; omega
          have e1 : decide ((i : Int) < W) = true := by simp; omega
          have e2 : decide (C - L ≤ (i : Int)) = false := by simp; omega
          have wli : IntKind.i64.wrap (L + (i : Int)) = L + (i : Int) := IntWalk.i64_in _ (by omega)
          cases hx : cutd h L (L + i) with
          | none =>
            have Hx := Kp.mk hx
            have Hd : Kp (Pl.due P H (cutd h L (L + i)) = true) := ⟨by rw [hx, Pl.due]⟩
            go_wp2_with (first
              | (at_lookup; refine list_look_none rfl (.tmp 65) (.tmp 66) rfl rfl Hm2.out (L + i) rfl (by omega) (by omega) (by rw [aft_next]; exact Hx.out) ?_; intro cc; go_frame)
              | (at_mapUpdate; refine list_store rfl (.tmp 90) (.tmp 91) (.tmp 92) rfl rfl Hm2.out (by unfold maxLen; omega) (L + i) H rfl rfl (by omega) (by omega) (by omega) (by omega) ?_; intro w4 hm4 hg4; have Hm4 := Kp.mk hm4; have hs4 := hg4.size; have Hf4 := Kp.mk (Hf2.out.trans (Fr.of_map hg4)); have Ho4 := Kp.mk (ownI_fr Ho2.out (Fr.of_map hg4) hMl); clear hm4 hg4; go_frame)
              | (at_builtin; refine list_int rfl (.tmp 93) (.tmp 95) rfl w.heap.size (.slice A2 T.length c2) T rfl (ownI_kept Ho4.out ((Below.refl w4.heap.size w4).alloc (Nat.le_refl _) _) (Nat.le_refl _)) w4.heap.size (L + i) rfl (heap_alloc_new w4 _) (by omega) (by simp; omega) ?_; intro A5 c5 w5 ho5 hg5 hb5; have Ho5 := Kp.mk ho5; have Hb5 : Kp (Below w.heap.size w4 w5) := ⟨((Below.refl w.heap.size w4).alloc (by omega) _).trans hb5⟩; clear ho5 hg5 hb5; go_frame)
              | go_in)
            go_roundw
            case measure => simp [intOf]; omega
            case rel =>
              have hm5 : Mh w5 M (n + (i + 1)) (aft P H (cutd h L) L (i + 1)) := by
                rw [← aft_told Hd.out]
                exact Hm4.out.of_block (Hb5.out.block M hMl)
              exact ⟨i + 1, A5, c5, by go_num, by rw [told, if_pos Hd.out, HT.out], by omega, ⟨by rw [told, if_pos Hd.out, HT.out]; exact Ho5.out⟩, ⟨hm5⟩, ⟨Hf4.out.thenB Hb5.out⟩⟩
          | some v =>
            have Hx := Kp.mk hx
            have hv : 0 ≤ v ∧ v ≤ 9223372036854775807 := by
              unfold cutd at hx
              split at hx
              · cases hx
              · exact Hh.out _ _ hx
            have whv : IntKind.i64.wrap (H - v) = H - v := IntWalk.i64_in _ (by omega)
            by_cases hlt : H < v
            · have e3 : decide (H < v) = true := by simpa using hlt
              have Hd : Kp (Pl.due P H (cutd h L (L + i)) = true) := ⟨by rw [hx, Pl.due]; simp [hlt]⟩
              go_wp2_with (first
                | (at_lookup; refine list_look_some rfl (.tmp 65) (.tmp 66) rfl rfl Hm2.out (L + i) rfl (by omega) (by omega) v (by rw [aft_next]; exact Hx.out) ?_; go_frame)
                | (at_mapUpdate; refine list_store rfl (.tmp 90) (.tmp 91) (.tmp 92) rfl rfl Hm2.out (by unfold maxLen; omega) (L + i) H rfl rfl (by omega) (by omega) (by omega) (by omega) ?_; intro w4 hm4 hg4; have Hm4 := Kp.mk hm4; have hs4 := hg4.size; have Hf4 := Kp.mk (Hf2.out.trans (Fr.of_map hg4)); have Ho4 := Kp.mk (ownI_fr Ho2.out (Fr.of_map hg4) hMl); clear hm4 hg4; go_frame)
                | (at_builtin; refine list_int rfl (.tmp 93) (.tmp 95) rfl w.heap.size (.slice A2 T.length c2) T rfl (ownI_kept Ho4.out ((Below.refl w4.heap.size w4).alloc (Nat.le_refl _) _) (Nat.le_refl _)) w4.heap.size (L + i) rfl (heap_alloc_new w4 _) (by omega) (by simp; omega) ?_; intro A5 c5 w5 ho5 hg5 hb5; have Ho5 := Kp.mk ho5; have Hb5 : Kp (Below w.heap.size w4 w5) := ⟨((Below.refl w.heap.size w4).alloc (by omega) _).trans hb5⟩; clear ho5 hg5 hb5; go_frame)
                | go_in)
              go_roundw
              case measure => simp [intOf]; omega
              case rel =>
                have hm5 : Mh w5 M (n + (i + 1)) (aft P H (cutd h L) L (i + 1)) := by
                  rw [← aft_told Hd.out]
                  exact Hm4.out.of_block (Hb5.out.block M hMl)
                exact ⟨i + 1, A5, c5, by go_num, by rw [told, if_pos Hd.out, HT.out], by omega, ⟨by rw [told, if_pos Hd.out, HT.out]; exact Ho5.out⟩, ⟨hm5⟩, ⟨Hf4.out.thenB Hb5.out⟩⟩
            · have e3 : decide (H < v) = false := by simpa using hlt
              by_cases hge : P ≤ H - v
              · have e4 : decide (P ≤ H - v) = true := by simpa using hge
                have Hd : Kp (Pl.due P H (cutd h L (L + i)) = true) := ⟨by rw [hx, Pl.due]; simp [hge]⟩
                go_wp2_with (first
                  | (at_lookup; refine list_look_some rfl (.tmp 65) (.tmp 66) rfl rfl Hm2.out (L + i) rfl (by omega) (by omega) v (by rw [aft_next]; exact Hx.out) ?_; go_frame)
                  | (at_mapUpdate; refine list_store rfl (.tmp 90) (.tmp 91) (.tmp 92) rfl rfl Hm2.out (by unfold maxLen; omega) (L + i) H rfl rfl (by omega) (by omega) (by omega) (by omega) ?_; intro w4 hm4 hg4; have Hm4 := Kp.mk hm4; have hs4 := hg4.size; have Hf4 := Kp.mk (Hf2.out.trans (Fr.of_map hg4)); have Ho4 := Kp.mk (ownI_fr Ho2.out (Fr.of_map hg4) hMl); clear hm4 hg4; go_frame)
                  | (at_builtin; refine list_int rfl (.tmp 93) (.tmp 95) rfl w.heap.size (.slice A2 T.length c2) T rfl (ownI_kept Ho4.out ((Below.refl w4.heap.size w4).alloc (Nat.le_refl _) _) (Nat.le_refl _)) w4.heap.size (L + i) rfl (heap_alloc_new w4 _) (by omega) (by simp; omega) ?_; intro A5 c5 w5 ho5 hg5 hb5; have Ho5 := Kp.mk ho5; have Hb5 : Kp (Below w.heap.size w4 w5) := ⟨((Below.refl w.heap.size w4).alloc (by omega) _).trans hb5⟩; clear ho5 hg5 hb5; go_frame)
                  | go_in)
                go_roundw
                case measure => simp [intOf]; omega
                case rel =>
                  have hm5 : Mh w5 M (n + (i + 1)) (aft P H (cutd h L) L (i + 1)) := by
                    rw [← aft_told Hd.out]
                    exact Hm4.out.of_block (Hb5.out.block M hMl)
                  exact ⟨i + 1, A5, c5, by go_num, by rw [told, if_pos Hd.out, HT.out], by omega, ⟨by rw [told, if_pos Hd.out, HT.out]; exact Ho5.out⟩, ⟨hm5⟩, ⟨Hf4.out.thenB Hb5.out⟩⟩
              · have e4 : decide (P ≤ H - v) = false := by simpa using hge
                have Hd : Kp (¬ Pl.due P H (cutd h L (L + i)) = true) := ⟨by rw [hx, Pl.due]; simp [hlt, hge] <;> omega⟩
                go_wp2_with (first
                  | (at_lookup; refine list_look_some rfl (.tmp 65) (.tmp 66) rfl rfl Hm2.out (L + i) rfl (by omega) (by omega) v (by rw [aft_next]; exact Hx.out) ?_; go_frame)
                  | go_in)
                go_roundw
                case measure => simp [intOf]; omega
                case rel => exact ⟨i + 1, A2, c2, by go_num, by rw [told, if_neg Hd.out, HT.out], by omega, ⟨by rw [told, if_neg Hd.out, HT.out]; exact Ho2.out⟩, ⟨by rw [← aft_not Hd.out]; exact Hm2.out.mono (by omega)⟩, Hf2⟩
        · have hie : i = reach W L C := by omega
          have Hie := Kp.mk hie
          have Hfin : Kp (OwnI wr w.heap.size (.slice A2 (told P H (cutd h L) L (reach W L C)).length c2) (told P H (cutd h L) L (reach W L C)) ∧ Po wr M B (n + 64) P W (aft P H (cutd h L) L (reach W L C)) ∧ T = told P H (cutd h L) L (reach W L C)) := ⟨by
            rw [← hie, HT.out]
            exact ⟨Ho2.out, HPq.out.mono (by omega), rfl⟩⟩
          clear hie
          by_cases hiW : (i : Int) < W
          · have e1 : decide ((i : Int) < W) = true := by simpa using hiW
            have e2 : decide (C - L ≤ (i : Int)) = true := by have := Hie.out; unfold reach at this; simp; omega
            go_wp2_with fail
            go_ret
            exact ⟨A2, c2, by rw [← Hfin.out.2.2]; rfl, Hfin.out.1, Hfin.out.2.1, Hf2.out⟩
          · have e1 : decide ((i : Int) < W) = false := by simpa using hiW
            go_wp2_with fail
            go_ret
            exact ⟨A2, c2, by rw [← Hfin.out.2.2]; rfl, Hfin.out.1, Hfin.out.2.1, Hf2.out⟩
end Go.Proofs.Ytlehlpiphplcmaa.PostP
