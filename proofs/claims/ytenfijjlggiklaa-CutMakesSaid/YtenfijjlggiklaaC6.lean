/-
  Contract of the reference's Make.
-/
import Derived.Test.YtenfijjlggiklaaC5
import Derived.Maps.AppendAt
import Derived.Deep.AppendLies
import Derived.Deep.RegionLaw
namespace Go.Proofs.Ytenfijjlggiklaa.CutP
open Go.RowKit Go.CutLaws
set_option linter.unusedVariables false

def pcells (ps : List (Bool × ByteArray)) : List Value := ps.flatMap fun p => [.bool p.1, .string p.2]
theorem pcells_get : ∀ (ps : List (Bool × ByteArray)) (i : Nat) (p : Bool × ByteArray), ps[i]? = some p → (pcells ps)[i * 2]? = some (.bool p.1) ∧ (pcells ps)[i * 2 + 1]? = some (.string p.2)
  | [], i, p, h => by simp at h
  | q :: ps, 0, p, h => by
    simp at h
    subst h
    exact ⟨rfl, rfl⟩
  | q :: ps, i + 1, p, h => by
    have := pcells_get ps i p (by simpa using h)
    rw [show (i + 1) * 2 = i * 2 + 2 by omega]
    exact this
theorem pcells_snoc (ps : List (Bool × ByteArray)) (p : Bool × ByteArray) : pcells (ps ++ [p]) = pcells ps ++ [.bool p.1, .string p.2] := by simp [pcells]

theorem PR.of_own {w : World} {base : Nat} {v : Value} {ps : List (Bool × ByteArray)} (h : w.ownsRow base 46 2 v ps.length (pcells ps)) : PR w v ps := by
  rcases h.2 with ⟨rfl, h0⟩ | ⟨g, cap, cur, rfl, hb, hg, hn, hm, hs, ht⟩
  · exact ⟨⟨none, 0, by rw [h0], fun h => by omega⟩⟩
  · refine ⟨⟨some ⟨g, 0, none⟩, cap, rfl, fun _ => ⟨g, 0, rfl, lt_of_block hg, fun i p hp => ?_⟩⟩⟩
    obtain ⟨h1, h2⟩ := pcells_get ps i p hp
    have hlt : i < ps.length := (List.getElem?_eq_some_iff.1 hp).1
    rw [← ht, List.getElem?_take, if_pos (by omega), Array.getElem?_toList] at h1 h2
    rw [Nat.zero_add, cell_of_row w g _ cur 46 (0, 0) hg, cell_of_row w g _ cur 46 (0, 0) hg]
    exact ⟨h1, h2⟩

theorem own_ne {w : World} {base g : Nat} {v : Value} {n : Nat} {xs : List Value} {cs : Array Value} (h : w.ownsRow base 46 2 v n xs) (hg : w.heap[g]? = some (.cells cs 36 (0, 0))) : v.ownBlock ≠ some g := by
  rcases h.2 with ⟨rfl, _⟩ | ⟨g', cap, cur, rfl, _, hh, _⟩
  · simp [Value.ownBlock]
  · intro he
    have : g' = g := by simpa [Value.ownBlock] using he
    subst this
    rw [hh] at hg
    injection hg with hg
    injection hg with _ ht _
    exact absurd ht (by decide)

set_option maxHeartbeats 8000000 in
theorem rmake_any (c : Ct) (rs : List Rc) (A : Option Addr) (cap : Nat) (w : World) (hl : LR w w.heap.size A rs) (hm : rs.length * 104 ≤ 140737488351232) :
    Calls Try.prog 16 #[c.val, .slice A rs.length cap] w (MakePost c rs w) := by
  obtain ⟨sq, fi, be, co⟩ := c
  unfold Ct.val
  dsimp only
  cases hok : makeOk ⟨sq, fi, be, co⟩ rs with
  | false =>
    have HP : Kp (∀ w', Below w.heap.size w w' → MakePost ⟨sq, fi, be, co⟩ rs w (.returned (.tuple #[noBatch, .int .i64 2])) w') := ⟨fun w' h => ⟨h, by rw [hok]; rfl⟩⟩
    by_cases h0 : rs.length = 0
    · have h0' : decide ((rs.length : Int) < 1) = true := by simp; omega
      clear hok h0
      go_enter Try.func16, Try.ntmps16
      go_wp2_with fail
      go_quiet (fail)
      go_wp2
      refine bodyPost_ret (v := .tuple #[.agg #[.int .i64 0, .int .i64 0, .int .i64 0, .slice none 0 0], .int .i64 2]) (by simp [results, Try.results16, go_sem]) rfl (HP.out _ ?_)
      repeat (first | exact Below.refl _ _ | apply below_drewN | (refine Below.setCell ?_ (by simp) _) | (refine Below.alloc ?_ (by simp) _))
    · have h0' : decide ((rs.length : Int) < 1) = false := by simp; omega
      by_cases h1 : (rs.length : Int) = co
      · have h1' : (co != (rs.length : Int)) = false := by simp [h1]
        obtain ⟨r, hr⟩ : ∃ r, rs[0]? = some r := ⟨_, List.getElem?_eq_getElem (by omega)⟩
        obtain ⟨bk, of, rfl, hadb, ci, _⟩ := hl.get hr
        have h2' : (fi != r.index) = true := by
          match rs, hr with
          | r0 :: l0, hr =>
            simp at hr
            subst hr
            have h9 : ((l0.length : Int) + 1 = co) := by simpa using h1
            have h8 : ¬ r0.index = fi := by simpa [makeOk, h9] using hok
            simpa using fun h => h8 h.symm
        have hkN : (0 : Nat) < rs.length := by omega
        have ci' : w.cell? ⟨bk, of, none⟩ = some (.int .i64 r.index) := by simpa using ci
        have H1 := Kp.mk h1
        clear hok h0 h1 ci hr
        go_enter Try.func16, Try.ntmps16
        go_wp2_with fail
        go_quiet (fail)
        go_wp2
        refine bodyPost_ret (v := .tuple #[.agg #[.int .i64 0, .int .i64 0, .int .i64 0, .slice none 0 0], .int .i64 2]) (by simp [results, Try.results16, go_sem]) rfl (HP.out _ ?_)
        repeat (first | exact Below.refl _ _ | apply below_drewN | (refine Below.setCell ?_ (by simp) _) | (refine Below.alloc ?_ (by simp) _))
      · have h1' : (co != (rs.length : Int)) = true := by simp; exact fun h => h1 h.symm
        clear hok h0 h1
        go_enter Try.func16, Try.ntmps16
        go_wp2_with fail
        go_quiet (fail)
        go_wp2
        refine bodyPost_ret (v := .tuple #[.agg #[.int .i64 0, .int .i64 0, .int .i64 0, .slice none 0 0], .int .i64 2]) (by simp [results, Try.results16, go_sem]) rfl (HP.out _ ?_)
        repeat (first | exact Below.refl _ _ | apply below_drewN | (refine Below.setCell ?_ (by simp) _) | (refine Below.alloc ?_ (by simp) _))
  | true =>
    have h0 : rs.length ≠ 0 := by
      rintro h0
      rw [List.eq_nil_of_length_eq_zero h0] at hok
      simp [makeOk] at hok
    have h0' : decide ((rs.length : Int) < 1) = false := by simp; omega
    obtain ⟨r, hr⟩ : ∃ r, rs[0]? = some r := ⟨_, List.getElem?_eq_getElem (by omega)⟩
    have h12 : (rs.length : Int) = co ∧ r.index = fi := by
      match rs, hr with
      | r0 :: l0, hr =>
        simp at hr
        subst hr
        simpa [makeOk] using hok
    have h1' : (co != (rs.length : Int)) = false := by simp [h12.1]
    have h2' : (fi != r.index) = false := by simp [h12.2]
    have HP : Kp (∀ v w', Below w.heap.size w w' → PR w' v (rs.map partOf) → MakePost ⟨sq, fi, be, co⟩ rs w (.returned (.tuple #[.agg #[.int .i64 sq, .int .i64 fi, .int .i64 be, v], .int .i64 0])) w') :=
      ⟨fun v w' h hp => ⟨h, by rw [hok]; exact ⟨v, rfl, hp⟩⟩⟩
    have HL := Kp.mk hl
    obtain ⟨bk, of, rfl, hadb, ci, _⟩ := hl.get hr
    have hkN : (0 : Nat) < rs.length := by omega
    have ci' : w.cell? ⟨bk, of, none⟩ = some (.int .i64 r.index) := by simpa using ci
    clear hok h0 h12 hr hl ci
    go_enter Try.func16, Try.ntmps16
    go_wp2_with fail
    go_quiet (fail)
    obtain ⟨w0, hw0⟩ : ∃ w0, w0 = (((w.alloc (Obj.cells #[Value.int IntKind.i64 sq, Value.int IntKind.i64 fi, Value.int IntKind.i64 be, Value.int IntKind.i64 co] 33)).alloc
      (Obj.cells #[Value.int IntKind.i64 0, Value.int IntKind.i64 0, Value.int IntKind.i64 0, Value.slice none 0 0] 36)).drewN nq) := ⟨_, rfl⟩
    have hB0 : Below w.heap.size w w0 := by
      rw [hw0]
      repeat (first | exact Below.refl _ _ | apply below_drewN | (refine Below.setCell ?_ (by simp) _) | (refine Below.alloc ?_ (by simp) _))
    have hz0 : w0.heap.size = w.heap.size + 2 := by rw [hw0]; simp
    have hbox : w0.heap[w.heap.size]? = some (.cells #[.int .i64 sq, .int .i64 fi, .int .i64 be, .int .i64 co] 33 (0, 0)) := by rw [hw0]; exact heap_alloc2_old w _ _
    have hres : w0.heap[w.heap.size + 1]? = some (.cells #[.int .i64 0, .int .i64 0, .int .i64 0, .slice none 0 0] 36 (0, 0)) := by rw [hw0]; exact heap_alloc2_new w _ _
    rw [← hw0]
    clear hw0
    have HB := Kp.mk hB0
    have Hz := Kp.mk hz0
    have Hbox := Kp.mk hbox
    have Hres := Kp.mk hres
    clear hB0 hz0 hbox hres
    have c0 : w0.cell? ⟨w.heap.size, 0, none⟩ = some (.int .i64 sq) := by rw [cell_of_row w0 _ 0 _ _ _ Hbox.out]; rfl
    have c1 : w0.cell? ⟨w.heap.size, 1, none⟩ = some (.int .i64 fi) := by rw [cell_of_row w0 _ 1 _ _ _ Hbox.out]; rfl
    have c2 : w0.cell? ⟨w.heap.size, 2, none⟩ = some (.int .i64 be) := by rw [cell_of_row w0 _ 2 _ _ _ Hbox.out]; rfl
    go_wp2_with fail
    clear c0 c1 c2
    obtain ⟨g, hgz⟩ : ∃ g, g = w0.heap.size := ⟨_, rfl⟩
    have Hgz := Kp.mk hgz
    rw [← hgz]
    have hg0 : ∀ (a : Array Value), (w0.alloc (.cells a 36)).heap[g]? = some (.cells a 36 (0, 0)) := fun a => by rw [hgz]; exact heap_alloc_new w0 _
    have Hg0 := Kp.mk hg0
    obtain ⟨i0, hi, hz0, hz1, hz2⟩ := info_parts info46
    have hgg : w0.heap.size ≤ g := by omega
    clear hg0 hgz
    go_loopw [7] (fun n wr => ∃ (k : Nat) (v : Value), n = .int .i64 k ∧ k ≤ rs.length ∧ Kp (wr.heap[g]? = some (.cells #[.int .i64 sq, .int .i64 fi, .int .i64 be, v] 36 (0, 0))) ∧
      wr.ownsRow w0.heap.size 46 2 v k (pcells ((rs.take k).map partOf)) ∧ Below w0.heap.size w0 wr) (fun n wr => rs.length - (intOf n).toNat)
    case atStart => exact ⟨0, .slice none 0 0, rfl, Nat.zero_le _, ⟨Hg0.out _⟩, by simpa [pcells] using World.ownsRow_nil _ _ _ _, (Below.refl _ _).alloc (Nat.le_refl _) _⟩
    case round =>
      obtain ⟨k, v, rfl, hk, HG, hown, hbr⟩ := hrel
      by_cases hlt : k < rs.length
      · have hlr : LR wr w.heap.size (some ⟨bk, of, none⟩) rs := (HL.out.below HB.out).below (hbr.mono (by have := Hz.out; omega))
        obtain ⟨r', hr⟩ : ∃ r, rs[k]? = some r := ⟨_, List.getElem?_eq_getElem hlt⟩
        obtain ⟨bk', of', hbo, _, _, ck, ct, cb, hbody, _⟩ := hlr.get hr
        obtain ⟨rfl, rfl⟩ : bk = bk' ∧ of = of' := by simpa using hbo
        have hlt' : decide (k < rs.length) = true := by simpa using hlt
        have hkL : (0 : Int) ≤ k := by omega
        have hkN' : (k : Int) < rs.length := by omega
        have c3 : wr.cell? ⟨g, 3, none⟩ = some v := by rw [cell_of_row wr _ 3 _ _ _ HG.out]; rfl
        have f3 : wr.frozen? ⟨g, 3, none⟩ = false := frozen_of_row wr _ _ _ _ HG.out
        have Htake : Kp (pcells ((rs.take (k + 1)).map partOf) = pcells ((rs.take k).map partOf) ++ [.bool (partOf r').1, .string (partOf r').2]) := ⟨by
          rw [List.take_add_one, hr]; simp [pcells_snoc]⟩
        have hsz : w0.heap.size ≤ wr.heap.size := hbr.size
        have hne := own_ne hown HG.out
        have Hown := Kp.mk hown
        have Hne := Kp.mk hne
        clear hr hlr hbo hown hne
        by_cases hkd : r'.kind = 1
        · have hkd' : (r'.kind == 1) = true := by simpa using hkd
          have Hp : Kp (partOf r' = (false, r'.body)) := ⟨by unfold partOf; rw [if_pos hkd]⟩
          clear hkd
          have hglt : g < wr.heap.size := lt_of_block HG.out
          go_wp2_with fail
          go_region_law ((refine step_append_lies _ (by rfl) (.tmp 48) (.tmp 55) 34 (by rfl) w0.heap.size 46 i0 _ 2 24 Try.underlying34 hi hz0 hz1 hz2 rfl (by decide) v k _ (by rfl) ((Hown.out.drew).alloc _) ⟨wr.heap.size, 0, none⟩ 1 1 [.bool false, .string r'.body] (by rfl) (by rfl) (World.news_of_block (cs := #[.bool false, .string r'.body]) (t := 46) (fr := (0, 0)) (heap_alloc_new wr.drew _)) (by simp [Value.oneCell']) (by omega) (by unfold maxLen; omega) (by omega) (by simp <;> omega) (wr.heap.size + 1) (by simp) ?_; intro gg cap1 w1 hown1 hgrow1 hat1 hlt1; have hgo : (wr.drew.alloc (.cells #[.bool false, .string r'.body] 46)).heap[g]? = wr.heap[g]? := Below.heap_alloc wr.drew _ _ hglt; have hlo : g < (wr.drew.alloc (.cells #[.bool false, .string r'.body] 46)).heap.size := (by simp <;> omega); have hg1 : w1.heap[g]? = wr.heap[g]? := (hgrow1.block g hlo (Ne.symm Hne.out)).trans hgo; have hc3 : w1.cell? ⟨g, 3, none⟩ = some v := (World.cell?_of_block (w := wr) (a := ⟨g, 3, none⟩) hg1).trans c3; have hf3 : w1.frozen? ⟨g, 3, none⟩ = false := (World.frozen?_of_block (w := wr) (a := ⟨g, 3, none⟩) hg1).trans f3; have HG1 := Kp.mk (hg1.trans HG.out); have Hown1 := Kp.mk hown1; have HB1 : Kp (Below w0.heap.size w0 w1) := ⟨Below.grown (w := (wr.drew.alloc (.cells #[.bool false, .string r'.body] 46))) (hbr.drew.alloc (by simp <;> omega) _) hgrow1 (by simp <;> omega) (fun q hq => (Hown.out.lt q hq).1)⟩; clear hown1 hgrow1 hat1 hg1 hgo hlo))
          all_goals go_wp2_with fail
          all_goals go_roundw
          all_goals try case measure => simp [intOf]; omega
          all_goals
            have hg1 := HG1.out
            exact ⟨k + 1, .slice (some ⟨gg, 0, none⟩) (k + 1) cap1, by go_num, by omega, ⟨heap_setCell_same _ _ _ _ _ _ hg1⟩, by
              rw [Htake.out, Hp.out]; exact ownsRow_setCell_other Hown1.out (own_ne Hown1.out hg1) _, HB1.out.setCell (by dsimp only; omega) _⟩
        · have hkd' : (r'.kind == 1) = false := by simpa using hkd
          have Hp : Kp (partOf r' = (true, ByteArray.empty)) := ⟨by unfold partOf; rw [if_neg hkd]⟩
          clear hkd
          have hglt : g < wr.heap.size := lt_of_block HG.out
          go_wp2_with (at_builtin; refine wpList_append_lies _ rfl (.tmp 59) (.tmp 61) 34 rfl w0.heap.size 46 i0 _ 2 24 Try.underlying34 hi hz0 hz1 hz2 rfl (by decide) v k _ rfl (Hown.out.alloc _) ⟨wr.heap.size, 0, none⟩ 1 1 [.bool true, .string ⟨#[]⟩] rfl rfl (World.news_of_block (cs := #[.bool true, .string ⟨#[]⟩]) (t := 46) (fr := (0, 0)) (heap_alloc_new wr _)) (by simp [Value.oneCell']) (by omega) (by unfold maxLen; omega) (by omega) (by simp <;> omega) (wr.heap.size + 1) (by simp) ?_; intro gg cap1 w1 hown1 hgrow1 hat1 hlt1; have hgo : (wr.alloc (.cells #[.bool true, .string ⟨#[]⟩] 46)).heap[g]? = wr.heap[g]? := Below.heap_alloc wr _ _ hglt; have hlo : g < (wr.alloc (.cells #[.bool true, .string ⟨#[]⟩] 46)).heap.size := (by simp <;> omega); have hg1 : w1.heap[g]? = wr.heap[g]? := (hgrow1.block g hlo (Ne.symm Hne.out)).trans hgo; have hc3 : w1.cell? ⟨g, 3, none⟩ = some v := (World.cell?_of_block (w := wr) (a := ⟨g, 3, none⟩) hg1).trans c3; have hf3 : w1.frozen? ⟨g, 3, none⟩ = false := (World.frozen?_of_block (w := wr) (a := ⟨g, 3, none⟩) hg1).trans f3; have HG1 := Kp.mk (hg1.trans HG.out); have Hown1 := Kp.mk hown1; have HB1 : Kp (Below w0.heap.size w0 w1) := ⟨Below.grown (w := (wr.alloc (.cells #[.bool true, .string ⟨#[]⟩] 46))) (hbr.alloc (by omega) _) hgrow1 (by simp <;> omega) (fun q hq => (Hown.out.lt q hq).1)⟩; clear hown1 hgrow1 hat1 hg1 hgo hlo)
          go_roundw
          case measure => simp [intOf]; omega
          case rel =>
            have hg1 := HG1.out
            exact ⟨k + 1, .slice (some ⟨gg, 0, none⟩) (k + 1) cap1, by go_num, by omega, ⟨heap_setCell_same _ _ _ _ _ _ hg1⟩, by
              rw [Htake.out, Hp.out]; exact ownsRow_setCell_other Hown1.out (own_ne Hown1.out hg1) _, HB1.out.setCell (by dsimp only; omega) _⟩
      · have hlt' : decide (k < rs.length) = false := by simpa using hlt
        have hkn : k = rs.length := by omega
        have Hownn : Kp (wr.ownsRow w0.heap.size 46 2 v rs.length (pcells (rs.map partOf))) := ⟨by rw [← hkn, show rs.map partOf = (rs.take k).map partOf by rw [hkn, List.take_length]]; exact hown⟩
        have hne := own_ne hown HG.out
        have c0 : wr.cell? ⟨g, 0, none⟩ = some (.int .i64 sq) := by rw [cell_of_row wr _ 0 _ _ _ HG.out]; rfl
        have c1 : wr.cell? ⟨g, 1, none⟩ = some (.int .i64 fi) := by rw [cell_of_row wr _ 1 _ _ _ HG.out]; rfl
        have c2 : wr.cell? ⟨g, 2, none⟩ = some (.int .i64 be) := by rw [cell_of_row wr _ 2 _ _ _ HG.out]; rfl
        have c3 : wr.cell? ⟨g, 3, none⟩ = some (v) := by rw [cell_of_row wr _ 3 _ _ _ HG.out]; rfl
        have hres : wr.heap[w.heap.size + 1]? = some (.cells #[.int .i64 0, .int .i64 0, .int .i64 0, .slice none 0 0] 36 (0, 0)) := (hbr.block _ (by rw [Hz.out]; omega)).trans Hres.out
        have r0 : wr.cell? ⟨w.heap.size + 1, 0, none⟩ = some (.int .i64 0) := by rw [cell_of_row wr _ 0 _ _ _ hres]; rfl
        have r1 : wr.cell? ⟨w.heap.size + 1, 1, none⟩ = some (.int .i64 0) := by rw [cell_of_row wr _ 1 _ _ _ hres]; rfl
        have r2 : wr.cell? ⟨w.heap.size + 1, 2, none⟩ = some (.int .i64 0) := by rw [cell_of_row wr _ 2 _ _ _ hres]; rfl
        have r3 : wr.cell? ⟨w.heap.size + 1, 3, none⟩ = some (.slice none 0 0) := by rw [cell_of_row wr _ 3 _ _ _ hres]; rfl
        have f0 : wr.frozen? ⟨w.heap.size + 1, 0, none⟩ = false := frozen_of_row wr _ _ _ _ hres
        have f1 : wr.frozen? ⟨w.heap.size + 1, 1, none⟩ = false := frozen_of_row wr _ _ _ _ hres
        have f2 : wr.frozen? ⟨w.heap.size + 1, 2, none⟩ = false := frozen_of_row wr _ _ _ _ hres
        have f3 : wr.frozen? ⟨w.heap.size + 1, 3, none⟩ = false := frozen_of_row wr _ _ _ _ hres
        obtain ⟨Av, nv, cv, rfl⟩ : ∃ Av nv cv, v = .slice Av nv cv := by
          rcases hown.2 with ⟨rfl, _⟩ | ⟨g', cap', cur', rfl, _⟩
          · exact ⟨_, _, _, rfl⟩
          · exact ⟨_, _, _, rfl⟩
        clear hres hkn hown
        go_wp2_with fail
        refine bodyPost_ret (v := .tuple #[.agg #[.int .i64 sq, .int .i64 fi, .int .i64 be, .slice Av nv cv], .int .i64 0]) (by simp [results, Try.results16, go_sem, r0, r1, r2, r3]) rfl (HP.out _ _ ?_ ?_)
        · have hb0 : Below w.heap.size w wr := HB.out.trans (hbr.mono (by rw [Hz.out]; omega))
          repeat (first | exact hb0 | (refine Below.setCell ?_ (by simp) _))
        · have hz := Hz.out
          refine PR.of_own (base := w0.heap.size) ?_
          rw [List.length_map]
          have hown2 := Hownn.out
          have hne2 : (Value.slice Av nv cv).ownBlock ≠ some (w.heap.size + 1) := fun he => by
            have := hown2.lt _ he
            omega
          repeat (first | exact hown2 | refine ownsRow_setCell_other ?_ hne2 _)

end Go.Proofs.Ytenfijjlggiklaa.CutP
