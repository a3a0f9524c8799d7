/-
  Contract of the program's Make.
-/
import Derived.Test.YtenfijjlggiklaaC2
import Derived.Deep.DeepCutAuto
import Derived.Deep.RegionHeld3
namespace Go.Proofs.Ytenfijjlggiklaa.CutP
open Go.RowKit Go.CutLaws
set_option linter.unusedVariables false

/-- what a batch holds of a receipt -/
def partOf (r : Rc) : Bool × ByteArray := if r.kind = 1 then (false, r.body) else (true, ByteArray.empty)
/-- four numbers of a cut -/
structure Ct where
  seq : Int
  first : Int
  before : Int
  count : Int
def Ct.val (c : Ct) : Value := .agg #[.int .i64 c.seq, .int .i64 c.first, .int .i64 c.before, .int .i64 c.count]
/-- may it be made? -/
def makeOk (c : Ct) (rs : List Rc) : Bool := match rs with
  | [] => false
  | r :: _ => (rs.length : Int) == c.count && r.index == c.first

/-- parts, as they lie -/
structure PR (w : World) (v : Value) (ps : List (Bool × ByteArray)) : Prop where
  ex : ∃ A c, v = .slice A ps.length c ∧ (0 < ps.length → ∃ b o, A = some ⟨b, o, none⟩ ∧ b < w.heap.size ∧
    ∀ i p, ps[i]? = some p → w.cell? ⟨b, o + i * 2, none⟩ = some (.bool p.1) ∧ w.cell? ⟨b, o + i * 2 + 1, none⟩ = some (.string p.2))

def batchV (c : Ct) (v : Value) : Value := .agg #[.int .i64 c.seq, .int .i64 c.first, .int .i64 c.before, v]
def noBatch : Value := .agg #[.int .i64 0, .int .i64 0, .int .i64 0, .slice none 0 0]

/-- what Make leaves -/
def MakePost (c : Ct) (rs : List Rc) (w : World) (e : Ending) (w' : World) : Prop :=
  Below w.heap.size w w' ∧
  if makeOk c rs then ∃ v, e = .returned (.tuple #[batchV c v, .int .i64 0]) ∧ PR w' v (rs.map partOf)
  else e = .returned (.tuple #[noBatch, .int .i64 2])

theorem info46 : (Try.prog.info? 46).map (fun i => (i.zero, i.size, i.bytes)) = some (some (.agg #[.bool false, .string ⟨#[]⟩]), 2, 24) := by kernel_rfl

/-- the cells of the parts behind k rounds -/
structure PC (rs : List Rc) (k : Nat) (C : Array Value) : Prop where
  size : C.size = rs.length * 2
  at_ : ∀ i r, rs[i]? = some r → C[i * 2]? = some (.bool (if i < k then (partOf r).1 else false)) ∧ C[i * 2 + 1]? = some (.string (if i < k then (partOf r).2 else ByteArray.empty))

theorem PC.start {rs : List Rc} {C : Array Value} (hs : C.size = rs.length * 2) (h : ∀ j, j < rs.length * 2 → C[j]? = some (if j % 2 = 0 then .bool false else .string ⟨#[]⟩)) : PC rs 0 C := by
  refine ⟨hs, fun i r hr => ?_⟩
  have hlt : i < rs.length := (List.getElem?_eq_some_iff.1 hr).1
  rw [h _ (by omega), h _ (by omega), if_pos (by omega), if_neg (by omega), if_neg (by omega), if_neg (by omega)]
  exact ⟨rfl, rfl⟩

theorem PC.step1 {rs : List Rc} {k : Nat} {C : Array Value} {r : Rc} (h : PC rs k C) (hr : rs[k]? = some r) (hk : r.kind = 1) : PC rs (k + 1) (C.setIfInBounds (k * 2 + 1) (.string r.body)) := by
  have hlt : k < rs.length := (List.getElem?_eq_some_iff.1 hr).1
  have hp : partOf r = (false, r.body) := by unfold partOf; rw [if_pos hk]
  refine ⟨by simp [h.size], fun i r' hr' => ?_⟩
  have hlt' : i < rs.length := (List.getElem?_eq_some_iff.1 hr').1
  have hs := h.size
  obtain ⟨h1, h2⟩ := h.at_ i r' hr'
  by_cases hik : i = k
  · subst hik
    rw [hr] at hr'
    obtain rfl := Option.some.inj hr'
    rw [if_pos (by omega), if_pos (by omega), hp]
    rw [if_neg (by omega)] at h1
    refine ⟨?_, ?_⟩
    · rw [Array.getElem?_setIfInBounds_ne (by omega)]; exact h1
    · rw [Array.getElem?_setIfInBounds_self_of_lt (by omega)]
  · rw [Array.getElem?_setIfInBounds_ne (by omega), Array.getElem?_setIfInBounds_ne (by omega), h1, h2]
    have : (i < k + 1) ↔ i < k := by omega
    simp only [this, and_self]

theorem PC.step2 {rs : List Rc} {k : Nat} {C : Array Value} {r : Rc} (h : PC rs k C) (hr : rs[k]? = some r) (hk : ¬ r.kind = 1) : PC rs (k + 1) (C.setIfInBounds (k * 2) (.bool true)) := by
  have hlt : k < rs.length := (List.getElem?_eq_some_iff.1 hr).1
  have hp : partOf r = (true, ByteArray.empty) := by unfold partOf; rw [if_neg hk]
  refine ⟨by simp [h.size], fun i r' hr' => ?_⟩
  have hlt' : i < rs.length := (List.getElem?_eq_some_iff.1 hr').1
  have hs := h.size
  obtain ⟨h1, h2⟩ := h.at_ i r' hr'
  by_cases hik : i = k
  · subst hik
    rw [hr] at hr'
    obtain rfl := Option.some.inj hr'
    rw [if_pos (by omega), if_pos (by omega), hp]
    rw [if_neg (by omega)] at h2
    refine ⟨?_, ?_⟩
    · rw [Array.getElem?_setIfInBounds_self_of_lt (by omega)]
    · rw [Array.getElem?_setIfInBounds_ne (by omega)]; exact h2
  · rw [Array.getElem?_setIfInBounds_ne (by omega), Array.getElem?_setIfInBounds_ne (by omega), h1, h2]
    have : (i < k + 1) ↔ i < k := by omega
    simp only [this, and_self]

theorem PC.done {rs : List Rc} {C : Array Value} {w : World} {b : Nat} (h : PC rs rs.length C) (hb : w.heap[b]? = some (.cells C 46 (0, 0))) : PR w (.slice (some ⟨b, 0, none⟩) rs.length rs.length) (rs.map partOf) := by
  refine ⟨⟨some ⟨b, 0, none⟩, rs.length, by simp, fun _ => ⟨b, 0, rfl, lt_of_block hb, fun i p hp => ?_⟩⟩⟩
  rw [List.getElem?_map] at hp
  obtain ⟨r, hr, rfl⟩ := Option.map_eq_some_iff.1 hp
  have hlt : i < rs.length := (List.getElem?_eq_some_iff.1 hr).1
  obtain ⟨h1, h2⟩ := h.at_ i r hr
  rw [if_pos hlt] at h1 h2
  rw [Nat.zero_add, cell_of_row w b _ C 46 (0, 0) hb, cell_of_row w b _ C 46 (0, 0) hb]
  exact ⟨h1, h2⟩

set_option maxHeartbeats 8000000 in
theorem make_any (c : Ct) (rs : List Rc) (A : Option Addr) (cap : Nat) (w : World) (hl : LR w w.heap.size A rs) (hm : rs.length * 104 ≤ 140737488351232) :
    Calls Try.prog 15 #[c.val, .slice A rs.length cap] w (MakePost c rs w) := by
  obtain ⟨sq, fi, be, co⟩ := c
  unfold Ct.val
  dsimp only
  cases hok : makeOk ⟨sq, fi, be, co⟩ rs with
  | false =>
    have HP : Kp (∀ w', Below w.heap.size w w' → MakePost ⟨sq, fi, be, co⟩ rs w (.returned (.tuple #[noBatch, .int .i64 2])) w') := ⟨fun w' h => ⟨h, by rw [hok]; rfl⟩⟩
    by_cases h0 : rs.length = 0
    · have h0' : ((rs.length : Int) == 0) = true := by simp [h0]
      clear hok h0
      go_enter Try.func15, Try.ntmps15
      go_wp2_with fail
      go_quiet (fail)
      go_wp2
      refine bodyPost_ret (v := .tuple #[.agg #[.int .i64 0, .int .i64 0, .int .i64 0, .slice none 0 0], .int .i64 2]) (by simp [results, Try.results15, go_sem]) rfl (HP.out _ ?_)
      repeat (first | exact Below.refl _ _ | apply below_drewN | (refine Below.setCell ?_ (by simp) _) | (refine Below.alloc ?_ (by simp) _))
    · have h0' : ((rs.length : Int) == 0) = false := by simpa using h0
      by_cases h1 : (rs.length : Int) = co
      · have h1' : ((rs.length : Int) != co) = false := by simp [h1]
        obtain ⟨r, hr⟩ : ∃ r, rs[0]? = some r := ⟨_, List.getElem?_eq_getElem (by omega)⟩
        obtain ⟨bk, of, rfl, hadb, ci, _⟩ := hl.get hr
        have h2' : (r.index != fi) = true := by
          match rs, hr with
          | r0 :: l0, hr =>
            simp at hr
            subst hr
            have h9 : ((l0.length : Int) + 1 = co) := by simpa using h1
            simpa [makeOk, h9] using hok
        have hkN : (0 : Nat) < rs.length := by omega
        have ci' : w.cell? ⟨bk, of, none⟩ = some (.int .i64 r.index) := by simpa using ci
        have H1 := Kp.mk h1
        clear hok h0 h1 ci hr
        go_enter Try.func15, Try.ntmps15
        go_wp2_with fail
        go_quiet (fail)
        go_wp2
        refine bodyPost_ret (v := .tuple #[.agg #[.int .i64 0, .int .i64 0, .int .i64 0, .slice none 0 0], .int .i64 2]) (by simp [results, Try.results15, go_sem]) rfl (HP.out _ ?_)
        repeat (first | exact Below.refl _ _ | apply below_drewN | (refine Below.setCell ?_ (by simp) _) | (refine Below.alloc ?_ (by simp) _))
      · have h1' : ((rs.length : Int) != co) = true := by simpa using h1
        clear hok h0 h1
        go_enter Try.func15, Try.ntmps15
        go_wp2_with fail
        go_quiet (fail)
        go_wp2
        refine bodyPost_ret (v := .tuple #[.agg #[.int .i64 0, .int .i64 0, .int .i64 0, .slice none 0 0], .int .i64 2]) (by simp [results, Try.results15, go_sem]) rfl (HP.out _ ?_)
        repeat (first | exact Below.refl _ _ | apply below_drewN | (refine Below.setCell ?_ (by simp) _) | (refine Below.alloc ?_ (by simp) _))
  | true =>
    have h0 : rs.length ≠ 0 := by
      rintro h0
      rw [List.eq_nil_of_length_eq_zero h0] at hok
      simp [makeOk] at hok
    have h0' : ((rs.length : Int) == 0) = false := by simpa using h0
    obtain ⟨r, hr⟩ : ∃ r, rs[0]? = some r := ⟨_, List.getElem?_eq_getElem (by omega)⟩
    have h12 : (rs.length : Int) = co ∧ r.index = fi := by
      match rs, hr with
      | r0 :: l0, hr =>
        simp at hr
        subst hr
        simpa [makeOk] using hok
    have h1' : ((rs.length : Int) != co) = false := by simp [h12.1]
    have h2' : (r.index != fi) = false := by simp [h12.2]
    have HP : Kp (∀ v w', Below w.heap.size w w' → PR w' v (rs.map partOf) → MakePost ⟨sq, fi, be, co⟩ rs w (.returned (.tuple #[.agg #[.int .i64 sq, .int .i64 fi, .int .i64 be, v], .int .i64 0])) w') :=
      ⟨fun v w' h hp => ⟨h, by rw [hok]; exact ⟨v, rfl, hp⟩⟩⟩
    have HL := Kp.mk hl
    obtain ⟨bk, of, rfl, hadb, ci, _⟩ := hl.get hr
    have hkN : (0 : Nat) < rs.length := by omega
    have ci' : w.cell? ⟨bk, of, none⟩ = some (.int .i64 r.index) := by simpa using ci
    clear hok h0 h12 hr hl ci
    go_enter Try.func15, Try.ntmps15
    go_wp2_with fail
    go_quiet (fail)
    obtain ⟨w0, hw0⟩ : ∃ w0, w0 = (((w.alloc (Obj.cells #[Value.int IntKind.i64 sq, Value.int IntKind.i64 fi, Value.int IntKind.i64 be, Value.int IntKind.i64 co] 33)).alloc
      (Obj.cells #[Value.int IntKind.i64 0, Value.int IntKind.i64 0, Value.int IntKind.i64 0, Value.slice none 0 0] 36)).drewN nq) := ⟨_, rfl⟩
    have hB0 : Below w.heap.size w w0 := by
      rw [hw0]
      repeat (first | exact Below.refl _ _ | apply below_drewN | (refine Below.setCell ?_ (by simp) _) | (refine Below.alloc ?_ (by simp) _))
    have hz0 : w0.heap.size = w.heap.size + 2 := by rw [hw0]; simp
    have hbox : w0.heap[w.heap.size]? = some (.cells #[.int .i64 sq, .int .i64 fi, .int .i64 be, .int .i64 co] 33 (0, 0)) := by rw [hw0]; exact heap_alloc2_old w _ _
    have hres : w0.heap[w.heap.size + 1]? = some (.cells #[.int .i64 0, .int .i64 0, .int .i64 0, .slice none 0 0] 36 (0, 0)) := by rw [hw0]; exact heap_alloc2_new w _ _
    rw [← hw0]
    clear hw0
    have HB := Kp.mk hB0
    have Hz := Kp.mk hz0
    have Hbox := Kp.mk hbox
    have Hres := Kp.mk hres
    clear hB0 hz0 hbox hres
    go_upto_region 3 with fail
    go_cut [6] (fun s6 wx => ∃ g b C, s6 = .pointer (some ⟨g, 0, none⟩) ∧ wx.heap[g]? = some (.cells #[.int .i64 sq, .int .i64 fi, .int .i64 be, .slice (some ⟨b, 0, none⟩) rs.length rs.length] 36 (0, 0)) ∧
      wx.heap[b]? = some (.cells C 46 (0, 0)) ∧ Kp (PC rs 0 C) ∧ Below w0.heap.size w0 wx ∧ w0.heap.size ≤ b ∧ w0.heap.size ≤ g)
    case first =>
      have c0 : w0.cell? ⟨w.heap.size, 0, none⟩ = some (.int .i64 sq) := by rw [cell_of_row w0 _ 0 _ _ _ Hbox.out]; rfl
      have c1 : w0.cell? ⟨w.heap.size, 1, none⟩ = some (.int .i64 fi) := by rw [cell_of_row w0 _ 1 _ _ _ Hbox.out]; rfl
      have c2 : w0.cell? ⟨w.heap.size, 2, none⟩ = some (.int .i64 be) := by rw [cell_of_row w0 _ 2 _ _ _ Hbox.out]; rfl
      obtain ⟨i0, hi, hz0, hz1, hz2⟩ := info_parts info46
      have hmk : ∀ W : World, (Instr.makeSlice 34 (.int .i64 (rs.length : Int)) (.int .i64 (rs.length : Int))).run Try.prog W = .ok (.slice (some ⟨W.heap.size, 0, none⟩) rs.length rs.length) (W.alloc (.cells (madeCells #[.bool false, .string ⟨#[]⟩] (rs.length * 2)) 46)) := fun W => by
        have := run_make_rows (P := Try.prog) 34 46 i0 _ Try.underlying34 hi hz0 rs.length (by rw [hz2]; omega) (by omega) W
        rw [hz1] at this
        exact this
      clear hi hz0 hz1 hz2
      have hlt : w.heap.size < w0.heap.size := by rw [Hz.out]; omega
      go_region
      all_goals (go_wp2_with fail; go_meet)
      · exact ⟨_, _, _, rfl, heap_alloc2_new w0 _ _, heap_alloc2_old w0 _ _, ⟨PC.start (size_madeCells _ _) fun j hj => get_madeCells2 _ _ _ j hj⟩, (((Below.refl _ _).alloc (Nat.le_refl _) _).alloc (by simp) _).drew, by omega, by omega⟩
      · exact ⟨_, _, _, rfl, heap_alloc2_old w0 _ _, heap_alloc2_new w0 _ _, ⟨PC.start (size_madeCells _ _) fun j hj => get_madeCells2 _ _ _ j hj⟩, (((Below.refl _ _).alloc (Nat.le_refl _) _).alloc (by simp) _).drew, by omega, by omega⟩
    case rest =>
      obtain ⟨g, b, C0, rfl, hg, hb, hC, hbw, hbb, hgg⟩ := hcut
      have hbg : b ≠ g := by rintro rfl; rw [hb] at hg; simp at hg
      have Hg := Kp.mk hg
      have Hb := Kp.mk hb
      clear hg hb
      go_wp2_with fail
      go_loopw [40] (fun n wr => ∃ (k : Nat) (C : Array Value), n = .int .i64 k ∧ k ≤ rs.length ∧ Kp (wr.heap[g]? = some (.cells #[.int .i64 sq, .int .i64 fi, .int .i64 be, .slice (some ⟨b, 0, none⟩) rs.length rs.length] 36 (0, 0))) ∧
        Kp (wr.heap[b]? = some (.cells C 46 (0, 0))) ∧ Kp (PC rs k C) ∧ Below w0.heap.size w0 wr) (fun n wr => rs.length - (intOf n).toNat)
      case atStart => exact ⟨0, C0, rfl, Nat.zero_le _, Hg, Hb, hC, hbw⟩
      case round =>
        obtain ⟨k, C, rfl, hk, HG, HBk, HC, hbr⟩ := hrel
        by_cases hlt : k < rs.length
        · have hlr : LR wr w.heap.size (some ⟨bk, of, none⟩) rs := (HL.out.below HB.out).below (hbr.mono (by have := Hz.out; omega))
          obtain ⟨r', hr⟩ : ∃ r, rs[k]? = some r := ⟨_, List.getElem?_eq_getElem hlt⟩
          obtain ⟨bk', of', hbo, _, _, ck, ct, cb, hbody, _⟩ := hlr.get hr
          obtain ⟨rfl, rfl⟩ : bk = bk' ∧ of = of' := by simpa using hbo
          have hlt' : decide (k < rs.length) = true := by simpa using hlt
          have hkL : (0 : Int) ≤ k := by omega
          have hkN' : (k : Int) < rs.length := by omega
          have c3 : wr.cell? ⟨g, 3, none⟩ = some (.slice (some ⟨b, 0, none⟩) rs.length rs.length) := by rw [cell_of_row wr _ 3 _ _ _ HG.out]; rfl
          obtain ⟨p1, p2⟩ := HC.out.at_ k r' hr
          have e1 : wr.cell? ⟨b, k * 2, none⟩ = some (.bool false) := by rw [cell_of_row wr _ _ _ _ _ HBk.out, p1, if_neg (by omega)]
          have e2 : wr.cell? ⟨b, k * 2 + 1, none⟩ = some (.string ByteArray.empty) := by rw [cell_of_row wr _ _ _ _ _ HBk.out, p2, if_neg (by omega)]
          have f1 : wr.frozen? ⟨b, k * 2, none⟩ = false := frozen_of_row wr _ _ _ _ HBk.out
          have f2 : wr.frozen? ⟨b, k * 2 + 1, none⟩ = false := frozen_of_row wr _ _ _ _ HBk.out
          have Hr := Kp.mk hr
          clear p1 p2 hr hlr hbo
          by_cases hkd : r'.kind = 1
          · have hkd' : (r'.kind == 1) = true := by simpa using hkd
            have HC2 := Kp.mk (HC.out.step1 Hr.out hkd)
            clear hkd
            go_wp2_with fail
            go_region
            go_wp2_with fail
            go_roundw
            case measure => simp [intOf]; omega
            case rel => exact ⟨k + 1, _, by go_num, by omega, ⟨(heap_setCell_other _ _ _ _ (by dsimp only; omega)).trans HG.out⟩, ⟨heap_setCell_same _ _ _ _ _ _ HBk.out⟩, HC2, (hbr.setCell (by dsimp only; omega) _).drew⟩
          · have hkd' : (r'.kind == 1) = false := by simpa using hkd
            have HC2 := Kp.mk (HC.out.step2 Hr.out hkd)
            clear hkd
            go_wp2_with fail
            go_roundw
            case measure => simp [intOf]; omega
            case rel => exact ⟨k + 1, _, by go_num, by omega, ⟨(heap_setCell_other _ _ _ _ (by dsimp only; omega)).trans HG.out⟩, ⟨heap_setCell_same _ _ _ _ _ _ HBk.out⟩, HC2, hbr.setCell (by dsimp only; omega) _⟩
        · have hlt' : decide (k < rs.length) = false := by simpa using hlt
          have hkn : k = rs.length := by omega
          have HCn : Kp (PC rs rs.length C) := ⟨by rw [← hkn]; exact HC.out⟩
          have c0 : wr.cell? ⟨g, 0, none⟩ = some (.int .i64 sq) := by rw [cell_of_row wr _ 0 _ _ _ HG.out]; rfl
          have c1 : wr.cell? ⟨g, 1, none⟩ = some (.int .i64 fi) := by rw [cell_of_row wr _ 1 _ _ _ HG.out]; rfl
          have c2 : wr.cell? ⟨g, 2, none⟩ = some (.int .i64 be) := by rw [cell_of_row wr _ 2 _ _ _ HG.out]; rfl
          have c3 : wr.cell? ⟨g, 3, none⟩ = some (.slice (some ⟨b, 0, none⟩) rs.length rs.length) := by rw [cell_of_row wr _ 3 _ _ _ HG.out]; rfl
          have hres : wr.heap[w.heap.size + 1]? = some (.cells #[.int .i64 0, .int .i64 0, .int .i64 0, .slice none 0 0] 36 (0, 0)) := (hbr.block _ (by rw [Hz.out]; omega)).trans Hres.out
          have r0 : wr.cell? ⟨w.heap.size + 1, 0, none⟩ = some (.int .i64 0) := by rw [cell_of_row wr _ 0 _ _ _ hres]; rfl
          have r1 : wr.cell? ⟨w.heap.size + 1, 1, none⟩ = some (.int .i64 0) := by rw [cell_of_row wr _ 1 _ _ _ hres]; rfl
          have r2 : wr.cell? ⟨w.heap.size + 1, 2, none⟩ = some (.int .i64 0) := by rw [cell_of_row wr _ 2 _ _ _ hres]; rfl
          have r3 : wr.cell? ⟨w.heap.size + 1, 3, none⟩ = some (.slice none 0 0) := by rw [cell_of_row wr _ 3 _ _ _ hres]; rfl
          have f0 : wr.frozen? ⟨w.heap.size + 1, 0, none⟩ = false := frozen_of_row wr _ _ _ _ hres
          have f1 : wr.frozen? ⟨w.heap.size + 1, 1, none⟩ = false := frozen_of_row wr _ _ _ _ hres
          have f2 : wr.frozen? ⟨w.heap.size + 1, 2, none⟩ = false := frozen_of_row wr _ _ _ _ hres
          have f3 : wr.frozen? ⟨w.heap.size + 1, 3, none⟩ = false := frozen_of_row wr _ _ _ _ hres
          clear hres hkn
          go_wp2_with fail
          refine bodyPost_ret (v := .tuple #[.agg #[.int .i64 sq, .int .i64 fi, .int .i64 be, .slice (some ⟨b, 0, none⟩) rs.length rs.length], .int .i64 0]) (by simp [results, Try.results15, go_sem, r0, r1, r2, r3]) rfl (HP.out _ _ ?_ ?_)
          · have hb0 : Below w.heap.size w wr := HB.out.trans (hbr.mono (by rw [Hz.out]; omega))
            repeat (first | exact hb0 | (refine Below.setCell ?_ (by simp) _))
          · have hz := Hz.out
            refine PC.done HCn.out ?_
            repeat (refine (heap_setCell_other _ _ _ _ (by dsimp only; omega)).trans ?_)
            exact HBk.out

end Go.Proofs.Ytenfijjlggiklaa.CutP
