/-
  The walk of CutSays.
-/
import Derived.Test.YtenfijjlggiklaaC11
import Derived.Test.YtenfijjlggiklaaC7
import Derived.Maps.AppendAt
import Derived.Deep.AppendLies
import Derived.Deep.RegionLaw
namespace Go.Proofs.Ytenfijjlggiklaa.CutP
open Go.RowKit Go.CutLaws Go.Great
set_option linter.unusedVariables false

/-- receipts numbered anew -/
def reix : Nat → List Rc → List Rc
  | _, [] => []
  | a, r :: l => { r with index := (a : Int) } :: reix (a + 1) l
theorem reix_length : ∀ (a : Nat) (l : List Rc), (reix a l).length = l.length
  | _, [] => rfl
  | a, r :: l => by simp [reix, reix_length (a + 1) l]
theorem reix_snoc : ∀ (a : Nat) (l : List Rc) (r : Rc), reix a (l ++ [r]) = reix a l ++ [{ r with index := ((a + l.length : Nat) : Int) }]
  | a, [], r => rfl
  | a, x :: l, r => by
    simp only [List.cons_append, reix, reix_snoc (a + 1) l r, List.length_cons]
    rw [show a + 1 + l.length = a + (l.length + 1) by omega]
theorem reix_get : ∀ (a : Nat) (l : List Rc) (i : Nat) (r : Rc), l[i]? = some r → (reix a l)[i]? = some { r with index := ((a + i : Nat) : Int) }
  | a, [], i, r, h => by simp at h
  | a, x :: l, 0, r, h => by
    simp at h
    subst h
    rfl
  | a, x :: l, i + 1, r, h => by
    have := reix_get (a + 1) l i r (by simpa using h)
    rw [show a + (i + 1) = a + 1 + i by omega]
    simpa [reix] using this

theorem reix_mem : ∀ (a : Nat) (l : List Rc) (r' : Rc), r' ∈ reix a l → ∃ r ∈ l, ∃ x : Int, r' = { r with index := x }
  | a, [], r', h => by simp [reix] at h
  | a, x :: l, r', h => by
    simp only [reix, List.mem_cons] at h
    rcases h with rfl | h
    · exact ⟨x, by simp, _, rfl⟩
    · obtain ⟨r, hr, y, e⟩ := reix_mem (a + 1) l r' h
      exact ⟨r, by simp [hr], y, e⟩
theorem reix_makeOk (sq bf : Int) (k : Nat) (l : List Rc) (h : 1 ≤ l.length) : makeOk ⟨sq, k, bf, l.length⟩ (reix k l) = true := by
  match l, h with
  | r :: l, _ => simp [makeOk, reix, reix_length]

/-- one element of 68 cells, laid as a slice -/
theorem builtS_one (cs : Array Value) (h : cs.size = 68) : Try.prog.builtSlice 44 1 [(0, .agg cs)] = some cs := by
  have hi : (Try.prog.info? 44).map (fun i => (i.zero.isSome, i.size)) = some (true, 68) := by kernel_rfl
  unfold Program.builtSlice
  cases hq : Try.prog.info? 44 with
  | none => simp [hq] at hi
  | some i =>
    simp only [hq, Option.map_some, Option.some.injEq, Prod.mk.injEq] at hi
    obtain ⟨h1, h2⟩ := hi
    obtain ⟨z, hz⟩ := Option.isSome_iff_exists.1 h1
    simp only [hz, h2]
    rw [if_neg (by omega)]
    have := fill_whole (s := 68) (by omega) [.agg cs] ((Array.range (1 * 68)).map (z.cells[· % z.cells.size]!)) (by intro v hv; simp at hv; subst hv; exact h) (by simp)
    simpa [Value.cells] using this

theorem cells_flat_get : ∀ (rs : List Rc) (hl : ∀ r ∈ rs, r.cells.length = 68) (i : Nat) (r : Rc), rs[i]? = some r → ∀ j v, r.cells[j]? = some v → (rs.flatMap Rc.cells)[i * 68 + j]? = some v
  | [], _, i, r, h, _, _, _ => by simp at h
  | x :: rs, hl, 0, r, h, j, v, hv => by
    simp at h
    subst h
    have hj := (List.getElem?_eq_some_iff.1 hv).1
    rw [List.flatMap_cons, show 0 * 68 + j = j by omega, List.getElem?_append_left hj]
    exact hv
  | x :: rs, hl, i + 1, r, h, j, v, hv => by
    have hx := hl x (List.mem_cons_self)
    rw [List.flatMap_cons, List.getElem?_append_right (by rw [hx]; omega), hx, show (i + 1) * 68 + j - 68 = i * 68 + j by omega]
    exact cells_flat_get rs (fun r hr => hl r (List.mem_cons_of_mem _ hr)) i r (by simpa using h) j v hv

/-- what the call owns, read as receipts -/
theorem LR.of_own {w : World} {base : Nat} {v : Value} {rs : List Rc} (h : w.ownsRow base 44 68 v rs.length (rs.flatMap Rc.cells)) (hl : ∀ r ∈ rs, r.rest.length = 64) (hf : ∀ r ∈ rs, r.body.size ≤ 140737488351232)
    (h1 : ∀ r ∈ rs, ∀ v ∈ r.rest, v.oneCell' = true) : ∃ A c, v = .slice A rs.length c ∧ LR w w.heap.size A rs := by
  rcases h.2 with ⟨rfl, h0⟩ | ⟨g, cap, cur, rfl, hb, hg, hn, hm, hs, ht⟩
  · refine ⟨none, 0, by rw [h0], hl, hf, h1, fun h => by omega⟩
  · refine ⟨some ⟨g, 0, none⟩, cap, rfl, hl, hf, h1, fun _ => ⟨g, 0, rfl, lt_of_block hg, fun i r hr j v hv => ?_⟩⟩
    have hlt : i < rs.length := (List.getElem?_eq_some_iff.1 hr).1
    have hcl : ∀ r ∈ rs, r.cells.length = 68 := fun r hr => by have := hl r hr; simp [Rc.cells, this]
    have hj : j < 68 := by
      have := (List.getElem?_eq_some_iff.1 hv).1
      rw [hcl r (List.mem_of_getElem? hr)] at this
      exact this
    have hget := cells_flat_get rs hcl i r hr j v hv
    rw [← ht, List.getElem?_take, if_pos (by omega), Array.getElem?_toList] at hget
    rw [Nat.zero_add, cell_of_row w g _ cur 44 (0, 0) hg]
    exact hget

theorem LR.oneAll {w : World} {B : Nat} {A : Option Addr} {rs : List Rc} (h : LR w B A rs) {r : Rc} (hr : r ∈ rs) (x : Int) : ∀ v ∈ ({ r with index := x } : Rc).cells, v.oneCell' = true := by
  intro v hv
  simp only [Rc.cells, List.mem_cons] at hv
  rcases hv with rfl | rfl | rfl | rfl | hv
  · rfl
  · rfl
  · rfl
  · rfl
  · exact h.one r hr v hv

theorem wpList_buildingSliceN {P : Program} {ops : Array Oper} {rest : List Oper} {o : Oper} {a : Act} {w : World} {Q : Exit → Act → World → Prop} (hg : o.guard = none) (t e : TypeId) (len : Nat) (ps : List (Nat × Operand)) (ho : o.op = .buildSlice t len ps.toArray)
    (hu : P.underlying t = some (.slice e)) (vals : List (Nat × Value)) (hv : ps.map (fun p => (p.1, a.eval p.2)) = vals) (cells : Array Value)
    (hf : P.builtSlice e len vals = some cells) (N : Nat) (hN : w.heap.size = N)
    (h : wpList P ops Q rest (a.put o.dst (.slice (some ⟨N, 0, none⟩) len len)) (w.alloc (.cells cells e))) : wpList P ops Q (o :: rest) a w := by
  subst hN
  exact wpList_buildingSlice hg t e len ps ho hu vals hv cells hf h

def z44 : Value := .agg (.int .i64 0 :: .int .i64 0 :: .int .i64 0 :: .string ⟨#[]⟩ :: List.replicate 64 (.int .u8 0)).toArray
theorem info44 : (Try.prog.info? 44).map (fun i => (i.zero, i.size, i.bytes)) = some (some z44, 68, 104) := by kernel_rfl

set_option maxRecDepth 100000 in
set_option maxHeartbeats 16000000 in
theorem law_says (rs0 : List Rc) (A0 : Option Addr) (cap0 : Nat) (ru : Ru) (w : World) (hl0 : LR w w.heap.size A0 rs0) (hm0 : rs0.length * 104 ≤ 140737488351232) (hcap0 : rs0.length ≤ cap0) :
    Calls Try.prog 7 #[.slice A0 rs0.length cap0, ru.val] w fun e w' => e = .returned (.bool true) ∧ Below w.heap.size w w' := by
  obtain ⟨c, hc⟩ : ∃ c : Int, ru.chk = c := ⟨_, rfl⟩
  have Hc := Kp.mk hc
  have Hok : Kp (c = 0 → ru.ok) := ⟨fun h => by
    by_cases hk : ru.ok
    · exact hk
    · rw [Ru.chk, if_neg hk] at hc; omega⟩
  clear hc
  obtain ⟨p, b, a, l⟩ := ru
  unfold Ru.val
  dsimp only
  have hc2 : ∀ W, Calls Try.prog 10 #[.agg #[.int .i64 p, .int .i64 b, .int .i64 a, .int .i64 l]] W fun e w' => e = .returned (.int .i64 c) ∧ Below W.heap.size W w' := fun W => by
    have := rcheck_any ⟨p, b, a, l⟩ W
    rw [Hc.out] at this
    exact this
  have Hc2 := Kp.mk hc2
  have Hl0 := Kp.mk hl0
  clear hc2 hl0
  go_enter Try.func7, Try.ntmps7
  go_upto_if 18 with fail
  go_cut [0] (fun s0 wx => ∃ rs : List Rc, s0 = .slice A0 rs.length cap0 ∧ LR w w.heap.size A0 rs ∧ rs.length ≤ 60 ∧ rs.length ≤ cap0 ∧ wx = w.alloc (.cells #[.int .i64 p, .int .i64 b, .int .i64 a, .int .i64 l] 24))
  case first =>
    by_cases h60 : 60 < rs0.length
    · have h60' : decide (60 < rs0.length) = true := by simpa using h60
      have hll : (rs0.take 60).length = 60 := by rw [List.length_take]; omega
      have Hll := Kp.mk hll
      clear hll
      go_wp2_with fail
      go_meet
      exact ⟨rs0.take 60, by rw [Hll.out], Hl0.out.take 60, by rw [Hll.out]; omega, by rw [Hll.out]; omega, rfl⟩
    · have h60' : decide (60 < rs0.length) = false := by simpa using h60
      go_wp2_with fail
      go_meet
      exact ⟨rs0, rfl, Hl0.out, by omega, hcap0, rfl⟩
  case rest =>
    obtain ⟨rs, rfl, hl, hL, hcap, rfl⟩ := hcut
    have Hl := Kp.mk hl
    clear hl Hl0 hm0 hcap0
    by_cases hc0 : c = 0
    rotate_left
    · have hc0' : (c != 0) = true := by simpa using hc0
      clear Hok
      go_wp2_with fail
      refine (awake_any _).mono ?_
      rintro e w1 ⟨rfl, hb1⟩
      have HB1 : Kp (Below w.heap.size w w1) := ⟨((Below.refl _ w).alloc (Nat.le_refl _) _).trans (hb1.mono (by simp))⟩
      have hz1 : w.heap.size < w1.heap.size := by have := hb1.size; simp at this; omega
      have hbox : w1.heap[w.heap.size]? = some (.cells #[.int .i64 p, .int .i64 b, .int .i64 a, .int .i64 l] 24 (0, 0)) := (hb1.block _ (by simp)).trans (heap_alloc_new _ _)
      have k0 : w1.cell? ⟨w.heap.size, 0, none⟩ = some (.int .i64 p) := by rw [cell_of_row w1 _ 0 _ _ _ hbox]; rfl
      have k1 : w1.cell? ⟨w.heap.size, 1, none⟩ = some (.int .i64 b) := by rw [cell_of_row w1 _ 1 _ _ _ hbox]; rfl
      have k2 : w1.cell? ⟨w.heap.size, 2, none⟩ = some (.int .i64 a) := by rw [cell_of_row w1 _ 2 _ _ _ hbox]; rfl
      have k3 : w1.cell? ⟨w.heap.size, 3, none⟩ = some (.int .i64 l) := by rw [cell_of_row w1 _ 3 _ _ _ hbox]; rfl
      clear hb1 hbox
      go_wp2_with fail
      refine (Hc2.out _).mono ?_
      rintro e w2 ⟨rfl, hb2⟩
      have HB2 : Kp (Below w.heap.size w w2) := ⟨HB1.out.trans (hb2.mono (by omega))⟩
      clear hb2
      go_wp2_with fail
      refine (awake_any _).mono ?_
      rintro e w3 ⟨rfl, hb3⟩
      have HB3 : Kp (Below w.heap.size w w3) := ⟨HB2.out.trans (hb3.mono HB2.out.size)⟩
      clear hb3
      go_wp2_with fail
      go_ret
      exact ⟨rfl, HB3.out⟩
    have hok := Hok.out hc0
    subst hc0
    have HO := Kp.mk hok
    obtain ⟨o1, o2, o3, o4, o5, o6, o7, o8⟩ := hok
    dsimp only at o1 o2 o3 o4 o5 o6 o7 o8
    go_wp2_with fail
    refine (awake_any _).mono ?_
    rintro e w1 ⟨rfl, hb1⟩
    have HB1 : Kp (Below w.heap.size w w1) := ⟨((Below.refl _ w).alloc (Nat.le_refl _) _).trans (hb1.mono (by simp))⟩
    have hz1 : w.heap.size < w1.heap.size := by have := hb1.size; simp at this; omega
    have hbox : w1.heap[w.heap.size]? = some (.cells #[.int .i64 p, .int .i64 b, .int .i64 a, .int .i64 l] 24 (0, 0)) := (hb1.block _ (by simp)).trans (heap_alloc_new _ _)
    have k0 : w1.cell? ⟨w.heap.size, 0, none⟩ = some (.int .i64 p) := by rw [cell_of_row w1 _ 0 _ _ _ hbox]; rfl
    have k1 : w1.cell? ⟨w.heap.size, 1, none⟩ = some (.int .i64 b) := by rw [cell_of_row w1 _ 1 _ _ _ hbox]; rfl
    have k2 : w1.cell? ⟨w.heap.size, 2, none⟩ = some (.int .i64 a) := by rw [cell_of_row w1 _ 2 _ _ _ hbox]; rfl
    have k3 : w1.cell? ⟨w.heap.size, 3, none⟩ = some (.int .i64 l) := by rw [cell_of_row w1 _ 3 _ _ _ hbox]; rfl
    have Hbox := Kp.mk hbox
    clear hb1 hbox
    go_wp2_with fail
    refine (Hc2.out _).mono ?_
    rintro e w2 ⟨rfl, hb2⟩
    have HB2 : Kp (Below w.heap.size w w2) := ⟨HB1.out.trans (hb2.mono (by omega))⟩
    have hz2 : w.heap.size < w2.heap.size := by have := hb2.size; omega
    have hbox2 : w2.heap[w.heap.size]? = some (.cells #[.int .i64 p, .int .i64 b, .int .i64 a, .int .i64 l] 24 (0, 0)) := (hb2.block _ hz1).trans Hbox.out
    have Hbox2 := Kp.mk hbox2
    have HL2 : Kp (LR w2 w.heap.size A0 rs) := ⟨Hl.out.below HB2.out⟩
    clear hb2 hbox2 Hbox k0 k1 k2 k3
    go_wp2_with fail
    go_loopw [5, 6, 7] (fun at' bf' sq' wr => ∃ (k bf sq : Nat), at' = .int .i64 k ∧ bf' = .int .i64 bf ∧ sq' = .int .i64 sq ∧ k ≤ rs.length ∧ bf ≤ k ∧ sq ≤ k ∧ Below w2.heap.size w2 wr) (fun at' _ _ _ => rs.length - (intOf at').toNat)
    case atStart => exact ⟨0, 0, 0, rfl, rfl, rfl, Nat.zero_le _, Nat.le_refl _, Nat.le_refl _, Below.refl _ _⟩
    case round =>
      obtain ⟨k, bf, sq, rfl, rfl, rfl, hk, hbf, hsq, hbw⟩ := hrel
      by_cases hlt : k < rs.length
      · have hlt' : decide (k < rs.length) = true := by simpa using hlt
        have hboxr : wr.heap[w.heap.size]? = some (.cells #[.int .i64 p, .int .i64 b, .int .i64 a, .int .i64 l] 24 (0, 0)) := (hbw.block _ hz2).trans Hbox2.out
        have hx0 : ∀ x : Ext wr, x.val.cell? ⟨w.heap.size, 0, none⟩ = some (.int .i64 p) := fun x => x.cell (by rw [cell_of_row wr _ 0 _ _ _ hboxr]; rfl)
        have hx1 : ∀ x : Ext wr, x.val.cell? ⟨w.heap.size, 1, none⟩ = some (.int .i64 b) := fun x => x.cell (by rw [cell_of_row wr _ 1 _ _ _ hboxr]; rfl)
        have hx2 : ∀ x : Ext wr, x.val.cell? ⟨w.heap.size, 2, none⟩ = some (.int .i64 a) := fun x => x.cell (by rw [cell_of_row wr _ 2 _ _ _ hboxr]; rfl)
        have hx3 : ∀ x : Ext wr, x.val.cell? ⟨w.heap.size, 3, none⟩ = some (.int .i64 l) := fun x => x.cell (by rw [cell_of_row wr _ 3 _ _ _ hboxr]; rfl)
        have HLr : Kp (LR wr w.heap.size A0 rs) := ⟨HL2.out.below (hbw.mono (by omega))⟩
        obtain ⟨bk, of, rfl, hbk, _⟩ := HLr.out.head (by omega)
        have hlen : (rs.drop k).length = rs.length - k := by simp
        obtain ⟨n, hn⟩ : ∃ n, fitsR (rs.drop k) ⟨p, b, a, l⟩ = n := ⟨_, rfl⟩
        have hn1 : 1 ≤ n := by
          have := fitsR_pos (rs := rs.drop k) HO.out (by intro h0; rw [h0] at hlen; simp at hlen; omega)
          omega
        have hnL : n ≤ rs.length - k := by
          have := fitsR_le (rs.drop k) ⟨p, b, a, l⟩
          omega
        have hwz : w2.heap.size ≤ wr.heap.size := hbw.size
        have HFit : Kp (∀ x : Ext wr, Calls Try.prog 11 #[.slice (some ⟨bk, of + k * 68, none⟩) (rs.length - k) (cap0 - k), .agg #[.int .i64 p, .int .i64 b, .int .i64 a, .int .i64 l]] x.val fun e w' => e = .returned (.int .i64 n) ∧ Below x.val.heap.size x.val w') := ⟨fun x => by
          have hx : LR x.val w.heap.size (some ⟨bk, of, none⟩) rs := HLr.out.below (x.ok.mono (by omega))
          have := fits_is (rs.drop k) (some ⟨bk, of + k * 68, none⟩) (cap0 - k) ⟨p, b, a, l⟩ x.val n ((hx.cut k).more (by have := x.ok.size; omega)) (by rw [hlen]; unfold maxLen; omega) (by rw [hn])
          rw [hlen] at this
          exact this⟩
        have Hbw := Kp.mk hbw
        have hkc : ¬ cap0 = k := by omega
        have hkL : (0 : Int) ≤ k := by omega
        have hkN : (k : Int) ≤ rs.length := by omega
        clear hboxr hlen hn hbw
        go_wp2_with fail
        refine wp_region_ext (by kernel_rfl) (by kernel_rfl) ?_
        repeat (go_big_quiet_step ((go_at_call 11; exact Ext.calls (HFit.out _))))
        refine wpQuiet_nil ?_
        rintro ⟨w3, hb3⟩
        dsimp only
        clear hx0 hx1 hx2 hx3 HFit
        have hz3 : wr.heap.size ≤ w3.heap.size := hb3.size
        have Hb3 : Kp (Below w2.heap.size w2 w3) := ⟨Hbw.out.trans (hb3.mono (by omega))⟩
        have HL3 : Kp (LR w3 w.heap.size (some ⟨bk, of, none⟩) rs) := ⟨HLr.out.below (hb3.mono (by omega))⟩
        clear hb3
        have hn0' : decide ((n : Int) < 1) = false := by simp; omega
        have hdd : decide (rs.length - k < n) = false := by simp; omega
        have hsub : IntKind.i64.wrap ((rs.length : Int) - k) = ((rs.length - k : Nat) : Int) := by rw [IntWalk.i64_in _ (by omega)]; omega
        go_wp2_with fail
        clear hsub
        obtain ⟨i0, hi, hz0, hz1, hz2'⟩ : ∃ i : TypeInfo, Try.prog.info? 44 = some i ∧ i.zero = some z44 ∧ i.size = 68 ∧ i.bytes = 104 := by
          obtain ⟨i, h1, h2, h3, h4⟩ := info_parts info44
          exact ⟨i, h1, h2, h3, h4⟩
        go_loopw [9, 10] (fun v n' wr => ∃ (j : Nat), n' = .int .i64 j ∧ k ≤ j ∧ j ≤ k + n ∧ wr.ownsRow w3.heap.size 44 68 v (j - k) ((reix k ((rs.drop k).take (j - k))).flatMap Rc.cells) ∧ Below w3.heap.size w3 wr) (fun _ n' _ => k + n - (intOf n').toNat)
        case atStart => exact ⟨k, rfl, Nat.le_refl _, by omega, by rw [Nat.sub_self]; exact World.ownsRow_nil _ _ _ _, Below.refl _ _⟩
        case round =>
          obtain ⟨j, rfl, hkj, hj, hown, hbv⟩ := hrel
          have hvz : w3.heap.size ≤ wr.heap.size := hbv.size
          by_cases hin : j < k + n
          · have HLv : Kp (LR wr w.heap.size (some ⟨bk, of, none⟩) rs) := ⟨HL3.out.below (hbv.mono (by omega))⟩
            obtain ⟨r, hr⟩ : ∃ r, rs[j]? = some r := ⟨_, List.getElem?_eq_getElem (by omega)⟩
            have hmem := List.mem_of_getElem? hr
            have Hones := Kp.mk (HLv.out.ones hmem)
            have Hones2 := Kp.mk (HLv.out.oneAll hmem (j : Int))
            have Hsize := Kp.mk (HLv.out.size hmem)
            obtain ⟨bk', of', hbo, _, _, _, _, _, _, hrange⟩ := HLv.out.get hr
            obtain ⟨rfl, rfl⟩ : bk = bk' ∧ of = of' := by simpa using hbo
            have Hrange := Kp.mk hrange
            have Hsnoc : Kp ((reix k ((rs.drop k).take (j + 1 - k))).flatMap Rc.cells = (reix k ((rs.drop k).take (j - k))).flatMap Rc.cells ++ ({ r with index := (j : Int) } : Rc).cells) := ⟨by
              have hl : ((rs.drop k).take (j - k)).length = j - k := by rw [List.length_take, List.length_drop]; omega
              have hr2 : (rs.drop k)[j - k]? = some r := by rw [List.getElem?_drop, show k + (j - k) = j by omega, hr]
              rw [show j + 1 - k = j - k + 1 by omega, List.take_add_one, hr2, Option.toList_some, reix_snoc, hl, List.flatMap_append, show k + (j - k) = j by omega]
              simp⟩
            have HXs : Kp (({ r with index := (j : Int) } : Rc).cells.toArray.size = 68) := ⟨by rw [List.size_toArray]; exact Hsize.out⟩
            have Hown := Kp.mk hown
            have Hbv := Kp.mk hbv
            have hjN : (j : Int) < rs.length := by omega
            have hk0 : r.cells[0]? = some (.int .i64 r.index) := rfl
            clear hr hbo hrange hown hbv hmem
            go_wp2_with (first
              | (refine wpList_load_mid rfl 44 (.tmp 58) rfl bk (of + j * 68) rfl r.cells _ Hrange.out Try.underlying44 rfl (by rw [info44s, Hsize.out]) ?_)
              | (refine wpList_new_row rfl rfl 44 (.tmp 11) (.tmp 59) rfl rfl 68 info44n r.cells.toArray rfl rfl (by rw [List.size_toArray, Hsize.out]) Hones.out ?_)
              | (refine wpList_load_row rfl 44 (.tmp 11) rfl wr.heap.size rfl 44 ({ r with index := (j : Int) } : Rc).cells.toArray (0, 0) _ (heap_alloc_new wr _) Try.underlying44 rfl (by rw [info44s, HXs.out]) ?_)
              | (refine wpList_buildingSliceN rfl 22 44 1 _ rfl Try.underlying22 _ rfl ({ r with index := (j : Int) } : Rc).cells.toArray (builtS_one _ HXs.out) (wr.heap.size + 1) (by simp) ?_)
              | (at_builtin; refine wpList_append_lies _ rfl (.tmp 62) (.tmp 64) 22 rfl w3.heap.size 44 i0 z44 68 104 Try.underlying22 hi hz0 hz1 hz2' rfl (by decide) u9 (j - k) _ rfl ((Hown.out.alloc _).alloc _) ⟨wr.heap.size + 1, 0, none⟩ 1 1 ({ r with index := (j : Int) } : Rc).cells rfl (by rw [Nat.one_mul]; exact Hsize.out) (World.news_of_block (cs := ({ r with index := (j : Int) } : Rc).cells.toArray) (t := 44) (fr := (0, 0)) (heap_alloc2_new wr _ _)) Hones2.out (by omega) (by unfold maxLen; omega) (by omega) (by simp <;> omega) (wr.heap.size + 1 + 1) (by simp) ?_; intro gg cap1 w4 hown1 hgrow1 hat1 hlt1; have HB4 : Kp (Below w3.heap.size w3 w4) := ⟨Below.grown ((Hbv.out.alloc hvz _).alloc (by simp <;> omega) _) hgrow1 (by simp <;> omega) (fun q hq => (Hown.out.lt q hq).1)⟩; have Hown1 := Kp.mk hown1; clear hown1 hgrow1 hat1))
            go_roundw
            case measure => simp [intOf]; omega
            case rel => exact ⟨j + 1, by go_num, by omega, by omega, by rw [Hsnoc.out, show j + 1 - k = j - k + 1 by omega]; exact Hown1.out, HB4.out⟩
          · have hjn : j = k + n := by omega
            obtain ⟨L9, hL9⟩ : ∃ L9, L9 = (rs.drop k).take n := ⟨_, rfl⟩
            have hlen9 : L9.length = n := by rw [hL9, List.length_take, List.length_drop]; omega
            have hok9 := reix_makeOk sq bf k L9 (by omega)
            rw [hlen9] at hok9
            have hown9 : wr.ownsRow w3.heap.size 44 68 u9 (reix k L9).length ((reix k L9).flatMap Rc.cells) := by
              rw [reix_length, hlen9, hL9]
              rw [hjn, show k + n - k = n by omega] at hown
              exact hown
            have hsub9 : ∀ r ∈ L9, r ∈ rs := fun r hr => by rw [hL9] at hr; exact List.mem_of_mem_drop (List.mem_of_mem_take hr)
            obtain ⟨A9, c9, he9, hlr9⟩ := LR.of_own hown9
              (fun r' hr' => by obtain ⟨r, hr, x, rfl⟩ := reix_mem _ _ _ hr'; exact HL3.out.len r (hsub9 r hr))
              (fun r' hr' => by obtain ⟨r, hr, x, rfl⟩ := reix_mem _ _ _ hr'; exact HL3.out.fit r (hsub9 r hr))
              (fun r' hr' => by obtain ⟨r, hr, x, rfl⟩ := reix_mem _ _ _ hr'; exact HL3.out.one r (hsub9 r hr))
            rw [reix_length, hlen9] at he9
            obtain ⟨PL, hPL⟩ : ∃ PL, PL = reix k L9 := ⟨_, rfl⟩
            have hPLl : PL.length = n := by rw [hPL, reix_length, hlen9]
            rw [← hPL] at hok9 hlr9
            have HMk : Kp (Calls Try.prog 15 #[.agg #[.int .i64 sq, .int .i64 k, .int .i64 bf, .int .i64 n], .slice A9 n c9] wr fun e w' => ∃ Ap cp, e = .returned (.tuple #[.agg #[.int .i64 sq, .int .i64 k, .int .i64 bf, .slice Ap n cp], .int .i64 0]) ∧
                PR w' (.slice Ap n cp) (PL.map partOf) ∧ Below wr.heap.size wr w') := ⟨by
              have := make_any ⟨sq, k, bf, n⟩ PL A9 c9 wr hlr9 (by omega)
              rw [hPLl] at this
              refine this.mono fun e w' hh => ?_
              obtain ⟨hb, hh⟩ := hh
              rw [if_pos hok9] at hh
              obtain ⟨v, rfl, hp⟩ := hh
              have hp' := hp
              obtain ⟨Ap, cp, rfl, _⟩ := hp.ex
              rw [List.length_map, hPLl] at hp' ⊢
              exact ⟨Ap, cp, rfl, hp', hb⟩⟩
            have HL9 := Kp.mk hlr9
            have HPLl := Kp.mk hPLl
            have hbv' : Below w3.heap.size w3 wr := hbv
            have Hbv := Kp.mk hbv'
            have hin' : decide (j < k + n) = false := by simpa using hin
            have hin2 : decide ((j : Int) < (k : Int) + n) = false := by simp; omega
            subst he9
            clear hjn hL9 hlen9 hok9 hown9 hsub9 hlr9 hPL hPLl hown hbv hbv' hi hz0 hz1 hz2'
            go_wp2_with fail
            refine HMk.out.mono ?_
            rintro e w5 ⟨Ap, cp, rfl, hp5, hb5⟩
            obtain ⟨w6, hw6⟩ : ∃ w6, w5.alloc (Obj.cells #[Value.int IntKind.i64 sq, Value.int IntKind.i64 k, Value.int IntKind.i64 bf, Value.slice Ap n cp] 36) = w6 := ⟨_, rfl⟩
            have hb6 : Below w5.heap.size w5 w6 := by rw [← hw6]; exact (Below.refl _ _).alloc (Nat.le_refl _) _
            have hg6 : w6.heap[w5.heap.size]? = some (.cells #[.int .i64 sq, .int .i64 k, .int .i64 bf, .slice Ap n cp] 36 (0, 0)) := by rw [← hw6]; exact heap_alloc_new w5 _
            have hz5 : wr.heap.size ≤ w5.heap.size := hb5.size
            have hz6 : w5.heap.size < w6.heap.size := lt_of_block hg6
            have Hw6 := Kp.mk hw6
            have Hg6 := Kp.mk hg6
            have HP6 := Kp.mk (hp5.below hb6)
            have HL6 := Kp.mk ((HL9.out.below hb5).below (hb6.mono hz5))
            have Hb6 : Kp (Below w2.heap.size w2 w6) := ⟨((Hb3.out.trans (Hbv.out.mono (by omega))).trans (hb5.mono (by omega))).trans (hb6.mono (by omega))⟩
            clear hw6 hb6 hg6 hp5 hb5 HMk
            go_wp2_with fail
            rw [Hw6.out]
            clear Hw6
            go_loopw [6, 14] (fun bf' n' wr => ∃ (i b' : Nat), n' = .int .i64 i ∧ bf' = .int .i64 b' ∧ i ≤ n ∧ b' ≤ k + i ∧ Below w6.heap.size w6 wr) (fun _ n' _ => n - (intOf n').toNat)
            case atStart => exact ⟨0, bf, rfl, rfl, Nat.zero_le _, by omega, Below.refl _ _⟩
            case round =>
              obtain ⟨i, b', rfl, rfl, hi, hb', hbx⟩ := hrel
              by_cases hin3 : i < n
              · have hgx : wr.heap[w5.heap.size]? = some (.cells #[.int .i64 sq, .int .i64 k, .int .i64 bf, .slice Ap n cp] 36 (0, 0)) := (hbx.block _ hz6).trans Hg6.out
                have k3 : wr.cell? ⟨w5.heap.size, 3, none⟩ = some (.slice Ap n cp) := by rw [cell_of_row wr _ 3 _ _ _ hgx]; rfl
                have HLx := HL6.out.below (hbx.mono (by omega))
                have HPx := HP6.out.below hbx
                obtain ⟨r, hr⟩ : ∃ r, PL[i]? = some r := ⟨_, List.getElem?_eq_getElem (by rw [HPLl.out]; exact hin3)⟩
                obtain ⟨b9, o9, rfl, hb9, _, ck, ct, cb, _, _⟩ := HLx.get hr
                obtain ⟨Aq, cq, heq, hcq⟩ := HPx.ex
                have hpl : (PL.map partOf).length = n := by rw [List.length_map, HPLl.out]
                rw [hpl] at heq hcq
                obtain ⟨rfl, _, rfl⟩ : Ap = Aq ∧ True ∧ cp = cq := by
                  injection heq with h1 h2 h3
                  exact ⟨h1, trivial, h3⟩
                obtain ⟨bp, op, rfl, hbp, hcell⟩ := hcq (by omega)
                obtain ⟨e1, e2⟩ := hcell i (partOf r) (by rw [List.getElem?_map, hr]; rfl)
                have Hbx := Kp.mk hbx
                have hin' : decide (i < n) = true := by simpa using hin3
                have hiL : (0 : Int) ≤ i := by omega
                have hiN : (i : Int) < n := by omega
                clear hgx HLx HPx hr heq hcq hpl hcell hbx
                by_cases hk1 : r.kind = 1
                · have hp1 : partOf r = (false, r.body) := by unfold partOf; rw [if_pos hk1]
                  rw [hp1] at e1 e2
                  dsimp only at e1 e2
                  have hk1' : (r.kind == 1) = true := by simpa using hk1
                  clear hp1 hk1
                  go_wp2_with fail
                  go_quiet (fail)
                  go_wp2_with fail
                  go_roundw
                  case measure => simp [intOf]; omega
                  case rel => exact ⟨i + 1, b', by go_num, rfl, by omega, by omega, below_drewN Hbx.out _⟩
                · have hp1 : partOf r = (true, ByteArray.empty) := by unfold partOf; rw [if_neg hk1]
                  rw [hp1] at e1 e2
                  dsimp only at e1 e2
                  have hk1' : (r.kind == 1) = false := by simpa using hk1
                  clear hp1 hk1
                  go_wp2_with fail
                  go_quiet (fail)
                  go_wp2_with fail
                  go_roundw
                  case measure => simp [intOf]; omega
                  case rel => exact ⟨i + 1, b' + 1, by go_num, by go_num, by omega, by omega, below_drewN Hbx.out _⟩
              · have hin' : decide (i < n) = false := by simpa using hin3
                have Hbx : Kp (Below w2.heap.size w2 wr) := ⟨Hb6.out.trans (hbx.mono (by have := Hb6.out.size; omega))⟩
                clear hbx
                go_wp2_with fail
                go_roundw
                case measure => simp [intOf]; omega
                case rel => exact ⟨k + n, b', sq + 1, by go_num, rfl, by go_num, by omega, by omega, by omega, Hbx.out⟩
      · have hlt' : decide (k < rs.length) = false := by simpa using hlt
        have HBr : Kp (Below w.heap.size w wr) := ⟨HB2.out.trans (hbw.mono (by omega))⟩
        go_wp2_with fail
        go_ret
        exact ⟨rfl, HBr.out⟩

end Go.Proofs.Ytenfijjlggiklaa.CutP
