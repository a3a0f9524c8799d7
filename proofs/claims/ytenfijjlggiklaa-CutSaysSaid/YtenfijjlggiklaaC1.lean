/-
  Contracts of the small functions of layer 21.
-/
import Derived.Test.YtenfijjlggiklaaRows
import Derived.Test.YtenfijjlggiklaaLaw
import Derived.WalkKit
import Derived.ProofKit
import Derived.OpenShut
import Derived.Below
import Derived.Deep.QuietTactic
import Derived.BigQuiet
import Derived.KernelRfl
import Derived.Deep.MidRow
import Derived.Deep.WholeRow
namespace Go.Proofs.Ytenfijjlggiklaa.CutP
open Go.RowKit
set_option linter.unusedVariables false

/-- a fact kept from the walk -/
structure Kp (p : Prop) : Prop where
  out : p

theorem own : ownKnob Try.prog.godebug = none := by kernel_rfl

/-- is a time at most now less so much? -/
def oldB (t n wt : Int) : Bool := decide (-9223372036854775808 + wt ≤ n) && decide (t ≤ n - wt)

set_option maxHeartbeats 400000 in
theorem old_any (t n wt : Int) (w : World) (h0 : 0 ≤ wt) (h1 : wt ≤ 1099511627776) (hn : -9223372036854775808 ≤ n) (hn' : n ≤ 9223372036854775807) :
    Calls Try.prog 19 #[.int .i64 t, .int .i64 n, .int .i64 wt] w fun e w' => e = .returned (.bool (oldB t n wt)) ∧ w = w' := by
  by_cases hc : -9223372036854775808 + wt ≤ n
  · have hc' : decide (-9223372036854775808 + wt ≤ n) = true := by simpa using hc
    go_enter Try.func19, Try.ntmps19
    go_wp2
    go_ret
    exact ⟨by simp [oldB, hc], rfl⟩
  · have hc' : decide (-9223372036854775808 + wt ≤ n) = false := by simpa using hc
    go_enter Try.func19, Try.ntmps19
    go_wp2
    go_ret
    exact ⟨by simp [oldB]; omega, rfl⟩

/-- rules, four numbers -/
structure Ru where
  parts : Int
  bytes : Int
  age : Int
  lag : Int

def Ru.val (r : Ru) : Value := .agg #[.int .i64 r.parts, .int .i64 r.bytes, .int .i64 r.age, .int .i64 r.lag]

def Ru.ok (r : Ru) : Prop := 1 ≤ r.parts ∧ r.parts ≤ 64 ∧ 700 ≤ r.bytes ∧ r.bytes ≤ 8192 ∧ 0 ≤ r.age ∧ r.age ≤ 1099511627776 ∧ 0 ≤ r.lag ∧ r.lag ≤ 1099511627776
instance (r : Ru) : Decidable r.ok := by unfold Ru.ok; infer_instance
def Ru.chk (r : Ru) : Int := if r.ok then 0 else 2

set_option maxHeartbeats 1000000 in
theorem check_any (r : Ru) (w : World) :
    Calls Try.prog 9 #[r.val] w fun e w' => e = .returned (.int .i64 r.chk) ∧ Below w.heap.size w w' := by
  obtain ⟨p, b, a, l⟩ := r
  unfold Ru.val
  dsimp only
  go_enter Try.func9, Try.ntmps9
  go_wp2
  all_goals go_ret
  all_goals refine ⟨?_, by repeat (first | exact Below.refl _ _ | apply Below.drew | (refine Below.alloc ?_ (by simp) _))⟩
  all_goals refine congrArg Ending.returned ?_
  all_goals first
    | (rw [Ru.chk, if_pos (by unfold Ru.ok; dsimp only; omega)]; rfl)
    | (rw [Ru.chk, if_neg (by unfold Ru.ok; dsimp only; omega)]; rfl)

set_option maxHeartbeats 1000000 in
theorem rcheck_any (r : Ru) (w : World) :
    Calls Try.prog 10 #[r.val] w fun e w' => e = .returned (.int .i64 r.chk) ∧ Below w.heap.size w w' := by
  obtain ⟨p, b, a, l⟩ := r
  unfold Ru.val
  dsimp only
  go_enter Try.func10, Try.ntmps10
  go_wp2
  all_goals go_ret
  all_goals refine ⟨?_, by repeat (first | exact Below.refl _ _ | apply Below.drew | (refine Below.alloc ?_ (by simp) _))⟩
  all_goals refine congrArg Ending.returned ?_
  all_goals first
    | (rw [Ru.chk, if_pos (by unfold Ru.ok; dsimp only; omega)]; rfl)
    | (rw [Ru.chk, if_neg (by unfold Ru.ok; dsimp only; omega)]; rfl)

/-- the closure of Fits -/
theorem room_any (s : ByteArray) (g : Nat) (L : Int) (w : World) (hs : s.size ≤ 140737488351232) (h0 : 0 ≤ L) (h1 : L ≤ 8192) (hb : w.heap[g]? = some (.cells #[.int .i64 L] 3 (0, 0))) :
    Calls Try.prog 18 #[.string s, .pointer (some ⟨g, 0, none⟩)] w fun e w' => e = .returned (.bool (decide ((s.size : Int) ≤ L))) ∧ w' = w.setCell ⟨g, 0, none⟩ (.int .i64 (L - min L s.size)) := by
  have hc := cell_of_one hb
  have hf := free_of_one hb
  clear hb
  go_enter Try.func18, Try.ntmps18
  go_wp2
  all_goals go_ret
  all_goals refine ⟨by first | rfl | (simp; done), ?_⟩
  all_goals first | (rw [Int.min_def]; done) | (rw [show min L (s.size : Int) = s.size from by omega]; done) | (rw [show L - min L (s.size : Int) = 0 from by omega]; done)


/-! ### receipts -/
structure Rc where
  index : Int
  kind : Int
  time : Int
  body : ByteArray
  rest : List Value

def Rc.cells (r : Rc) : List Value := .int .i64 r.index :: .int .i64 r.kind :: .int .i64 r.time :: .string r.body :: r.rest

structure LR (w : World) (B : Nat) (A : Option Addr) (rs : List Rc) : Prop where
  len : ∀ r ∈ rs, r.rest.length = 64
  fit : ∀ r ∈ rs, r.body.size ≤ 140737488351232
  one : ∀ r ∈ rs, ∀ v ∈ r.rest, v.oneCell' = true
  head : 0 < rs.length → ∃ b o, A = some ⟨b, o, none⟩ ∧ b < B ∧ ∀ i r, rs[i]? = some r → ∀ j v, r.cells[j]? = some v → w.cell? ⟨b, o + i * 68 + j, none⟩ = some v

theorem LR.get {w : World} {B : Nat} {A : Option Addr} {rs : List Rc} {k : Nat} {r : Rc} (h : LR w B A rs) (hk : rs[k]? = some r) :
    ∃ b o, A = some ⟨b, o, none⟩ ∧ b < B ∧ w.cell? ⟨b, o + k * 68, none⟩ = some (.int .i64 r.index) ∧ w.cell? ⟨b, o + k * 68 + 1, none⟩ = some (.int .i64 r.kind) ∧
      w.cell? ⟨b, o + k * 68 + 2, none⟩ = some (.int .i64 r.time) ∧ w.cell? ⟨b, o + k * 68 + 3, none⟩ = some (.string r.body) ∧ r.body.size ≤ 140737488351232 ∧
      ∀ j v, r.cells[j]? = some v → w.cell? ⟨b, o + k * 68 + j, none⟩ = some v := by
  have hlt : k < rs.length := by
    rcases Nat.lt_or_ge k rs.length with h' | h'
    · exact h'
    · simp [List.getElem?_eq_none h'] at hk
  obtain ⟨b, o, e, hb, hc⟩ := h.head (by omega)
  have hc' := hc k r hk
  exact ⟨b, o, e, hb, hc' 0 _ rfl, hc' 1 _ rfl, hc' 2 _ rfl, hc' 3 _ rfl, h.fit r (List.mem_of_getElem? hk), hc'⟩

theorem LR.ones {w : World} {B : Nat} {A : Option Addr} {rs : List Rc} {r : Rc} (h : LR w B A rs) (hr : r ∈ rs) : r.cells.toArray.all (·.oneCell') = true := by
  refine all_oneCell_toArray fun v hv => ?_
  simp only [Rc.cells, List.mem_cons] at hv
  rcases hv with rfl | rfl | rfl | rfl | hv
  · rfl
  · rfl
  · rfl
  · rfl
  · exact h.one r hr v hv
theorem LR.size {w : World} {B : Nat} {A : Option Addr} {rs : List Rc} {r : Rc} (h : LR w B A rs) (hr : r ∈ rs) : r.cells.length = 68 := by
  have := h.len r hr
  simp [Rc.cells, this]

theorem LR.keep {w w' : World} {B : Nat} {A : Option Addr} {rs : List Rc} (h : LR w B A rs) (hk : ∀ p : Addr, p.block < B → w'.cell? p = w.cell? p) : LR w' B A rs :=
  ⟨h.len, h.fit, h.one, fun hn => by
    obtain ⟨b, o, e, hb, hc⟩ := h.head hn
    exact ⟨b, o, e, hb, fun i r hr j v hv => (hk _ hb).trans (hc i r hr j v hv)⟩⟩
theorem LR.more {w : World} {B B' : Nat} {A : Option Addr} {rs : List Rc} (h : LR w B A rs) (hB : B ≤ B') : LR w B' A rs :=
  ⟨h.len, h.fit, h.one, fun hn => by
    obtain ⟨b, o, e, hb, hc⟩ := h.head hn
    exact ⟨b, o, e, by omega, hc⟩⟩
theorem LR.below {w w' : World} {B : Nat} {A : Option Addr} {rs : List Rc} (h : LR w B A rs) (hb : Below B w w') : LR w' B A rs := h.keep fun _ hp => hb.cell hp

/-- how many fit: p parts, so many bytes left, k taken -/
def fitN (p : Int) : Int → Nat → List Nat → Nat
  | _, k, [] => k
  | L, k, s :: l => if (k : Int) < p ∧ ((s : Int) ≤ L ∨ k = 0) then fitN p (L - min L s) (k + 1) l else k

def fitsR (rs : List Rc) (r : Ru) : Nat := if r.ok then fitN r.parts r.bytes 0 (rs.map (·.body.size)) else 0

set_option maxHeartbeats 1000000 in
theorem fits_any (rs : List Rc) (A : Option Addr) (cap : Nat) (r : Ru) (w : World) (hl : LR w w.heap.size A rs) (hm : rs.length ≤ maxLen) :
    Calls Try.prog 11 #[.slice A rs.length cap, r.val] w fun e w' => e = .returned (.int .i64 (fitsR rs r)) ∧ Below w.heap.size w w' := by
  unfold maxLen at hm
  by_cases hok : r.ok
  · have hchk : r.chk = 0 := by unfold Ru.chk; rw [if_pos hok]
    have HO := Kp.mk hok
    obtain ⟨p, b, a, l⟩ := r
    obtain ⟨o1, o2, o3, o4, _⟩ := hok
    dsimp only at o1 o2 o3 o4
    unfold Ru.val
    dsimp only
    go_enter Try.func11, Try.ntmps11
    go_wp2_with fail
    refine (check_any ⟨p, b, a, l⟩ _).mono ?_
    rintro e w1 ⟨rfl, hb1⟩
    rw [hchk]
    have hz1 : w.heap.size < w1.heap.size := by have := hb1.size; simp at this; omega
    have hbox : w1.heap[w.heap.size]? = some (.cells #[.int .i64 p, .int .i64 b, .int .i64 a, .int .i64 l] 24 (0, 0)) := (hb1.block _ (by simp)).trans (heap_alloc_new _ _)
    have c1 : w1.cell? ⟨w.heap.size, 1, none⟩ = some (.int .i64 b) := by rw [cell_of_row w1 _ 1 _ _ _ hbox]; rfl
    have HB : Kp (Below w.heap.size w w1) := ⟨((Below.refl _ w).alloc (Nat.le_refl _) _).trans (hb1.mono (by simp))⟩
    have Hbox := Kp.mk hbox
    have hl1 : LR w1 w.heap.size A rs := hl.below HB.out
    clear hb1 hbox hl
    go_wp2_with fail
    obtain ⟨g, hg⟩ : ∃ g, g = w1.heap.size := ⟨_, rfl⟩
    obtain ⟨w0, hw0⟩ : ∃ w0, w0 = w1.alloc (Obj.cells #[Value.int IntKind.i64 b] 3) := ⟨_, rfl⟩
    go_loopw [7] (fun n wr => ∃ (k : Nat) (L : Int), n = .int .i64 k ∧ k ≤ rs.length ∧ 0 ≤ L ∧ L ≤ 8192 ∧ wr.heap[w1.heap.size]? = some (.cells #[.int .i64 L] 3 (0, 0)) ∧
        Below w1.heap.size w1 wr ∧ Kp (fitN p b 0 (rs.map (·.body.size)) = fitN p L k ((rs.drop k).map (·.body.size)))) (fun n wr => rs.length - (intOf n).toNat)
    case atStart => exact ⟨0, b, rfl, Nat.zero_le _, by omega, o4, heap_alloc_new _ _, (Below.refl _ _).alloc (Nat.le_refl _) _, ⟨by simp⟩⟩
    case round =>
      clear c1
      obtain ⟨k, L, rfl, hk, hL0, hL1, hblk, hbw, HF⟩ := hrel
      have hboxr : wr.heap[w.heap.size]? = some (.cells #[.int .i64 p, .int .i64 b, .int .i64 a, .int .i64 l] 24 (0, 0)) := (hbw.block _ hz1).trans Hbox.out
      have cp : wr.cell? ⟨w.heap.size, 0, none⟩ = some (.int .i64 p) := by rw [cell_of_row wr _ 0 _ _ _ hboxr]; rfl
      have hlr : LR wr w.heap.size A rs := hl1.below (hbw.mono (by omega))
      clear hboxr
      have Hblk := Kp.mk hblk
      clear hblk
      by_cases hlt : k < rs.length
      · obtain ⟨r, hr⟩ : ∃ r, rs[k]? = some r := ⟨_, List.getElem?_eq_getElem hlt⟩
        obtain ⟨bk, of, rfl, hadb, _, _, _, cbody, hbody, _⟩ := hlr.get hr
        have hdrop : (rs.drop k).map (·.body.size) = r.body.size :: (rs.drop (k + 1)).map (·.body.size) := by
          rw [List.drop_eq_getElem_cons hlt]
          have : rs[k] = r := by rw [List.getElem?_eq_getElem hlt] at hr; exact Option.some.inj hr
          simp [this]
        have HF2 : Kp (fitN p L k ((rs.drop k).map (·.body.size)) = if (k : Int) < p ∧ ((r.body.size : Int) ≤ L ∨ k = 0) then fitN p (L - min L r.body.size) (k + 1) ((rs.drop (k + 1)).map (·.body.size)) else k) := ⟨by rw [hdrop, fitN]⟩
        have Hr := Kp.mk hr
        clear hdrop hr
        by_cases hp : (k : Int) < p
        · have hp' : decide ((k : Int) < p) = true := by simpa using hp
          have hlt' : decide (k < rs.length) = true := by simpa using hlt
          by_cases hs : (r.body.size : Int) ≤ L
          · have hs' : decide ((r.body.size : Int) ≤ L) = true := by simpa using hs
            go_wp2_with (go_at_call 18; refine (room_any r.body _ L _ hbody hL0 hL1 Hblk.out).mono ?_; rintro e w' ⟨rfl, rfl⟩)
            go_roundw
            case measure => simp [intOf]; omega
            case rel => exact ⟨k + 1, L - min L r.body.size, by go_num, by omega, by omega, by omega, one_setCell Hblk.out, hbw.setCell (Nat.le_refl _) _, ⟨by rw [HF.out, HF2.out, if_pos ⟨hp, .inl hs⟩]⟩⟩
          · have hs' : decide ((r.body.size : Int) ≤ L) = false := by simpa using hs
            by_cases hk0 : k = 0
            · have hk0' : ((k : Int) == 0) = true := by simpa using hk0
              have Hk0 := Kp.mk hk0
              clear hk0
              go_wp2_with (go_at_call 18; refine (room_any r.body _ L _ hbody hL0 hL1 Hblk.out).mono ?_; rintro e w' ⟨rfl, rfl⟩)
              go_roundw
              case measure => simp [intOf]; omega
              case rel => exact ⟨k + 1, L - min L r.body.size, by go_num, by omega, by omega, by omega, one_setCell Hblk.out, hbw.setCell (Nat.le_refl _) _, ⟨by rw [HF.out, HF2.out, if_pos ⟨hp, .inr Hk0.out⟩]⟩⟩
            · have hk0' : ((k : Int) == 0) = false := by simpa using hk0
              have HN : Kp (fitN p b 0 (rs.map (·.body.size)) = k) := ⟨by rw [HF.out, HF2.out, if_neg (fun h => h.2.elim hs hk0)]⟩
              go_wp2_with (go_at_call 18; refine (room_any r.body _ L _ hbody hL0 hL1 Hblk.out).mono ?_; rintro e w' ⟨rfl, rfl⟩)
              go_ret
              exact ⟨by rw [fitsR, if_pos HO.out, HN.out]; rfl, (HB.out.trans (hbw.mono (by omega))).setCell (by dsimp only; omega) _⟩
        · have hp' : decide ((k : Int) < p) = false := by simpa using hp
          have hlt' : decide (k < rs.length) = true := by simpa using hlt
          have HN : Kp (fitN p b 0 (rs.map (·.body.size)) = k) := ⟨by rw [HF.out, HF2.out, if_neg (fun h => hp h.1)]⟩
          go_wp2
          go_ret
          exact ⟨by rw [fitsR, if_pos HO.out, HN.out]; rfl, HB.out.trans (hbw.mono (by omega))⟩
      · have hlt' : decide (k < rs.length) = false := by simpa using hlt
        have HN : Kp (fitN p b 0 (rs.map (·.body.size)) = k) := ⟨by rw [HF.out, List.drop_of_length_le (by omega)]; rfl⟩
        go_wp2
        go_ret
        exact ⟨by rw [fitsR, if_pos HO.out, HN.out]; rfl, HB.out.trans (hbw.mono (by omega))⟩
  · have hchk : r.chk = 2 := by unfold Ru.chk; rw [if_neg hok]
    have hz : fitsR rs r = 0 := by rw [fitsR, if_neg hok]
    rw [hz]
    obtain ⟨p, b, a, l⟩ := r
    unfold Ru.val
    dsimp only
    go_enter Try.func11, Try.ntmps11
    go_wp2_with fail
    refine (check_any ⟨p, b, a, l⟩ _).mono ?_
    rintro e w1 ⟨rfl, hb1⟩
    rw [hchk]
    have HB : Kp (Below w.heap.size w w1) := ⟨((Below.refl _ w).alloc (Nat.le_refl _) _).trans (hb1.mono (by simp))⟩
    clear hb1
    go_wp2_with fail
    go_ret
    exact ⟨rfl, HB.out⟩

end Go.Proofs.Ytenfijjlggiklaa.CutP
