/-
  window.Pack.
-/
import Derived.Test.YthahflokacgjjaaN
import Derived.Test.YthahflokacgjjaaS
import Derived.Test.YthahflokacgjjaaT
import Derived.Test.YthahflokacgjjaaK
import Derived.Laws.RangeString
namespace Go.Proofs.Ythahflokacgjjaa.WinP
open Go.RowKit Go.WinLaws Go.Maps Go.Proofs.Ythahflokacgjjaa.Pl
set_option linter.unusedVariables false

def zsOf (L : List UInt8) (a : Nat) : List UInt8 → List Int := fun k => (stand L a k).map Int.ofNat
theorem noted_zs (L : List UInt8) (a : Nat) : noted L a (zsOf L a) = zsOf L (a + 1) := by
  unfold noted
  funext k
  by_cases h : a + 4 ≤ L.length
  · rw [if_pos h]
    unfold zsOf
    rw [stand_step]
    by_cases hk : k = (L.drop a).take 4
    · rw [if_pos hk, if_pos ⟨h, hk⟩, List.map_append]; rfl
    · rw [if_neg hk, if_neg (fun hh => hk hh.2)]
  · rw [if_neg h]
    unfold zsOf
    rw [stand_step, if_neg (fun hh => h hh.1)]
theorem zs_zero (L : List UInt8) : zsOf L 0 = fun _ => [] := rfl

theorem own_block {w w' : World} {base : Nat} {v : Value} {xs : List UInt8} (h : Own w base v xs) (hs : w.heap.size ≤ w'.heap.size) (hb : ∀ g, v.ownBlock = some g → w'.heap[g]? = w.heap[g]?) : Own w' base v xs := by
  rcases h with h | ⟨g, c, hv, hbg, hg, h1, h2, h3, h4⟩
  · exact .inl h
  · have e := hb g (by rw [hv]; rfl)
    refine .inr ⟨g, c, hv, hbg, Nat.lt_of_lt_of_le hg hs, h1, h2, fun j hj => ?_, fun j x hx => ?_⟩
    · rw [World.cell?_of_block (a := ⟨g, j, none⟩) e, World.frozen?_of_block (a := ⟨g, j, none⟩) e]
      exact h3 j hj
    · rw [World.cell?_of_block (a := ⟨g, j, none⟩) e]
      exact h4 j x hx
theorem row_block {w w' : World} {base n : Nat} {v : Value} {xs : List Value} (h : w.ownsRow base 3 1 v n xs) (hb : ∀ g, v.ownBlock = some g → w'.heap[g]? = w.heap[g]?) : w'.ownsRow base 3 1 v n xs := by
  refine ⟨h.1, ?_⟩
  rcases h.2 with hn | ⟨g, cap, cur, hv, hg, hgg, r⟩
  · exact .inl hn
  · exact .inr ⟨g, cap, cur, hv, hg, by rw [hb g (by rw [hv]; rfl)]; exact hgg, r⟩

/-- all that Pack has made, as it lies -/
structure Pi (w : World) (B c : Nat) (s : ByteArray) (a f : Nat) (xs : List UInt8) (n : Nat) (hd : List UInt8 → Value) (v : Value) : Prop where
  mp : Mp w B s n hd (zsOf s.data.toList a)
  ot : Ot w B c s f v xs
  bc : B + 3 ≤ c
  na : n ≤ a
  so : ∀ k, (hd k).ownBlock = none ∨ (hd k).ownBlock ≠ v.ownBlock
  sc : ∀ k, (hd k).ownBlock ≠ some c ∧ (hd k).ownBlock ≠ some (c + 1)

theorem Pi.noted {w w' : World} {B c : Nat} {s : ByteArray} {a f : Nat} {xs : List UInt8} {n : Nat} {hd hd' : List UInt8 → Value} {v : Value} (h : Pi w B c s a f xs n hd v) (hM : Mp w' B s (n + 1) hd' (noted s.data.toList a (zsOf s.data.toList a))) (hN : Nt w w' (B + 1) hd hd') :
    Pi w' B c s (a + 1) f xs (n + 1) hd' v := by
  rw [noted_zs] at hM
  have hbc := h.bc
  have hz := h.ot.size
  have hvl := own_lt h.ot.own
  refine ⟨hM, ⟨h.ot.bc, hM.k0, ?_, ?_, own_block h.ot.own hN.size (fun g e => ?_)⟩, hbc, by have := h.na; omega, fun k => ?_, fun k => ?_⟩
  · exact (hN.block c (by omega) (by omega) (fun k => (h.sc k).1)).trans h.ot.r1
  · exact (hN.block (c + 1) (by omega) (by omega) (fun k => (h.sc k).2)).trans h.ot.r2
  · have := hvl g e
    refine hN.block g (by omega) (by omega) (fun k e2 => ?_)
    rcases h.so k with h1 | h1
    · rw [h1] at e2; cases e2
    · exact h1 (e2.trans e.symm)
  · rcases hN.loc k with h1 | ⟨g, h1, h2⟩
    · rw [h1]; exact h.so k
    · refine .inr (fun e => ?_)
      have := (hvl g (e.symm.trans h1)).2
      omega
  · rcases hN.loc k with h1 | ⟨g, h1, h2⟩
    · rw [h1]; exact h.sc k
    · rw [h1]
      exact ⟨fun e => by cases e; omega, fun e => by cases e; omega⟩

theorem Pi.wrote {w w' : World} {B c : Nat} {s : ByteArray} {a f f' : Nat} {xs xs' : List UInt8} {n : Nat} {hd : List UInt8 → Value} {v v' : Value} (h : Pi w B c s a f xs n hd v) (hO : Ot w' B c s f' v' xs') (hS : Sr w w' c v v') :
    Pi w' B c s a f' xs' n hd v' := by
  have hbc := h.bc
  have hz := h.ot.size
  have hvl := own_lt h.ot.own
  have far : ∀ k g, (hd k).ownBlock = some g → w'.heap[g]? = w.heap[g]? := fun k g e => by
    have hg := (h.mp.g.own k).lt g e
    refine hS.block g hg.2 (fun e2 => (h.sc k).1 (by rw [e, e2])) (fun e2 => (h.sc k).2 (by rw [e, e2])) (fun e2 => ?_)
    rcases h.so k with h1 | h1
    · rw [h1] at e; cases e
    · exact h1 (e.trans e2.symm)
  refine ⟨⟨hO.r0, ?_, ⟨h.mp.g.st.of_block ?_, fun k => row_block (h.mp.g.own k) (far k), h.mp.g.sep, h.mp.g.len⟩⟩, hO, hbc, h.na, fun k => ?_, h.sc⟩
  · exact (hS.block (B + 2) (by omega) (by omega) (by omega) (fun e => by have := hvl _ e; omega)).trans h.mp.k2
  · exact hS.block (B + 1) (by omega) (by omega) (by omega) (fun e => by have := hvl _ e; omega)
  · rcases hS.loc with h1 | ⟨g, h1, h2⟩
    · rw [h1]; exact h.so k
    · cases hk : (hd k).ownBlock with
      | none => exact .inl rfl
      | some x =>
        refine .inr (fun e => ?_)
        have := ((h.mp.g.own k).lt x hk).2
        rw [h1] at e
        cases e
        omega

theorem run_next_at (w : World) (it : Nat) (s : ByteArray) (pos : Nat) (ty : TypeId) (hi : w.heap[it]? = some (.stringIter s pos)) (h : pos < s.size) (ha : (s[pos]'h).toNat < 128) :
    (Instr.next (.pointer (some ⟨it, 0, none⟩)) true ty).run Try.prog w = .ok (.tuple #[.bool true, .int .i64 pos, .int .i32 (s[pos]'h).toNat]) (ChangeMaps.setBlock w it (.stringIter s (pos + 1))) := by
  have hlt := lt_of_block hi
  simp only [Instr.next, getObj, setObj, Sem.run_bind, Sem.run, hi, Result.andThen, h, if_true, decode_ascii s pos h ha]
  simp [goInt, ChangeMaps.setBlock]
theorem run_next_off (w : World) (it : Nat) (s : ByteArray) (pos : Nat) (ty : TypeId) (hi : w.heap[it]? = some (.stringIter s pos)) (h : ¬ pos < s.size) :
    (Instr.next (.pointer (some ⟨it, 0, none⟩)) true ty).run Try.prog w = .ok (.tuple #[.bool false]) w := by
  simp [Instr.next, getObj, Sem.run, hi, h]

namespace Pi
variable {w w' : World} {B c : Nat} {s : ByteArray} {a f : Nat} {xs : List UInt8} {n : Nat} {hd : List UInt8 → Value} {v : Value}
theorem k0 (h : Pi w B c s a f xs n hd v) : w.cell? ⟨B, 0, none⟩ = some (.string s) := h.mp.c0
theorem k2 (h : Pi w B c s a f xs n hd v) : w.cell? ⟨B + 1 + 1, 0, none⟩ = some (.map (some (B + 1))) := h.mp.c2
theorem o1 (h : Pi w B c s a f xs n hd v) : w.cell? ⟨c, 0, none⟩ = some v := h.ot.c1
theorem o2 (h : Pi w B c s a f xs n hd v) : w.cell? ⟨c + 1, 0, none⟩ = some (.int .i64 f) := h.ot.c2
theorem q1 (h : Pi w B c s a f xs n hd v) : w.frozen? ⟨c, 0, none⟩ = false := h.ot.f1
theorem q2 (h : Pi w B c s a f xs n hd v) : w.frozen? ⟨c + 1, 0, none⟩ = false := h.ot.f2
theorem size (h : Pi w B c s a f xs n hd v) : c + 2 ≤ w.heap.size := h.ot.size
theorem drewN (h : Pi w B c s a f xs n hd v) (q : Nat) : Pi (w.drewN q) B c s a f xs n hd v :=
  h.wrote ⟨h.ot.bc, h.ot.r0, h.ot.r1, h.ot.r2, own_block h.ot.own (Nat.le_refl _) (fun _ _ => rfl)⟩ ⟨rfl, rfl, rfl, Nat.le_refl _, fun _ _ _ _ _ => rfl, .inl rfl⟩
end Pi

theorem Sr.belowB {w w' : World} {B c : Nat} {s : ByteArray} {f : Nat} {v v' : Value} {xs : List UInt8} (h : Sr w w' c v v') (o : Ot w B c s f v xs) : Below B w w' :=
  h.below (by have := o.bc; omega) (fun g e => by have := own_lt o.own g e; have := o.bc; omega) (by have := o.size; have := o.bc; omega)
theorem Nt.belowB {w w' : World} {B n : Nat} {s : ByteArray} {hd hd' : List UInt8 → Value} {zs : List UInt8 → List Int} (h : Nt w w' (B + 1) hd hd') (m : Mp w B s n hd zs) : Below B w w' :=
  h.below (by omega) (fun k g e => by have := ((m.g.own k).lt g e).1; omega) (by have := m.size; omega)

/-- what is left of a text -/
def itLeft : Option Obj → Nat
  | some (.stringIter _ p) => 69 - p
  | _ => 0

theorem grown_set (w : World) (it : Nat) (o : Obj) : w.grownBy (ChangeMaps.setBlock w it o) (some it) :=
  ⟨rfl, rfl, rfl, by simp [ChangeMaps.setBlock], fun k hk hne => by
    simp only [ChangeMaps.setBlock]
    rw [Array.getElem?_setIfInBounds_ne (fun e => hne (by rw [e]))]⟩
theorem set_at (w : World) (it : Nat) (o : Obj) (h : it < w.heap.size) : (ChangeMaps.setBlock w it o).heap[it]? = some o := by
  simp [ChangeMaps.setBlock, h]

theorem mp_start (w : World) (k x : ByteArray) : Mp ((((w.alloc (.cells #[.string k] 9)).alloc (.map #[] 0)).alloc (.cells #[.map (some (w.heap.size + 1))] 30)).iter x 0) w.heap.size k 0 (fun _ => .slice none 0 0) (zsOf k.data.toList 0) := by
  have e1 : (w.alloc (.cells #[.string k] 9)).heap.size = w.heap.size + 1 := by simp
  have e2 : ((w.alloc (.cells #[.string k] 9)).alloc (.map #[] 0)).heap.size = w.heap.size + 2 := by simp
  have e3 : (((w.alloc (.cells #[.string k] 9)).alloc (.map #[] 0)).alloc (.cells #[.map (some (w.heap.size + 1))] 30)).heap.size = w.heap.size + 3 := by simp
  refine ⟨?_, ?_, ⟨?_, fun k => ⟨rfl, .inl ⟨rfl, rfl⟩⟩, fun k k' _ => .inl rfl, fun k => Nat.le_refl _⟩⟩
  · unfold World.iter
    rw [Below.heap_alloc _ _ _ (by omega), Below.heap_alloc _ _ _ (by omega), Below.heap_alloc _ _ _ (by omega)]
    exact heap_alloc_new w _
  · unfold World.iter
    rw [Below.heap_alloc _ _ _ (by omega)]
    have := heap_alloc_new ((w.alloc (.cells #[.string k] 9)).alloc (.map #[] 0)) (.cells #[.map (some (w.heap.size + 1))] 30)
    rw [e2] at this
    exact this
  · have h := Stood.made (w.alloc (.cells #[.string k] 9))
    rw [e1] at h
    refine h.of_block ?_
    unfold World.iter
    rw [Below.heap_alloc _ _ _ (by omega), Below.heap_alloc _ _ _ (by omega)]

theorem it_start (w : World) (x : ByteArray) (o1 o2 o3 : Obj) : ((((w.alloc o1).alloc o2).alloc o3).iter x 0).heap[w.heap.size + 3]? = some (.stringIter x 0) := by
  have := heap_alloc_new (((w.alloc o1).alloc o2).alloc o3) (.stringIter x 0)
  have e : (((w.alloc o1).alloc o2).alloc o3).heap.size = w.heap.size + 3 := by simp
  rw [e] at this
  exact this

theorem below_start (w : World) (x : ByteArray) (o1 o2 o3 : Obj) : Below w.heap.size w ((((w.alloc o1).alloc o2).alloc o3).iter x 0) :=
  ((((Below.refl _ w).alloc (Nat.le_refl _) _).alloc (by simp) _).alloc (by simp <;> omega) _).alloc (by simp <;> omega) _

theorem pi_start {w : World} {B n : Nat} {s : ByteArray} {hd : List UInt8 → Value} (h : Mp w B s n hd (zsOf s.data.toList 68)) (hn : n ≤ 68) :
    Pi ((w.alloc (.cells #[.slice none 0 0] 33)).alloc (.cells #[.int .i64 68] 3)) B w.heap.size s 68 68 [] n hd (.slice none 0 0) := by
  have hz := h.size
  have e1 : (w.alloc (.cells #[.slice none 0 0] 33)).heap.size = w.heap.size + 1 := by simp
  refine ⟨(h.alloc _).alloc _, ⟨by omega, ((h.alloc _).alloc _).k0, ?_, ?_, nil_owns _ _⟩, hz, hn, fun k => ?_, fun k => ⟨fun e => ?_, fun e => ?_⟩⟩
  · rw [Below.heap_alloc _ _ _ (by omega)]
    exact heap_alloc_new w _
  · have := heap_alloc_new (w.alloc (.cells #[.slice none 0 0] 33)) (.cells #[.int .i64 68] 3)
    rw [e1] at this
    exact this
  · cases hk : (hd k).ownBlock with
    | none => exact .inl rfl
    | some x => exact .inr (fun e => by cases e)
  · have := ((h.g.own k).lt _ e).2; omega
  · have := ((h.g.own k).lt _ e).2; omega

theorem stat_ascii : ∀ p, p < 68 → (at_ stat p).toNat < 128 := by decide

theorem belowN {B : Nat} {a w : World} (h : Below B a w) (n : Nat) : Below B a (w.drewN n) := h.trans ⟨rfl, rfl, rfl, Nat.le_refl _, fun _ _ => rfl⟩

theorem Sr.of_alloc (w : World) (c : Nat) (v : Value) (o : Obj) : Sr w (w.alloc o) c v v := ⟨rfl, rfl, rfl, by simp, fun i hi _ _ _ => heap_alloc_old w o hi, .inl rfl⟩

theorem three_cells (x y : Nat) (hx : x ≤ 130) (hy1 : 1 ≤ y) (hy : y ≤ 32768) : bcells (three (x, y)) = [.int .u8 ((x : Int) + 124), .int .u8 (((y : Int) - 1) / 256), .int .u8 (((y : Int) - 1) % 256)] := by
  have e1 : ((UInt8.ofNat (x + 124)).toNat : Int) = (x : Int) + 124 := by rw [UInt8.toNat_ofNat']; omega
  have e2 : ((UInt8.ofNat ((y - 1) / 256)).toNat : Int) = ((y : Int) - 1) / 256 := by rw [UInt8.toNat_ofNat']; omega
  have e3 : ((UInt8.ofNat ((y - 1) % 256)).toNat : Int) = ((y : Int) - 1) % 256 := by rw [UInt8.toNat_ofNat']; omega
  simp only [three, bcells, List.map_cons, List.map_nil, e1, e2, e3]

theorem stat_ascii2 (p : Nat) (h : p < (strOf stat).size) : ((strOf stat)[p]).toNat < 128 := by
  rw [byte_at _ _ h]
  exact stat_ascii p h

set_option maxRecDepth 100000 in
set_option maxHeartbeats 8000000 in
theorem pack_any (s : ByteArray) (w : World) (hs : s.size ≤ 1000000) :
    Calls Try.prog 10 #[.string s] w fun e w' => e = .returned (.string (strOf (pack s.data.toList))) ∧ Below w.heap.size w w' := by
  obtain ⟨kn, hkn⟩ : ∃ kn, strOf stat ++ s = kn := ⟨_, rfl⟩
  have hL : kn.data.toList = stat ++ s.data.toList := by rw [← hkn, ByteArray.data_append, Array.toList_append]; rfl
  have hsz : kn.size = 68 + s.size := by
    have e : kn.data.toList.length = kn.size := by rw [Array.length_toList]; rfl
    rw [← e, hL, List.length_append, Array.length_toList]; rfl
  have Hl : Kp (kn.data.toList.length = kn.size) := ⟨by rw [Array.length_toList]; rfl⟩
  have Hs : Kp (∀ S : ByteArray, S = strOf stat → Mp ((((w.alloc (.cells #[.string (S ++ s)] 9)).alloc (.map #[] 0)).alloc (.cells #[.map (some (w.heap.size + 1))] 30)).iter S 0) w.heap.size kn 0 (fun _ => .slice none 0 0) (zsOf kn.data.toList 0) ∧
      ((((w.alloc (.cells #[.string (S ++ s)] 9)).alloc (.map #[] 0)).alloc (.cells #[.map (some (w.heap.size + 1))] 30)).iter S 0).heap[w.heap.size + 3]? = some (.stringIter (strOf stat) 0)) := ⟨by
    rintro S rfl
    rw [hkn]
    exact ⟨mp_start w kn _, it_start w _ _ _ _⟩⟩
  have Hstart : Kp (At kn.data.toList 68 68 [] (pack s.data.toList)) := ⟨by rw [hL]; exact At.start _⟩
  obtain ⟨R, hR⟩ : ∃ R, pack s.data.toList = R := ⟨_, rfl⟩
  rw [hR] at Hstart
  obtain ⟨RS, hRS⟩ : ∃ RS, strOf R = RS := ⟨_, rfl⟩
  have HRS := Kp.mk hRS
  rw [hR, hRS]
  have hk1 : kn.size ≤ 1000068 := by omega
  have hk68 : 68 ≤ kn.size := by omega
  clear hkn hL hsz hR hRS
  have hmm := @run_makeMap Try.prog
  go_enter Try.func10, Try.ntmps10
  go_wp2_with fail
  clear hmm
  go_loopw [6] (fun v6 wr => ∃ (pos n : Nat) (hd : List UInt8 → Value), pos ≤ 68 ∧ n ≤ pos ∧ Mp wr w.heap.size kn n hd (zsOf kn.data.toList pos) ∧ wr.heap[w.heap.size + 3]? = some (.stringIter (strOf stat) pos) ∧ (∀ k, (hd k).ownBlock ≠ some (w.heap.size + 3)) ∧ Below w.heap.size w wr) (fun _ wr => itLeft wr.heap[w.heap.size + 3]?)
  case atStart => exact ⟨0, 0, _, Nat.zero_le _, Nat.le_refl _, (Hs.out _ rfl).1, (Hs.out _ rfl).2, fun k e => (by cases e), below_start _ _ _ _ _⟩
  case round =>
    obtain ⟨pos, n, hd, hpos, hn, hM, hit, hno, hbl⟩ := hrel
    have HM := Kp.mk hM
    have Hit := Kp.mk hit
    have Hbl := Kp.mk hbl
    have hsz := hM.size
    have hilt := lt_of_block hit
    by_cases hlt : pos < 68
    · have hnx := fun ty => run_next_at wr (w.heap.size + 3) (strOf stat) pos ty hit (by exact hlt) (stat_ascii2 pos (by exact hlt))
      obtain ⟨z, hz⟩ : ∃ z, (((strOf stat)[pos]'(by exact hlt)).toNat : Int) = z := ⟨_, rfl⟩
      rw [hz] at hnx
      clear hz
      have hg := grown_set wr (w.heap.size + 3) (.stringIter (strOf stat) (pos + 1))
      have hM2 := HM.out.kept hg (fun i e => by cases e; omega) (fun k => .inr (hno k))
      have hs2 := set_at wr (w.heap.size + 3) (.stringIter (strOf stat) (pos + 1)) hilt
      have hb2 : Below w.heap.size w (ChangeMaps.setBlock wr (w.heap.size + 3) (.stringIter (strOf stat) (pos + 1))) := hbl.trans ⟨hg.os, hg.tape, hg.output, hg.size, fun k hk => hg.block k (by omega) (fun e => by cases e; omega)⟩
      obtain ⟨w1, hw1⟩ : ∃ w1, ChangeMaps.setBlock wr (w.heap.size + 3) (.stringIter (strOf stat) (pos + 1)) = w1 := ⟨_, rfl⟩
      rw [hw1] at hM2 hs2 hb2
      simp only [hw1] at hnx
      have HM2 := Kp.mk hM2
      have Hs2 := Kp.mk hs2
      have Hb2 := Kp.mk hb2
      have hsz2 := lt_of_block hs2
      have hn2 : Kp (∀ i, (if i = 0 then 0 else 0) = 0) := ⟨by simp⟩
      have Hcall := Kp.mk (note_any w.heap.size kn n hd (zsOf kn.data.toList pos) pos w1 hM2 (by omega) (by omega) (by omega))
      clear hM hit hbl hg hM2 hs2 hb2 hw1
      have hnx2 : ∀ ty, (Instr.next (.pointer (some ⟨w.heap.size + 1 + 1 + 1, 0, none⟩)) true ty).run Try.prog wr = .ok (.tuple #[.bool true, .int .i64 pos, .int .i32 z]) w1 := hnx
      clear hnx
      go_wp2_with (go_at_call 15; refine (Hcall.out).mono ?_; rintro e w2 ⟨rfl, hd', hM3, hN3⟩; have HM3 := Kp.mk hM3; have HN3 := Kp.mk hN3; clear hM3 hN3)
      go_roundw
      case measure =>
        have hb3 : w2.heap[w.heap.size + 3]? = some (.stringIter (strOf stat) (pos + 1)) := (HN3.out.block _ hsz2 (by omega) hno).trans Hs2.out
        rw [hb3, Hit.out]
        simp [itLeft]
        omega
      case rel =>
        have hb3 : w2.heap[w.heap.size + 3]? = some (.stringIter (strOf stat) (pos + 1)) := (HN3.out.block _ hsz2 (by omega) hno).trans Hs2.out
        refine ⟨pos + 1, n + 1, hd', by omega, by omega, by rw [← noted_zs]; exact HM3.out, hb3, fun k e => ?_, Hb2.out.trans (HN3.out.belowB HM2.out)⟩
        rcases HN3.out.loc k with h1 | ⟨g, h1, h2⟩
        · exact hno k (h1.symm.trans e)
        · rw [h1] at e; cases e; omega
    · obtain rfl : pos = 68 := by omega
      have hnx := fun ty => run_next_off wr (w.heap.size + 3) (strOf stat) 68 ty hit (by rw [strOf_size]; exact hlt)
      have hnx2 : ∀ ty, (Instr.next (.pointer (some ⟨w.heap.size + 1 + 1 + 1, 0, none⟩)) true ty).run Try.prog wr = .ok (.tuple #[.bool false]) wr := hnx
      clear hnx
      have HP := Kp.mk (pi_start hM (by omega))
      obtain ⟨w0, rfl⟩ : ∃ w0, w0 = wr := ⟨wr, rfl⟩
      have Hb0 : Kp (Below w.heap.size w ((w0.alloc (.cells #[.slice none 0 0] 33)).alloc (.cells #[.int .i64 68] 3))) := ⟨(hbl.alloc (by omega) _).alloc (by simp; omega) _⟩
      clear hM hit hbl
      go_wp2_with fail
      go_loopw [10] (fun v10 wr => ∃ (a f n : Nat) (hd : List UInt8 → Value) (v : Value) (xs : List UInt8), v10 = .int .i64 a ∧ Pi wr w.heap.size w0.heap.size kn a f xs n hd v ∧ Below w.heap.size w wr ∧ Kp (At kn.data.toList f a xs R)) (fun v10 _ => kn.size - (intOf v10).toNat)
      case atStart => exact ⟨68, 68, n, hd, _, [], rfl, HP.out, Hb0.out, Hstart⟩
      case round =>
        clear HP Hb0 hnx2 Hbl HM Hit hno hn
        obtain ⟨a, f, n, hd, v, xs, rfl, hP, hbl, HA⟩ := hrel
        have k0 := hP.k0
        have k2 := hP.k2
        have hfa := HA.out.fa
        have hal := HA.out.al
        rw [Hl.out] at hal
        have haf := HA.out.lt
        have hxl := HA.out.len
        have hna := hP.na
        have HPw := Kp.mk hP
        have Hbw := Kp.mk hbl
        clear hP hbl
        by_cases hlt : a < kn.size
        · have hlt' : decide (a < kn.size) = true := by simpa using hlt
          have w4 : IntKind.i64.wrap ((a : Int) + 4) = (a : Int) + 4 := IntWalk.i64_in _ (by omega)
          by_cases h4 : a + 4 ≤ kn.size
          · have h4' : decide ((a : Int) + 4 ≤ kn.size) = true := by simp; omega
            have g0 : (0 : Int) ≤ a := by omega
            have g1 : (a : Int) ≤ (a : Int) + 4 := by omega
            have g2 : (a : Int) + 4 ≤ kn.size := by omega
            have g3 : ((a : Int) + 4).toNat = a + 4 := by omega
            have Hcut : Kp ((kn.extract a (a + 4)).data.toList = (kn.data.toList.drop a).take 4) := ⟨by rw [cut_bytes, show a + 4 - a = 4 by omega]⟩
            obtain ⟨v0, hv0⟩ : ∃ v0, hd (kn.extract a (a + 4)).data.toList = v0 := ⟨_, rfl⟩
            have lk : ∀ q : Nat, (Instr.lookup 30 (.map (some (w.heap.size + 1))) (.string (kn.extract a (a + 4))) false).run Try.prog (wr.drewN q) = .ok v0 (wr.drewN q) := fun q => by
              have := (HPw.out.drewN q).mp.g.st.lookup (kn.extract a (a + 4)) (by rw [ByteArray.size_extract]; unfold maxLen; omega)
              rw [hv0] at this
              exact this
            obtain ⟨q, hq⟩ : ∃ q, lon kn.data.toList a (stand kn.data.toList a ((kn.data.toList.drop a).take 4)) = q := ⟨_, rfl⟩
            have Hlon : Kp (∀ r : Nat, Calls Try.prog 17 #[.string kn, .int .i64 a, v0] (wr.drewN r) fun e w' => e = .returned (.tuple #[.int .i64 q.1, .int .i64 q.2]) ∧ ∃ m, w' = (wr.drewN r).drewN m) := ⟨fun r => by
              have ho := (HPw.out.drewN r).mp.g.own (kn.extract a (a + 4)).data.toList
              rw [hv0, Hcut.out] at ho
              have := longest_any kn a (stand kn.data.toList a ((kn.data.toList.drop a).take 4)) v0 (w.heap.size + 3) (wr.drewN r) (by simpa [zsOf] using ho) (stand_ups _ _ _) hal (by omega)
              rw [hq] at this
              exact this⟩
            have Hbest := lon_best (L := kn.data.toList) (a := a) (by rw [Hl.out]; exact h4)
            rw [hq] at Hbest
            have HBest := Kp.mk Hbest
            clear hq hv0 Hbest
            go_wp2_with fail
            go_quiet ((go_at_call 17; refine Calls.quiet_of (Hlon.out _)))
            have hP2 := HPw.out.drewN nq
            have hb2 := belowN Hbw.out nq
            generalize wr.drewN nq = W at hP2 hb2 ⊢
            have HP2 := Kp.mk hP2
            have Hb2 := Kp.mk hb2
            clear hP2 hb2 lk
            by_cases hq4 : q.1 < 4
            · have hq4' : decide ((q.1 : Int) < 4) = true := by simp; omega
              have Hb : Kp ((best kn.data.toList a).1 < 4) := ⟨by
                rcases Nat.lt_or_ge (best kn.data.toList a).1 4 with h | h
                · exact h
                · rw [← HBest.out.1 h]; exact hq4⟩
              have w1a : IntKind.i64.wrap ((a : Int) + 1) = (a : Int) + 1 := IntWalk.i64_in _ (by omega)
              have w1f : IntKind.i64.wrap ((a : Int) + 1 - f) = (a : Int) + 1 - f := IntWalk.i64_in _ (by omega)
              have hsW := HP2.out.size
              have Hnote := Kp.mk (note_any w.heap.size kn n hd (zsOf kn.data.toList a) a W HP2.out.mp (by omega) (by omega) (by omega))
              have t0 := HP2.out.o2
              by_cases h128 : a + 1 - f = 128
              · have h128' : (((a : Int) + 1 - f) == 128) = true := by simp; omega
                have Hnext := Kp.mk (HA.out.full (by rw [Hl.out]; exact hlt) Hb.out h128)
                have Hcl : Kp (∀ (W' : World) (n' : Nat) (hd2 : List UInt8 → Value), Pi W' w.heap.size w0.heap.size kn (a + 1) f xs n' hd2 v → Calls Try.prog 16 #[.int .i64 ((a : Int) + 1), .pointer (some ⟨w0.heap.size + 1, 0, none⟩), .pointer (some ⟨w0.heap.size, 0, none⟩), .pointer (some ⟨w.heap.size, 0, none⟩)] W' fun e w' => e = .returned (.tuple #[]) ∧ ∃ v', Ot w' w.heap.size w0.heap.size kn f v' (xs ++ stretch kn.data.toList f (a + 1)) ∧ Sr W' w' w0.heap.size v v') := ⟨fun W' n' hd2 h =>
                  stretch_any w.heap.size w0.heap.size kn f (a + 1) v xs W' h.ot (by omega) (by omega) (by omega) (by omega) (by omega)⟩
                go_wp2_with (first | (go_at_call 15; refine (Hnote.out).mono ?_; rintro e w2 ⟨rfl, hd', hM3, hN3⟩; have hPn := HP2.out.noted hM3 hN3; have HPn := Kp.mk hPn; have Hbn := Kp.mk (Hb2.out.trans (hN3.belowB HP2.out.mp)); have e2 := hPn.o2; clear hM3 hN3 hPn) | (go_at_call 16; refine (Hcl.out _ _ _ HPn.out).mono ?_; rintro e w3 ⟨rfl, v', hO4, hS4⟩; have hP4 := HPn.out.wrote hO4 hS4; have HP4 := Kp.mk hP4; have Hb4 := Kp.mk (Hbn.out.trans (hS4.belowB HPn.out.ot)); have e4 := hP4.q2; have e5 := hP4.o2; clear hO4 hS4 hP4))
                go_roundw
                case measure => simp [intOf]; omega
                case rel =>
                  have hs5 := Sr.of_set w3 w0.heap.size (w0.heap.size + 1) (.inr rfl) v' (.int .i64 ((a + 1 : Nat) : Int))
                  exact ⟨a + 1, a + 1, n + 1, hd', v', _, by go_num, HP4.out.wrote (HP4.out.ot.setFrom (a + 1)) hs5, Hb4.out.trans (hs5.belowB HP4.out.ot), Hnext⟩
              · have h128' : (((a : Int) + 1 - f) == 128) = false := by simp; omega
                go_wp2_with (go_at_call 15; refine (Hnote.out).mono ?_; rintro e w2 ⟨rfl, hd', hM3, hN3⟩; have hPn := HP2.out.noted hM3 hN3; have HPn := Kp.mk hPn; have Hbn := Kp.mk (Hb2.out.trans (hN3.belowB HP2.out.mp)); have e2 := hPn.o2; clear hM3 hN3 hPn)
                go_roundw
                case measure => simp [intOf]; omega
                case rel => exact ⟨a + 1, f, n + 1, hd', v, xs, by go_num, HPn.out, Hbn.out, ⟨HA.out.on (by rw [Hl.out]; exact hlt) Hb.out h128⟩⟩
            · have hq4' : decide ((q.1 : Int) < 4) = false := by simp; omega
              have hbq : ¬ (best kn.data.toList a).1 < 4 := fun h => hq4 (HBest.out.2 h)
              have hqe : q = best kn.data.toList a := HBest.out.1 (by omega)
              have Hnext := Kp.mk (HA.out.match (by rw [Hl.out]; exact hlt) hbq)
              rw [← hqe] at Hnext
              have hroom := best_room kn.data.toList a (by rw [Hl.out]; exact hal)
              have hback := best_back (L := kn.data.toList) (a := a) (by omega)
              rw [← hqe, Hl.out] at hroom
              rw [← hqe] at hback
              have hy1 := hback.1
              have hy2 : q.2 ≤ 32768 := by have := hback.2.1; omega
              have hr1 := hroom.1
              have hr2 := hroom.2
              obtain ⟨x, y⟩ := q
              dsimp only at hq4 hq4' hy1 hy2 hr1 hr2 Hnext ⊢
              clear hback hroom hqe hbq
              have hsW := HP2.out.size
              have Hcl : Kp (Calls Try.prog 16 #[.int .i64 a, .pointer (some ⟨w0.heap.size + 1, 0, none⟩), .pointer (some ⟨w0.heap.size, 0, none⟩), .pointer (some ⟨w.heap.size, 0, none⟩)] W fun e w' => e = .returned (.tuple #[]) ∧ ∃ v', Ot w' w.heap.size w0.heap.size kn f v' (xs ++ stretch kn.data.toList f a) ∧ Sr W w' w0.heap.size v v') := ⟨
                stretch_any w.heap.size w0.heap.size kn f a v xs W HP2.out.ot (by omega) (by omega) (by omega) (by omega) (by omega)⟩
              have wx : IntKind.i64.wrap ((x : Int) + 124) = (x : Int) + 124 := IntWalk.i64_in _ (by omega)
              have wy : IntKind.i64.wrap ((y : Int) - 1) = (y : Int) - 1 := IntWalk.i64_in _ (by omega)
              obtain ⟨ys, hys⟩ : ∃ ys, xs ++ stretch kn.data.toList f a = ys := ⟨_, rfl⟩
              have hyl : ys.length ≤ xs.length + (a - f + 1) := by
                rw [← hys, List.length_append, stretch_len _ _ _ (by rw [Hl.out]; exact hal)]
                split <;> omega
              have hth := three_cells x y hr2 hy1 hy2
              obtain ⟨tz, htz⟩ : ∃ tz, three (x, y) = tz := ⟨_, rfl⟩
              have Htl : Kp (tz.length = 3) := ⟨by rw [← htz]; rfl⟩
              rw [htz] at hth Hnext
              rw [hys] at Hnext Hcl
              have Hth := Kp.mk hth
              have Hf5 : Kp (Fit (ys.length + tz.length)) := ⟨by rw [Htl.out]; unfold Fit; omega⟩
              clear hth htz hys
              go_wp2_with (first
                | (go_at_call 16; refine (Hcl.out).mono ?_; rintro e w3 ⟨rfl, v', hO4, hS4⟩; have hP4 := HP2.out.wrote hO4 hS4; have HP4 := Kp.mk hP4; have Hb4 := Kp.mk (Hb2.out.trans (hS4.belowB HP2.out.ot)); have e4 := hP4.q1; have e5 := hP4.o1; have hs3 := hP4.size; clear hO4 hS4 hP4)
                | (at_builtin; refine list_bytes rfl (.tmp 66) (.tmp 77) rfl (w0.heap.size + 2) v' ys rfl (own_kept HP4.out.ot.own ((Below.refl w3.heap.size w3).alloc (Nat.le_refl _) _) (Nat.le_refl _)) ⟨w3.heap.size, 0, none⟩ 3 3 tz rfl Htl.out (by rw [Hth.out]; exact World.news_of_block (cs := #[.int .u8 ((x : Int) + 124), .int .u8 (((y : Int) - 1) / 256), .int .u8 (((y : Int) - 1) % 256)]) (t := 5) (fr := (0, 0)) (heap_alloc_new w3 _)) Hf5.out (by simp; omega) ?_
                   intro A5 c5 w5 hk5 ho5 hL5
                   have hk6 : Below (w0.heap.size + 2) w3 w5 := ((Below.refl (w0.heap.size + 2) w3).alloc hs3 _).trans hk5
                   have e6 : w5.cell? ⟨w0.heap.size, 0, none⟩ = some v' := (hk6.cell (by dsimp only; omega)).trans e5
                   have e7 : w5.frozen? ⟨w0.heap.size, 0, none⟩ = false := (hk6.frozen (by dsimp only; omega)).trans e4
                   have Ho5 : Kp (Own w5 (w0.heap.size + 2) (.slice A5 (ys.length + tz.length) c5) (ys ++ tz)) := ⟨by rw [← List.length_append]; exact ho5⟩
                   have Hk6 := Kp.mk hk6
                   have HS5 : Kp (Sr w3 (w5.setCell ⟨w0.heap.size, 0, none⟩ (.slice A5 (ys.length + tz.length) c5)) w0.heap.size v' (.slice A5 (ys.length + tz.length) c5)) := ⟨((Sr.of_alloc w3 _ _ _).trans (Sr.of_lies hL5)).trans (Sr.of_set _ _ _ (.inl rfl) _ _)⟩
                   clear hk5 ho5 hL5 hk6))
              have hO6 := HP4.out.ot.setOut Hk6.out (.slice A5 (ys.length + tz.length) c5) (ys ++ tz) Ho5.out
              have HP6 := Kp.mk (HP4.out.wrote hO6 HS5.out)
              have Hb6 := Kp.mk (Hb4.out.trans (HS5.out.belowB HP4.out.ot))
              clear hO6
              generalize w5.setCell ⟨w0.heap.size, 0, none⟩ (.slice A5 (ys.length + tz.length) c5) = W6 at HP6 Hb6 ⊢
              go_loopw [10, 80] (fun v10 v80 wr => ∃ (i n' : Nat) (hd' : List UInt8 → Value), v80 = .int .i64 i ∧ v10 = .int .i64 (a + i : Nat) ∧ i ≤ x ∧ Kp (Pi wr w.heap.size w0.heap.size kn (a + i) f (ys ++ tz) n' hd' (.slice A5 (ys.length + tz.length) c5)) ∧ Kp (Below w.heap.size w wr)) (fun _ v80 _ => x - (intOf v80).toNat)
              case atStart => exact ⟨0, n, hd, rfl, rfl, Nat.zero_le _, HP6, Hb6⟩
              case round =>
                obtain ⟨i, n', hd', rfl, rfl, hi, HP7, Hb7⟩ := hrel
                have hna7 := HP7.out.na
                by_cases hix : i < x
                · have hix' : decide ((i : Int) < (x : Int)) = true := by simp; omega
                  have Hnote := Kp.mk (note_any w.heap.size kn n' hd' (zsOf kn.data.toList (a + i)) (a + i) wr HP7.out.mp (by omega) (by omega) (by omega))
                  have wi : IntKind.i64.wrap ((i : Int) + 1) = (i : Int) + 1 := IntWalk.i64_in _ (by omega)
                  have wj : IntKind.i64.wrap (((a + i : Nat) : Int) + 1) = ((a + i : Nat) : Int) + 1 := IntWalk.i64_in _ (by omega)
                  go_wp2_with (go_at_call 15; refine (Hnote.out).mono ?_; rintro e w8 ⟨rfl, hd8, hM8, hN8⟩; have HP8 := Kp.mk (HP7.out.noted hM8 hN8); have Hb8 := Kp.mk (Hb7.out.trans (hN8.belowB HP7.out.mp)); clear hM8 hN8)
                  go_roundw
                  case measure => simp [intOf]; omega
                  case rel => exact ⟨i + 1, n' + 1, hd8, by go_num, by go_num, by omega, HP8, Hb8⟩
                · have hix' : decide ((i : Int) < (x : Int)) = false := by simp; omega
                  obtain rfl : i = x := by omega
                  have p1 := HP7.out.o2
                  have p2 := HP7.out.q2
                  go_wp2_with fail
                  go_roundw
                  case measure => simp [intOf]; omega
                  case rel =>
                    have hs5 := Sr.of_set wr w0.heap.size (w0.heap.size + 1) (.inr rfl) (.slice A5 (ys.length + tz.length) c5) (.int .i64 ((a + i : Nat) : Int))
                    exact ⟨a + i, a + i, n', hd', _, _, by go_num, HP7.out.wrote (HP7.out.ot.setFrom (a + i)) hs5, Hb7.out.trans (hs5.belowB HP7.out.ot), Hnext⟩
          · have h4' : decide ((a : Int) + 4 ≤ kn.size) = false := by simp; omega
            have Hb : Kp ((best kn.data.toList a).1 < 4) := ⟨by
              have := best_le kn.data.toList a
              unfold mo at this
              rw [Hl.out] at this
              omega⟩
            have HP2 := HPw
            have Hb2 := Hbw
            obtain ⟨W, rfl⟩ : ∃ W, W = wr := ⟨wr, rfl⟩
            have w1a : IntKind.i64.wrap ((a : Int) + 1) = (a : Int) + 1 := IntWalk.i64_in _ (by omega)
            have w1f : IntKind.i64.wrap ((a : Int) + 1 - f) = (a : Int) + 1 - f := IntWalk.i64_in _ (by omega)
            have hsW := HP2.out.size
            have Hnote := Kp.mk (note_any w.heap.size kn n hd (zsOf kn.data.toList a) a W HP2.out.mp (by omega) (by omega) (by omega))
            have t0 := HP2.out.o2
            by_cases h128 : a + 1 - f = 128
            · have h128' : (((a : Int) + 1 - f) == 128) = true := by simp; omega
              have Hnext := Kp.mk (HA.out.full (by rw [Hl.out]; exact hlt) Hb.out h128)
              have Hcl : Kp (∀ (W' : World) (n' : Nat) (hd2 : List UInt8 → Value), Pi W' w.heap.size w0.heap.size kn (a + 1) f xs n' hd2 v → Calls Try.prog 16 #[.int .i64 ((a : Int) + 1), .pointer (some ⟨w0.heap.size + 1, 0, none⟩), .pointer (some ⟨w0.heap.size, 0, none⟩), .pointer (some ⟨w.heap.size, 0, none⟩)] W' fun e w' => e = .returned (.tuple #[]) ∧ ∃ v', Ot w' w.heap.size w0.heap.size kn f v' (xs ++ stretch kn.data.toList f (a + 1)) ∧ Sr W' w' w0.heap.size v v') := ⟨fun W' n' hd2 h =>
                stretch_any w.heap.size w0.heap.size kn f (a + 1) v xs W' h.ot (by omega) (by omega) (by omega) (by omega) (by omega)⟩
              go_wp2_with (first | (go_at_call 15; refine (Hnote.out).mono ?_; rintro e w2 ⟨rfl, hd', hM3, hN3⟩; have hPn := HP2.out.noted hM3 hN3; have HPn := Kp.mk hPn; have Hbn := Kp.mk (Hb2.out.trans (hN3.belowB HP2.out.mp)); have e2 := hPn.o2; clear hM3 hN3 hPn) | (go_at_call 16; refine (Hcl.out _ _ _ HPn.out).mono ?_; rintro e w3 ⟨rfl, v', hO4, hS4⟩; have hP4 := HPn.out.wrote hO4 hS4; have HP4 := Kp.mk hP4; have Hb4 := Kp.mk (Hbn.out.trans (hS4.belowB HPn.out.ot)); have e4 := hP4.q2; have e5 := hP4.o2; clear hO4 hS4 hP4))
              go_roundw
              case measure => simp [intOf]; omega
              case rel =>
                have hs5 := Sr.of_set w3 w0.heap.size (w0.heap.size + 1) (.inr rfl) v' (.int .i64 ((a + 1 : Nat) : Int))
                exact ⟨a + 1, a + 1, n + 1, hd', v', _, by go_num, HP4.out.wrote (HP4.out.ot.setFrom (a + 1)) hs5, Hb4.out.trans (hs5.belowB HP4.out.ot), Hnext⟩
            · have h128' : (((a : Int) + 1 - f) == 128) = false := by simp; omega
              go_wp2_with (go_at_call 15; refine (Hnote.out).mono ?_; rintro e w2 ⟨rfl, hd', hM3, hN3⟩; have hPn := HP2.out.noted hM3 hN3; have HPn := Kp.mk hPn; have Hbn := Kp.mk (Hb2.out.trans (hN3.belowB HP2.out.mp)); have e2 := hPn.o2; clear hM3 hN3 hPn)
              go_roundw
              case measure => simp [intOf]; omega
              case rel => exact ⟨a + 1, f, n + 1, hd', v, xs, by go_num, HPn.out, Hbn.out, ⟨HA.out.on (by rw [Hl.out]; exact hlt) Hb.out h128⟩⟩
        · have hlt' : decide (a < kn.size) = false := by simpa using hlt
          obtain rfl : a = kn.size := by omega
          have Hd := Kp.mk (HA.out.done (by rw [Hl.out]; exact hlt))
          have hsW := HPw.out.size
          have Hcl : Kp (Calls Try.prog 16 #[.int .i64 kn.size, .pointer (some ⟨w0.heap.size + 1, 0, none⟩), .pointer (some ⟨w0.heap.size, 0, none⟩), .pointer (some ⟨w.heap.size, 0, none⟩)] wr fun e w' => e = .returned (.tuple #[]) ∧ ∃ v', Ot w' w.heap.size w0.heap.size kn f v' (xs ++ stretch kn.data.toList f kn.size) ∧ Sr wr w' w0.heap.size v v') := ⟨
            stretch_any w.heap.size w0.heap.size kn f kn.size v xs wr HPw.out.ot (by omega) (by omega) (by omega) (by omega) (by omega)⟩
          go_wp2_with (go_at_call 16; refine (Hcl.out).mono ?_; rintro e w3 ⟨rfl, v', hO4, hS4⟩; have e5 := hO4.c1; have hcv := own_str hO4.own; rw [Hd.out, HRS.out] at hcv; have Hb4 := Kp.mk (Hbw.out.trans (hS4.belowB HPw.out.ot)); clear hO4 hS4)
          go_ret
          exact ⟨rfl, Hb4.out⟩
end Go.Proofs.Ythahflokacgjjaa.WinP
