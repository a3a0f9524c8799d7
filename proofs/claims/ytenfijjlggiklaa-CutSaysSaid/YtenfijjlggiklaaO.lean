/-
  An argument that is a slice of receipts, or rules, or a cut, opened.
-/
import Derived.Test.YtenfijjlggiklaaC1
import Derived.Deep.Slices
import Derived.Lib.SmallJoins
import Derived.SizedLaws
namespace Go.Proofs.Ytenfijjlggiklaa.CutP
open Go.RowKit Go.ChangeShapes Go.WideShapes Go.Deep Go.Joins
set_option linter.unusedVariables false

theorem cells44 : Try.prog.cellsOf 44 = 68 := by kernel_rfl
theorem cells42 : Try.prog.cellsOf 42 = 32 := by kernel_rfl
theorem cells5 : Try.prog.cellsOf 5 = 1 := by kernel_rfl
theorem cells3 : Try.prog.cellsOf 3 = 1 := by kernel_rfl
theorem cells9 : Try.prog.cellsOf 9 = 1 := by kernel_rfl
theorem bytes44 : Try.prog.bytesOf 44 = 104 := by kernel_rfl

section
variable {H : Type} {enc : TypeId × Value → H} {w : World} {base : Nat} {spare : Nat → Bool} {held : Bool}

theorem hash_ones {fuel : Nat} {cs : List Value} {x : DataW H × List MemPlace} (h : DataW.trod enc Try.prog w base spare held fuel 42 cs = some x) : cs.length = 32 ∧ ∀ v ∈ cs, v.oneCell' = true := by
  obtain ⟨xs, m, _, _, hl, hxl, hx⟩ := DataW.trod_array Try.underlying42 h
  rw [cells42] at hl
  refine ⟨hl, fun v hv => ?_⟩
  obtain ⟨i, hi, rfl⟩ := List.getElem_of_mem hv
  have h1 := hx i (by omega)
  rw [cells5, Nat.mul_one] at h1
  have hd : (cs.drop i).take 1 = [cs[i]] := by
    rw [List.drop_eq_getElem_cons hi]
    rfl
  rw [hd, List.getElem?_eq_getElem (by omega)] at h1
  obtain ⟨n, hn, _, _⟩ := DataW.trod_int Try.underlying5 h1
  have : cs[i] = .int .u8 n := by simpa using hn
  rw [this]
  rfl

theorem rc_open {fuel : Nat} {cs : List Value} {x : DataW H × List MemPlace} (h : DataW.trod enc Try.prog w base spare held fuel 44 cs = some x) :
    ∃ r : Rc, cs = r.cells ∧ r.rest.length = 64 ∧ (∀ v ∈ r.rest, v.oneCell' = true) ∧ ∃ d0 d1 d2 d4 d5, x.1 = .agg [d0, d1, d2, .lit (.string r.body.data.toList), d4, d5] := by
  obtain ⟨xs, n, _, hx, hl, hxl, hf⟩ := DataW.trod_struct Try.underlying44 h
  rw [cells44] at hl
  match xs, hxl with
  | [y0, y1, y2, y3, y4, y5], _ =>
    have g0 : DataW.trod enc Try.prog w base spare held n 3 ((cs.drop 0).take (Try.prog.cellsOf 3)) = some y0 := hf 0 _ rfl
    have g1 : DataW.trod enc Try.prog w base spare held n 3 ((cs.drop 1).take (Try.prog.cellsOf 3)) = some y1 := hf 1 _ rfl
    have g2 : DataW.trod enc Try.prog w base spare held n 3 ((cs.drop 2).take (Try.prog.cellsOf 3)) = some y2 := hf 2 _ rfl
    have g3 : DataW.trod enc Try.prog w base spare held n 9 ((cs.drop 3).take (Try.prog.cellsOf 9)) = some y3 := hf 3 _ rfl
    have g4 : DataW.trod enc Try.prog w base spare held n 42 ((cs.drop 4).take (Try.prog.cellsOf 42)) = some y4 := hf 4 _ rfl
    have g5 : DataW.trod enc Try.prog w base spare held n 42 ((cs.drop 36).take (Try.prog.cellsOf 42)) = some y5 := hf 5 _ rfl
    match cs, hl with
    | c0 :: c1 :: c2 :: c3 :: rest, hl =>
      rw [cells3] at g0 g1 g2
      rw [cells9] at g3
      rw [cells42] at g4 g5
      obtain ⟨n0, e0, _, _⟩ := DataW.trod_int Try.underlying3 g0
      obtain ⟨n1, e1, _, _⟩ := DataW.trod_int Try.underlying3 g1
      obtain ⟨n2, e2, _, _⟩ := DataW.trod_int Try.underlying3 g2
      obtain ⟨s, e3, hy3, _⟩ := DataW.trod_string Try.underlying9 g3
      simp at e0 e1 e2 e3
      subst e0 e1 e2 e3
      obtain ⟨_, o4⟩ := hash_ones g4
      obtain ⟨_, o5⟩ := hash_ones g5
      have hrl : rest.length = 64 := by simpa using hl
      refine ⟨⟨n0, n1, n2, s, rest⟩, rfl, hrl, fun v hv => ?_, y0.1, y1.1, y2.1, y4.1, y5.1, by rw [hx, hy3]; rfl⟩
      rw [show rest = rest.take 32 ++ (rest.drop 32).take 32 by rw [List.take_of_length_le (l := rest.drop 32) (by rw [List.length_drop]; omega), List.take_append_drop]] at hv
      rcases List.mem_append.1 hv with hv | hv
      · exact o4 v (by simpa using hv)
      · exact o5 v (by simpa using hv)

theorem weights_mem_all {P : Program} {e : TypeId} : ∀ {l : List (DataW H)} {d : DataW H}, d ∈ l → ∀ n ∈ d.weights P e, n ∈ DataW.weightsAll P e l
  | d0 :: l, d, hd, n, hn => by
    simp only [DataW.weightsAll, List.mem_append]
    rcases List.mem_cons.1 hd with rfl | hd
    · exact .inl hn
    · exact .inr (weights_mem_all hd n hn)

/-- the receipts of an argument -/
theorem open_rs {ts : List TypeId} {ds : List (DataW H)} {j fuel len cap : Nat} {A : Option Addr} {d : DataW H} {p : List MemPlace}
    (hsz : (DataW.weightsEach Try.prog ts ds).all (· ≤ reachBytes) = true) (ht : ts[j]? = some 22) (hd : ds[j]? = some d)
    (h : DataW.trod enc Try.prog w base spare held fuel 22 [.slice A len cap] = some (d, p)) :
    ∃ rs : List Rc, rs.length = len ∧ LR w w.heap.size A rs ∧ rs.length * 104 ≤ 140737488351232 ∧ len ≤ cap := by
  rcases open_slice Try.underlying22 h with ⟨hcs, hx⟩ | ⟨a, len', cap', m, n, D, Pl, hcs, hb, hl, hm, hmm, hx, hi⟩
  · simp at hcs
    obtain ⟨rfl, rfl, rfl⟩ := hcs
    exact ⟨[], rfl, ⟨fun r hr => by simp at hr, fun r hr => by simp at hr, fun r hr => by simp at hr, fun hn => by simp at hn⟩, by simp, by omega⟩
  · simp at hcs
    obtain ⟨rfl, rfl, rfl⟩ := hcs
    have hlm : len ≤ m := by rw [hmm]; split <;> omega
    have hdx : d = .slice ((List.range len).map D) ((List.range (m - len)).map fun j => D (len + j)) := by
      have := congrArg Prod.fst hx
      exact this
    have hlen := sized_slice hsz ht (hdx ▸ hd) Try.underlying22
    rw [bytes44] at hlen
    simp only [List.length_map, List.length_range, reachBytes] at hlen
    have hex : ∀ i, i < len → ∃ r : Rc, (w.cells? base (a.add (i * 68)) 68 = some r.cells) ∧ r.rest.length = 64 ∧ (∀ v ∈ r.rest, v.oneCell' = true) ∧ r.body.size ≤ 140737488351232 := by
      intro i hil
      obtain ⟨cs', hc, htr⟩ := hi i (by omega)
      rw [cells44] at hc
      obtain ⟨r, rfl, hr1, hr2, d0, d1, d2, d4, d5, hr3⟩ := rc_open htr
      refine ⟨r, hc, hr1, hr2, ?_⟩
      have hmem : r.body.data.toList.length ∈ DataW.weightsEach Try.prog ts ds := by
        refine DataW.weights_mem_each ht (hdx ▸ hd) _ ?_
        simp only [DataW.weights, Try.underlying22, List.mem_cons, List.mem_append]
        refine .inr (.inl (weights_mem_all (d := D i) (List.mem_map.2 ⟨i, by simpa using hil, rfl⟩) _ ?_))
        have hr3' : D i = _ := hr3
        rw [hr3']
        simp only [DataW.weights, Try.underlying44]
        simp [DataW.weightsEach, DataW.weights]
      have := List.all_eq_true.1 hsz _ hmem
      have h2 : r.body.data.toList.length ≤ reachBytes := of_decide_eq_true this
      rw [Array.length_toList] at h2
      exact h2
    have hdef : Inhabited Rc := ⟨⟨0, 0, 0, ByteArray.empty, []⟩⟩
    obtain ⟨R, hR⟩ := choose_lt hex
    refine ⟨(List.range len).map R, by simp, ⟨?_, ?_, ?_, ?_⟩, by simp; omega, hl⟩
    · intro r hr
      obtain ⟨i, hi', rfl⟩ := List.mem_map.1 hr
      exact (hR i (by simpa using hi')).2.1
    · intro r hr
      obtain ⟨i, hi', rfl⟩ := List.mem_map.1 hr
      exact (hR i (by simpa using hi')).2.2.2
    · intro r hr
      obtain ⟨i, hi', rfl⟩ := List.mem_map.1 hr
      exact (hR i (by simpa using hi')).2.2.1
    · intro hn
      have hn' : 0 < len := by simpa using hn
      have hcell : ∀ i, i < len → ∀ j v, (R i).cells[j]? = some v → w.cell? (a.add (i * 68 + j)) = some v := by
        intro i hil j v hv
        have hcs := (hR i hil).1
        obtain ⟨_, hcl, hat⟩ := World.cells?_some hcs
        have hj : j < 68 := by
          have := (List.getElem?_eq_some_iff.1 hv).1
          omega
        rw [← Go.Deep.add_add, hat j hj, hv]
      have h0 := hcell 0 hn' 0 _ rfl
      obtain ⟨b, o, sp⟩ := a
      have hsp : sp = none := by simpa [Addr.add] using World.cell?_spot h0
      subst hsp
      have hbl := World.block_lt_of_cell? w _ h0
      refine ⟨b, o, rfl, by simpa [Addr.add] using hbl, fun i r hr j v hv => ?_⟩
      rw [List.getElem?_map] at hr
      obtain ⟨i', hi', rfl⟩ := Option.map_eq_some_iff.1 hr
      have hil : i < len := by
        have := (List.getElem?_eq_some_iff.1 hi').1
        simpa using this
      have : i' = i := by simpa [List.getElem?_range hil] using hi'.symm
      subst this
      have := hcell i' hil j v hv
      rw [Addr.add_mid] at this
      rw [Nat.add_assoc]
      exact this
end

end Go.Proofs.Ytenfijjlggiklaa.CutP
