/-
  New, Numbers, awake; a nil poster.
-/
import Derived.Test.YtlehlpiphplcmaaA3
import Derived.Carry
namespace Go.Proofs.Ytlehlpiphplcmaa.Pl
/-- heights that can be -/
def Hi (h : Int → Option Int) : Prop := ∀ k v, h k = some v → 0 ≤ v ∧ v ≤ 9223372036854775807
theorem Hi.none : Hi (fun _ => none) := fun k v e => by cases e
theorem Hi.aft {P H L : Int} {h : Int → Option Int} {m : Nat} (hh : Hi h) (h0 : 0 ≤ H) (h1 : H ≤ 9223372036854775807) : Hi (aft P H (cutd h L) L m) := by
  intro k v e
  unfold Pl.aft at e
  split at e
  · cases e; exact ⟨h0, h1⟩
  · unfold cutd at e
    split at e
    · cases e
    · exact hh k v e
end Go.Proofs.Ytlehlpiphplcmaa.Pl
namespace Go.Proofs.Ytlehlpiphplcmaa.PostP
open Go.RowKit Go.PostLaws Go.Maps Go.Proofs.Ytlehlpiphplcmaa.Pl
set_option linter.unusedVariables false

theorem look_nil (w : World) (H L C : Int) : Calls Try.prog 9 #[.pointer none, .int .i64 H, .int .i64 L, .int .i64 C] w fun e w' => e = .returned (.slice none 0 0) ∧ w' = w := by
  go_enter Try.func9, Try.ntmps9
  go_wp2_with fail
  go_ret
  exact ⟨rfl, rfl⟩
theorem out_nil (w : World) : Calls Try.prog 10 #[.pointer none] w fun e w' => e = .returned (.slice none 0 0) ∧ w' = w := by
  go_enter Try.func10, Try.ntmps10
  go_wp2_with fail
  go_ret
  exact ⟨rfl, rfl⟩
theorem look_bad {w : World} {B : Nat} (H L C : Int) (hb : H < 0 ∨ L < 0 ∨ C < 0) : Calls Try.prog 9 #[.pointer (some ⟨B, 0, none⟩), .int .i64 H, .int .i64 L, .int .i64 C] w fun e w' => e = .returned (.slice none 0 0) ∧ w' = w := by
  by_cases h1 : H < 0
  · have d1 : decide (H < 0) = true := by simpa using h1
    go_enter Try.func9, Try.ntmps9
    go_wp2_with fail
    go_ret
    exact ⟨rfl, rfl⟩
  · have d1 : decide (H < 0) = false := by simpa using h1
    by_cases h2 : L < 0
    · have d2 : decide (L < 0) = true := by simpa using h2
      go_enter Try.func9, Try.ntmps9
      go_wp2_with fail
      go_ret
      exact ⟨rfl, rfl⟩
    · have d2 : decide (L < 0) = false := by simpa using h2
      have d3 : decide (C < 0) = true := by simp; omega
      go_enter Try.func9, Try.ntmps9
      go_wp2_with fail
      go_ret
      exact ⟨rfl, rfl⟩

theorem po_start (w : World) (P W : Int) : Po ((w.alloc (.map #[] 0)).alloc (.cells #[.int .i64 P, .int .i64 W, .map (some w.heap.size)] 40)) w.heap.size (w.heap.size + 1) 0 P W (fun _ => none) := by
  have e1 : (w.alloc (.map #[] 0)).heap.size = w.heap.size + 1 := by simp
  refine ⟨?_, (Mh.made w).of_block ?_⟩
  · have := heap_alloc_new (w.alloc (.map #[] 0)) (.cells #[.int .i64 P, .int .i64 W, .map (some w.heap.size)] 40)
    rw [e1] at this
    exact this
  · rw [Below.heap_alloc _ _ _ (by omega)]

theorem new_any (w : World) (P W : Int) (h1 : 1 ≤ P) (h2 : P ≤ 4096) (h3 : 1 ≤ W) (h4 : W ≤ 64) : Calls Try.prog 7 #[.int .i64 P, .int .i64 W] w fun e w' =>
    e = .returned (.tuple #[.pointer (some ⟨w.heap.size + 1, 0, none⟩), .int .i64 0]) ∧ Po w' w.heap.size (w.heap.size + 1) 0 P W (fun _ => none) ∧ Below w.heap.size w w' ∧ w.heap.size + 2 ≤ w'.heap.size := by
  have Hst := Kp.mk (po_start w P W)
  have d1 : decide (P < 1) = false := by simp; omega
  have d2 : decide (4096 < P) = false := by simp; omega
  have d3 : decide (W < 1) = false := by simp; omega
  have d4 : decide (64 < W) = false := by simp; omega
  have hmm := @run_makeMap Try.prog
  go_enter Try.func7, Try.ntmps7
  go_wp2_with fail
  refine bodyPost_ret (results_tmp2 rfl _ _ _) rfl ?_
  exact ⟨rfl, Hst.out, ((Below.refl _ w).alloc (Nat.le_refl _) _).alloc (by simp) _, by simp⟩

/-- a slice that reads as these numbers -/
structure Rd (w : World) (v : Value) (zs : List Int) : Prop where
  out : ∃ A c, v = .slice A zs.length c ∧ ∀ j, j < zs.length → ∃ g, A = some ⟨g, 0, none⟩ ∧ w.cell? ⟨g, j, none⟩ = some (.int .i64 (zs.getD j 0))
theorem Rd.of_own {w : World} {base : Nat} {v : Value} {zs : List Int} (h : OwnI w base v zs) : Rd w v zs := by
  obtain ⟨A, c, rfl⟩ := ownI_form h
  refine ⟨⟨A, c, rfl, fun j hj => ?_⟩⟩
  obtain ⟨g, rfl⟩ := ownI_some h (by omega)
  exact ⟨g, rfl, ownI_cell h hj⟩
theorem Rd.of_lit (w : World) (zs : List Int) (cs : Array Value) (h : cs = (ints zs).toArray) : Rd (w.alloc (.cells cs 3)) (.slice (some ⟨w.heap.size, 0, none⟩) zs.length zs.length) zs := by
  subst h
  refine ⟨⟨_, _, rfl, fun j hj => ⟨w.heap.size, rfl, ?_⟩⟩⟩
  rw [cell_of_row (w.alloc _) w.heap.size j (ints zs).toArray 3 (0, 0) (heap_alloc_new w _)]
  simp [ints, hj]

set_option maxRecDepth 100000 in
set_option maxHeartbeats 4000000 in
theorem numbers_any {w : World} {va vb : Value} {zs : List Int} (ha : Rd w va zs) (hb : Rd w vb zs) (hl : zs.length ≤ 1000) :
    Calls Try.prog 11 #[va, vb] w fun e w' => e = .returned (.bool true) ∧ Below w.heap.size w w' := by
  obtain ⟨A, c, rfl, hA⟩ := ha.out
  obtain ⟨A', c', rfl, hA'⟩ := hb.out
  have HA := Kp.mk hA
  have HA' := Kp.mk hA'
  clear hA hA' ha hb
  go_enter Try.func11, Try.ntmps11
  go_wp2_with fail
  go_loopw [5] (fun v5 wr => ∃ j : Nat, v5 = .int .i64 j ∧ j ≤ zs.length ∧ Kp (∃ q, wr = w.drewN q)) (fun v5 _ => zs.length - (intOf v5).toNat)
  case atStart => exact ⟨0, rfl, Nat.zero_le _, ⟨0, rfl⟩⟩
  case round =>
    obtain ⟨j, rfl, hj, Hq⟩ := hrel
    by_cases hjl : j < zs.length
    · have d1 : decide (j < zs.length) = true := by simpa using hjl
      obtain ⟨g, rfl, cg⟩ := HA.out j hjl
      obtain ⟨g', rfl, cg'⟩ := HA'.out j hjl
      obtain ⟨q, rfl⟩ := Hq.out
      have i1 : (0 : Int) ≤ j := by omega
      have i2 : (j : Int) < zs.length := by omega
      have w1 : IntKind.i64.wrap ((j : Int) + 1) = (j : Int) + 1 := IntWalk.i64_in _ (by omega)
      go_wp2_with fail
      go_quiet (fail)
      go_wp2_with fail
      go_roundw
      case measure => simp [intOf]; omega
      case rel => exact ⟨j + 1, by go_num, by omega, ⟨q + nq, by simp⟩⟩
    · have d1 : decide (j < zs.length) = false := by simpa using hjl
      go_wp2_with fail
      go_ret
      obtain ⟨q, rfl⟩ := Hq.out
      exact ⟨rfl, belowN (Below.refl _ _) q⟩

end Go.Proofs.Ytlehlpiphplcmaa.PostP
