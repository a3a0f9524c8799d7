/-
  The plain law of matches: the longest one among the places where the same four bytes stand is the longest one at all, if that is of four bytes at least.
-/
import Derived.Test.YthahflokacgjjaaM
namespace Go.Proofs.Ythahflokacgjjaa.Pl

/-- how many bytes a match at a tells, at most -/
def mo (L : List UInt8) (a : Nat) : Nat := min 130 (L.length - a)
def mtF (L : List UInt8) (a p : Nat) : Nat → Nat → Nat
  | 0, k => k
  | f + 1, k => if at_ L (p + k) = at_ L (a + k) then mtF L a p f (k + 1) else k
def mt (L : List UInt8) (a p : Nat) : Nat := mtF L a p (mo L a) 0

theorem mtF_spec (L : List UInt8) (a p : Nat) : ∀ f k, k ≤ mtF L a p f k ∧ mtF L a p f k ≤ k + f ∧ (∀ j, k ≤ j → j < mtF L a p f k → at_ L (p + j) = at_ L (a + j)) ∧ (mtF L a p f k < k + f → at_ L (p + mtF L a p f k) ≠ at_ L (a + mtF L a p f k))
  | 0, k => ⟨Nat.le_refl _, Nat.le_refl _, fun j h1 h2 => by simp only [mtF] at h2; omega, fun h => by simp only [mtF] at h; omega⟩
  | f + 1, k => by
    unfold mtF
    by_cases h : at_ L (p + k) = at_ L (a + k)
    · rw [if_pos h]
      obtain ⟨h1, h2, h3, h4⟩ := mtF_spec L a p f (k + 1)
      exact ⟨by omega, by omega, fun j hj1 hj2 => if e : j = k then e ▸ h else h3 j (by omega) hj2, fun hh => h4 (by omega)⟩
    · rw [if_neg h]
      exact ⟨Nat.le_refl _, by omega, fun j h1 h2 => by omega, fun _ => h⟩

theorem mt_le (L : List UInt8) (a p : Nat) : mt L a p ≤ mo L a := by have := (mtF_spec L a p (mo L a) 0).2.1; unfold mt; omega
theorem mt_eq (L : List UInt8) (a p j : Nat) (h : j < mt L a p) : at_ L (p + j) = at_ L (a + j) := (mtF_spec L a p (mo L a) 0).2.2.1 j (by omega) h
theorem mt_ne (L : List UInt8) (a p : Nat) (h : mt L a p < mo L a) : at_ L (p + mt L a p) ≠ at_ L (a + mt L a p) := (mtF_spec L a p (mo L a) 0).2.2.2 (by unfold mt at h; omega)
theorem mt_ge {L : List UInt8} {a p n : Nat} (hn : n ≤ mo L a) (h : ∀ j, j < n → at_ L (p + j) = at_ L (a + j)) : n ≤ mt L a p := by
  rcases Nat.lt_or_ge (mt L a p) n with hlt | hge
  · exact absurd (h _ hlt) (mt_ne L a p (by omega))
  · exact hge

/-- (n, b) is the longest match among the distances C, the nearest of the longest ones -/
def Bst (L : List UInt8) (a : Nat) (C : Nat → Prop) (q : Nat × Nat) : Prop :=
  (q.1 = 0 ∧ q.2 = 0 ∧ ∀ d, C d → mt L a (a - d) = 0) ∨ (0 < q.1 ∧ C q.2 ∧ mt L a (a - q.2) = q.1 ∧ ∀ d, C d → mt L a (a - d) ≤ q.1 ∧ (d < q.2 → mt L a (a - d) < q.1))

theorem Bst.none (L : List UInt8) (a : Nat) (C : Nat → Prop) (h : ∀ d, ¬ C d) : Bst L a C (0, 0) := .inl ⟨rfl, rfl, fun d hd => absurd hd (h d)⟩

def upd (L : List UInt8) (a d : Nat) (q : Nat × Nat) : Nat × Nat := if q.1 < mt L a (a - d) then (mt L a (a - d), d) else q

theorem Bst.step {L : List UInt8} {a : Nat} {C C' : Nat → Prop} {q : Nat × Nat} (h : Bst L a C q) (d : Nat) (hd : ∀ e, C e → e < d) (hC : ∀ e, C' e ↔ C e ∨ e = d) : Bst L a C' (upd L a d q) := by
  unfold upd
  by_cases hk : q.1 < mt L a (a - d)
  · rw [if_pos hk]
    refine .inr ⟨by dsimp only; omega, (hC d).2 (.inr rfl), rfl, fun e he => ?_⟩
    dsimp only
    rcases (hC e).1 he with he | rfl
    · rcases h with ⟨h1, h2, h3⟩ | ⟨h1, h2, h3, h4⟩
      · rw [h3 e he]; exact ⟨by omega, fun _ => by omega⟩
      · have := (h4 e he).1
        exact ⟨by omega, fun _ => by omega⟩
    · exact ⟨Nat.le_refl _, fun h => by omega⟩
  · rw [if_neg hk]
    rcases h with ⟨h1, h2, h3⟩ | ⟨h1, h2, h3, h4⟩
    · refine .inl ⟨h1, h2, fun e he => ?_⟩
      rcases (hC e).1 he with he | rfl
      · exact h3 e he
      · omega
    · refine .inr ⟨h1, (hC _).2 (.inl h2), h3, fun e he => ?_⟩
      rcases (hC e).1 he with he | rfl
      · exact h4 e he
      · have := hd _ h2
        exact ⟨by omega, fun h => by omega⟩

/-- what more there is is further off and no longer -/
theorem Bst.more {L : List UInt8} {a : Nat} {C C' : Nat → Prop} {q : Nat × Nat} (h : Bst L a C q) (hC : ∀ e, C e → C' e) (hm : ∀ e, C' e → C e ∨ (mt L a (a - e) ≤ q.1 ∧ (0 < q.1 → q.2 < e))) : Bst L a C' q := by
  rcases h with ⟨h1, h2, h3⟩ | ⟨h1, h2, h3, h4⟩
  · refine .inl ⟨h1, h2, fun e he => ?_⟩
    rcases hm e he with he | ⟨he, _⟩
    · exact h3 e he
    · omega
  · refine .inr ⟨h1, hC _ h2, h3, fun e he => ?_⟩
    rcases hm e he with he | ⟨he, hlt⟩
    · exact h4 e he
    · exact ⟨he, fun h => by have := hlt h1; omega⟩

theorem Bst.unique {L : List UInt8} {a : Nat} {C C' : Nat → Prop} {q r : Nat × Nat} (h : Bst L a C q) (k : Bst L a C' r) (hsub : ∀ e, C e → C' e) (h4 : ∀ e, C' e → 4 ≤ mt L a (a - e) → C e) :
    (4 ≤ r.1 → q = r) ∧ (r.1 < 4 → q.1 < 4) := by
  rcases k with ⟨k1, k2, k3⟩ | ⟨k1, k2, k3, k4⟩
  · refine ⟨fun h => by omega, fun _ => ?_⟩
    rcases h with ⟨h1, _⟩ | ⟨h1, h2, h3, _⟩
    · omega
    · have := k3 _ (hsub _ h2)
      omega
  · refine ⟨fun hr => ?_, fun hr => ?_⟩
    · have hc := h4 _ k2 (by omega)
      rcases h with ⟨h1, h2, h3⟩ | ⟨h1, h2, h3, h5⟩
      · have := h3 _ hc; omega
      · have e1 := (h5 _ hc).1
        have e2 := (k4 _ (hsub _ h2)).1
        have e3 : q.1 = r.1 := by omega
        have e4 : q.2 = r.2 := by
          rcases Nat.lt_trichotomy q.2 r.2 with hlt | he | hgt
          · have := (k4 _ (hsub _ h2)).2 hlt; omega
          · exact he
          · have := (h5 _ hc).2 hgt; omega
        exact Prod.ext e3 e4
    · rcases h with ⟨h1, _⟩ | ⟨h1, h2, h3, _⟩
      · omega
      · have e2 := (k4 _ (hsub _ h2)).1
        omega

/-! ### the plainest search -/
def bstF (L : List UInt8) (a : Nat) : Nat → Nat → Nat × Nat → Nat × Nat
  | 0, _, q => q
  | f + 1, d, q => bstF L a f (d + 1) (upd L a d q)
def best (L : List UInt8) (a : Nat) : Nat × Nat := bstF L a (min a 32768) 1 (0, 0)
theorem bstF_spec (L : List UInt8) (a : Nat) : ∀ f d q, Bst L a (fun e => 1 ≤ e ∧ e < d) q → 1 ≤ d → Bst L a (fun e => 1 ≤ e ∧ e < d + f) (bstF L a f d q)
  | 0, d, q, h, _ => h
  | f + 1, d, q, h, hd => by
    have := bstF_spec L a f (d + 1) _ (h.step (C' := fun e => 1 ≤ e ∧ e < d + 1) d (fun e he => he.2) (fun e => by omega)) (by omega)
    rw [show d + 1 + f = d + (f + 1) by omega] at this
    exact this
theorem best_spec (L : List UInt8) (a : Nat) : Bst L a (fun e => 1 ≤ e ∧ e ≤ min a 32768) (best L a) := by
  have := bstF_spec L a (min a 32768) 1 (0, 0) (Bst.none _ _ _ (fun d => by omega)) (Nat.le_refl _)
  have e : (fun e => 1 ≤ e ∧ e ≤ min a 32768) = (fun e => 1 ≤ e ∧ e < 1 + min a 32768) := by funext e; apply propext; omega
  rw [e]
  exact this

/-! ### the search among places -/
def lonI (L : List UInt8) (a : Nat) (ps : List Nat) : Nat → Nat × Nat → Nat × Nat
  | 0, q => q
  | j + 1, q => if 32768 < a - ps.getD j 0 then q else if (upd L a (a - ps.getD j 0) q).1 = mo L a then upd L a (a - ps.getD j 0) q else lonI L a ps j (upd L a (a - ps.getD j 0) q)
def lon (L : List UInt8) (a : Nat) (ps : List Nat) : Nat × Nat := lonI L a ps ps.length (0, 0)

/-- places in order, ahead of a -/
structure Ups (a : Nat) (ps : List Nat) : Prop where
  lt : ∀ i, i < ps.length → ps.getD i 0 < a
  up : ∀ i j, i < j → j < ps.length → ps.getD i 0 < ps.getD j 0

theorem lonI_spec (L : List UInt8) (a : Nat) (ps : List Nat) (hu : Ups a ps) : ∀ j q, j ≤ ps.length → Bst L a (fun e => ∃ i, j ≤ i ∧ i < ps.length ∧ e = a - ps.getD i 0 ∧ e ≤ 32768) q → Bst L a (fun e => ∃ i, i < ps.length ∧ e = a - ps.getD i 0 ∧ e ≤ 32768) (lonI L a ps j q)
  | 0, q, _, h => by
    refine h.more (fun e ⟨i, _, h1⟩ => ⟨i, h1⟩) (fun e ⟨i, h1⟩ => .inl ⟨i, Nat.zero_le _, h1⟩)
  | j + 1, q, hj, h => by
    unfold lonI
    by_cases hb : 32768 < a - ps.getD j 0
    · rw [if_pos hb]
      refine h.more (fun e ⟨i, _, h1⟩ => ⟨i, h1⟩) (fun e ⟨i, h1, h2, h3⟩ => .inl ⟨i, ?_, h1, h2, h3⟩)
      rcases Nat.lt_or_ge j i with hlt | hge
      · exact hlt
      · rcases Nat.lt_or_ge i j with hlt | hge
        · have := hu.up i j hlt (by omega)
          omega
        · obtain rfl : i = j := by omega
          omega
    · rw [if_neg hb]
      have hlt := hu.lt j (by omega)
      have hst := h.step (C' := fun e => ∃ i, j ≤ i ∧ i < ps.length ∧ e = a - ps.getD i 0 ∧ e ≤ 32768) (a - ps.getD j 0) (fun e ⟨i, h1, h2, h3, h4⟩ => by
        have := hu.up j i (by omega) h2
        omega) (fun e => by
        constructor
        · rintro ⟨i, h1, h2, h3, h4⟩
          rcases Nat.lt_or_ge j i with hlt | hge
          · exact .inl ⟨i, hlt, h2, h3, h4⟩
          · obtain rfl : i = j := by omega
            exact .inr h3
        · rintro (⟨i, h1, h2, h3, h4⟩ | rfl)
          · exact ⟨i, by omega, h2, h3, h4⟩
          · exact ⟨j, Nat.le_refl _, by omega, rfl, by omega⟩)
      by_cases hm : (upd L a (a - ps.getD j 0) q).1 = mo L a
      · rw [if_pos hm]
        refine hst.more (fun e ⟨i, _, h1⟩ => ⟨i, h1⟩) (fun e ⟨i, h1, h2, h3⟩ => ?_)
        rcases Nat.lt_or_ge i j with hlt2 | hge
        · refine .inr ⟨by rw [hm]; exact mt_le _ _ _, fun hpos => ?_⟩
          rcases hst with ⟨h4, _⟩ | ⟨_, ⟨i2, h5, h6, h7, h8⟩, _⟩
          · omega
          · have := hu.up i i2 (by omega) h6
            have := hu.lt i2 h6
            omega
        · exact .inl ⟨i, hge, h1, h2, h3⟩
      · rw [if_neg hm]
        exact lonI_spec L a ps hu j _ (by omega) hst

theorem lon_spec (L : List UInt8) (a : Nat) (ps : List Nat) (hu : Ups a ps) : Bst L a (fun e => ∃ i, i < ps.length ∧ e = a - ps.getD i 0 ∧ e ≤ 32768) (lon L a ps) :=
  lonI_spec L a ps hu ps.length (0, 0) (Nat.le_refl _) (Bst.none _ _ _ (fun d ⟨i, h1, h2, _⟩ => by omega))

/-- where the bytes k stand ahead of a -/
def stand (L : List UInt8) (a : Nat) (k : List UInt8) : List Nat := (List.range a).filter fun p => decide (p + 4 ≤ L.length ∧ k = (L.drop p).take 4)

theorem stand_step (L : List UInt8) (a : Nat) (k : List UInt8) : stand L (a + 1) k = if a + 4 ≤ L.length ∧ k = (L.drop a).take 4 then stand L a k ++ [a] else stand L a k := by
  unfold stand
  rw [List.range_succ, List.filter_append]
  by_cases h : a + 4 ≤ L.length ∧ k = (L.drop a).take 4
  · rw [if_pos h, List.filter_cons_of_pos (by simpa using h)]
    rfl
  · rw [if_neg h, List.filter_cons_of_neg (by simpa using h)]
    simp

theorem mem_stand {L : List UInt8} {a p : Nat} {k : List UInt8} : p ∈ stand L a k ↔ p < a ∧ p + 4 ≤ L.length ∧ k = (L.drop p).take 4 := by
  unfold stand
  rw [List.mem_filter, List.mem_range]
  simp

theorem stand_ups (L : List UInt8) (a : Nat) (k : List UInt8) : Ups a (stand L a k) := by
  have hp : (stand L a k).Pairwise (· < ·) := List.Pairwise.filter _ List.pairwise_lt_range
  refine ⟨fun i hi => ?_, fun i j hij hj => ?_⟩
  · have := List.getElem_mem hi
    rw [List.getD_eq_getElem?_getD, List.getElem?_eq_getElem hi, Option.getD_some]
    exact (mem_stand.1 this).1
  · rw [List.getD_eq_getElem?_getD, List.getD_eq_getElem?_getD, List.getElem?_eq_getElem hj, List.getElem?_eq_getElem (by omega), Option.getD_some, Option.getD_some]
    exact List.pairwise_iff_getElem.1 hp i j (by omega) hj hij

theorem four_eq {L : List UInt8} {a p : Nat} (ha : a + 4 ≤ L.length) (hp : p + 4 ≤ L.length) : (L.drop a).take 4 = (L.drop p).take 4 ↔ ∀ j, j < 4 → at_ L (p + j) = at_ L (a + j) := by
  constructor
  · intro h j hj
    have := congrArg (fun l => l[j]?) h
    simp only [List.getElem?_take, hj, if_true, List.getElem?_drop] at this
    rw [at_get (by omega), at_get (by omega)] at this
    exact (Option.some.inj this).symm
  · intro h
    apply List.ext_getElem?
    intro j
    simp only [List.getElem?_take, List.getElem?_drop]
    by_cases hj : j < 4
    · rw [if_pos hj, if_pos hj, at_get (by omega), at_get (by omega), h j hj]
    · rw [if_neg hj, if_neg hj]

/-- the search among places finds what the plainest search finds -/
theorem lon_best {L : List UInt8} {a : Nat} (ha : a + 4 ≤ L.length) :
    (4 ≤ (best L a).1 → lon L a (stand L a ((L.drop a).take 4)) = best L a) ∧ ((best L a).1 < 4 → (lon L a (stand L a ((L.drop a).take 4))).1 < 4) := by
  have hmo : 4 ≤ mo L a := by unfold mo; omega
  refine Bst.unique (lon_spec L a _ (stand_ups L a _)) (best_spec L a) ?_ ?_
  · rintro e ⟨i, h1, h2, h3⟩
    have := (stand_ups L a ((L.drop a).take 4)).lt i h1
    omega
  · intro e he h4
    have hm : a - e ∈ stand L a ((L.drop a).take 4) := mem_stand.2 ⟨by omega, by omega, (four_eq ha (by omega)).2 (fun j hj => mt_eq L a (a - e) j (by omega))⟩
    obtain ⟨i, hi, hg⟩ := List.getElem_of_mem hm
    exact ⟨i, hi, by rw [List.getD_eq_getElem?_getD, List.getElem?_eq_getElem hi, Option.getD_some, hg]; omega, by omega⟩

theorem best_le (L : List UInt8) (a : Nat) : (best L a).1 ≤ mo L a := by
  rcases best_spec L a with ⟨h, _⟩ | ⟨_, _, h, _⟩
  · omega
  · rw [← h]; exact mt_le _ _ _
theorem best_back {L : List UInt8} {a : Nat} (h : 0 < (best L a).1) : 1 ≤ (best L a).2 ∧ (best L a).2 ≤ min a 32768 ∧ mt L a (a - (best L a).2) = (best L a).1 := by
  rcases best_spec L a with ⟨h1, _⟩ | ⟨_, h2, h3, _⟩
  · omega
  · exact ⟨h2.1, h2.2, h3⟩
theorem best_ge {L : List UInt8} {a d : Nat} (h1 : 1 ≤ d) (h2 : d ≤ min a 32768) : mt L a (a - d) ≤ (best L a).1 := by
  rcases best_spec L a with ⟨_, _, h⟩ | ⟨_, _, _, h⟩
  · rw [h d ⟨h1, h2⟩]; exact Nat.zero_le _
  · exact (h d ⟨h1, h2⟩).1

end Go.Proofs.Ythahflokacgjjaa.Pl
