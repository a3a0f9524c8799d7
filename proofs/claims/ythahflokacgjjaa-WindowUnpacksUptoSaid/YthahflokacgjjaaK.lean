/-
  The plain law of packing: the machine that both packers are, how long it gets at most.
-/
import Derived.Test.YthahflokacgjjaaB
import Derived.Test.YthahflokacgjjaaS
namespace Go.Proofs.Ythahflokacgjjaa.Pl

/-- the three bytes of a match -/
def three (q : Nat × Nat) : List UInt8 := [UInt8.ofNat (q.1 + 124), UInt8.ofNat ((q.2 - 1) / 256), UInt8.ofNat ((q.2 - 1) % 256)]

/-- at a, unwritten from f on, xs written -/
def packF (L : List UInt8) : Nat → Nat → Nat → List UInt8 → List UInt8
  | 0, _, _, xs => xs
  | g + 1, a, f, xs =>
    if a < L.length then
      if (best L a).1 < 4 then
        if a + 1 - f = 128 then packF L g (a + 1) (a + 1) (xs ++ stretch L f (a + 1)) else packF L g (a + 1) f xs
      else packF L g (a + (best L a).1) (a + (best L a).1) (xs ++ stretch L f a ++ three (best L a))
    else xs ++ stretch L f a
def pack (s : List UInt8) : List UInt8 := packF (stat ++ s) (s.length + 1) 68 68 []

/-- where the packer stands -/
structure At (L : List UInt8) (f a : Nat) (xs R : List UInt8) : Prop where
  fa : f ≤ a
  al : a ≤ L.length
  lt : a - f < 128
  len : xs.length ≤ 2 * f
  eq : ∃ g, L.length - a < g ∧ packF L g a f xs = R

theorem best_room (L : List UInt8) (a : Nat) (h : a ≤ L.length) : a + (best L a).1 ≤ L.length ∧ (best L a).1 ≤ 130 := by
  have := best_le L a
  unfold mo at this
  omega

theorem At.start (s : List UInt8) : At (stat ++ s) 68 68 [] (pack s) :=
  ⟨Nat.le_refl _, by rw [List.length_append]; have : stat.length = 68 := rfl; omega, by omega, Nat.zero_le _, s.length + 1, by rw [List.length_append]; have : stat.length = 68 := rfl; omega, rfl⟩
theorem At.on {L f a xs R} (h : At L f a xs R) (ha : a < L.length) (hb : (best L a).1 < 4) (h' : a + 1 - f ≠ 128) : At L f (a + 1) xs R := by
  obtain ⟨g, hg, he⟩ := h.eq
  obtain ⟨g, rfl⟩ : ∃ k, g = k + 1 := ⟨g - 1, by omega⟩
  rw [packF, if_pos ha, if_pos hb, if_neg h'] at he
  have := h.lt
  have := h.fa
  exact ⟨by omega, ha, by omega, h.len, g, by omega, he⟩
theorem At.full {L f a xs R} (h : At L f a xs R) (ha : a < L.length) (hb : (best L a).1 < 4) (h' : a + 1 - f = 128) : At L (a + 1) (a + 1) (xs ++ stretch L f (a + 1)) R := by
  obtain ⟨g, hg, he⟩ := h.eq
  obtain ⟨g, rfl⟩ : ∃ k, g = k + 1 := ⟨g - 1, by omega⟩
  rw [packF, if_pos ha, if_pos hb, if_pos h'] at he
  have := h.len
  have := h.fa
  exact ⟨Nat.le_refl _, ha, by omega, by rw [List.length_append, stretch_len _ _ _ ha]; split <;> omega, g, by omega, he⟩
theorem At.match {L f a xs R} (h : At L f a xs R) (ha : a < L.length) (hb : ¬ (best L a).1 < 4) : At L (a + (best L a).1) (a + (best L a).1) (xs ++ stretch L f a ++ three (best L a)) R := by
  obtain ⟨g, hg, he⟩ := h.eq
  obtain ⟨g, rfl⟩ : ∃ k, g = k + 1 := ⟨g - 1, by omega⟩
  rw [packF, if_pos ha, if_neg hb] at he
  have := h.len
  have := h.fa
  have := best_room L a h.al
  refine ⟨Nat.le_refl _, this.1, by omega, ?_, g, by omega, he⟩
  rw [List.length_append, List.length_append, stretch_len _ _ _ h.al]
  have : (three (best L a)).length = 3 := rfl
  split <;> omega
theorem At.done {L f a xs R} (h : At L f a xs R) (ha : ¬ a < L.length) : xs ++ stretch L f a = R := by
  obtain ⟨g, hg, he⟩ := h.eq
  obtain ⟨g, rfl⟩ : ∃ k, g = k + 1 := ⟨g - 1, by omega⟩
  rw [packF, if_neg ha] at he
  exact he

/-- packed there are at most as many bytes, and one for each 128 that are begun -/
theorem packF_little (L : List UInt8) : ∀ g a f xs, f ≤ a → a ≤ L.length → a - f < 128 → L.length - a < g → (packF L g a f xs).length ≤ xs.length + (L.length - f) + (L.length - f + 127) / 128
  | 0, a, f, xs, _, _, _, hg => by omega
  | g + 1, a, f, xs, hf, ha, h128, hg => by
    unfold packF
    by_cases hlt : a < L.length
    · rw [if_pos hlt]
      by_cases hb : (best L a).1 < 4
      · rw [if_pos hb]
        by_cases h1 : a + 1 - f = 128
        · rw [if_pos h1]
          have := packF_little L g (a + 1) (a + 1) (xs ++ stretch L f (a + 1)) (Nat.le_refl _) hlt (by omega) (by omega)
          rw [List.length_append, stretch_len _ _ _ hlt, if_pos (by omega)] at this
          omega
        · rw [if_neg h1]
          exact packF_little L g (a + 1) f xs (by omega) hlt (by omega) (by omega)
      · rw [if_neg hb]
        have hr := best_room L a ha
        have := packF_little L g (a + (best L a).1) (a + (best L a).1) (xs ++ stretch L f a ++ three (best L a)) (Nat.le_refl _) hr.1 (by omega) (by omega)
        have h3 : (three (best L a)).length = 3 := rfl
        rw [List.length_append, List.length_append, stretch_len _ _ _ ha, h3] at this
        split at this <;> omega
    · rw [if_neg hlt, List.length_append, stretch_len _ _ _ ha]
      split <;> omega

theorem pack_little (s : List UInt8) : (pack s).length ≤ s.length + (s.length + 127) / 128 := by
  have h := packF_little (stat ++ s) (s.length + 1) 68 68 [] (Nat.le_refl _) (by rw [List.length_append]; have : stat.length = 68 := rfl; omega) (by omega) (by rw [List.length_append]; have : stat.length = 68 := rfl; omega)
  have e : (stat ++ s).length - 68 = s.length := by rw [List.length_append]; have : stat.length = 68 := rfl; omega
  rw [e] at h
  simpa [pack] using h

end Go.Proofs.Ythahflokacgjjaa.Pl
