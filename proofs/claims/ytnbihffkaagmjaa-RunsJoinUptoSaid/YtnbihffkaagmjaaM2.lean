/-
  The plain law of Pack's loop: stretches closed late.
-/
import Derived.Test.YtnbihffkaagmjaaM
namespace Go.Proofs.Ytnbihffkaagmjaa.Pl

/-- what a stretch is written as -/
def stretch (L : List UInt8) (f t : Nat) : List UInt8 := if f < t then UInt8.ofNat (t - f - 1) :: (L.drop f).take (t - f) else []

theorem stretch_len (L : List UInt8) (f t : Nat) (h : t ≤ L.length) : (stretch L f t).length = if f < t then t - f + 1 else 0 := by
  unfold stretch
  by_cases hft : f < t
  · rw [if_pos hft, if_pos hft, List.length_cons, List.length_take, List.length_drop]
    omega
  · rw [if_neg hft, if_neg hft]; rfl

theorem litF_skip (L : List UInt8) (i a : Nat) (ha : a ≤ L.length) (h128 : a - i ≤ 128) (hno : ∀ j, i ≤ j → j < a → three L j = false) : ∀ d n, n + d = a - i → i ≤ a → litF L i (128 - n) n = litF L i (128 - (a - i)) (a - i)
  | 0, n, h, hi => by rw [show n = a - i by omega]
  | d + 1, n, h, hi => by
    rw [show 128 - n = 128 - (n + 1) + 1 by omega, litF, if_pos ⟨by omega, by omega, hno _ (by omega) (by omega)⟩]
    exact litF_skip L i a ha h128 hno d (n + 1) (by omega) hi

/-- the stretch from i ends at a -/
theorem lit_at {L : List UInt8} {i a : Nat} (hi : i ≤ a) (ha : a ≤ L.length) (h128 : a - i ≤ 128) (hno : ∀ j, i ≤ j → j < a → three L j = false) (he : a = L.length ∨ a - i = 128 ∨ three L a = true) : lit L i = a - i := by
  unfold lit
  rw [show litF L i 128 0 = litF L i (128 - 0) 0 from rfl, litF_skip L i a ha h128 hno (a - i) 0 (by omega) hi]
  generalize hn : a - i = n at *
  cases hf : 128 - n with
  | zero => rfl
  | succ f =>
    rw [litF, if_neg]
    intro ⟨h1, h2, h3⟩
    rw [show i + n = a by omega] at h1 h3
    rcases he with he | he | he
    · omega
    · omega
    · rw [he] at h3; cases h3

theorem pk_stretch {L : List UInt8} {i a : Nat} (hi : i ≤ a) (ha : a ≤ L.length) (h128 : a - i ≤ 128) (hno : ∀ j, i ≤ j → j < a → three L j = false) (he : a = L.length ∨ a - i = 128 ∨ three L a = true) : pk L i = stretch L i a ++ pk L a := by
  by_cases hlt : i < a
  · rw [pk_lit (by omega) (hno i (Nat.le_refl _) hlt), lit_at hi ha h128 hno he, stretch, if_pos hlt, show i + (a - i) = a by omega]
    rfl
  · rw [stretch, if_neg hlt, show i = a by omega]; rfl

/-- where Pack's loop stands: xs is written, from f on it is not -/
structure At (L : List UInt8) (f a : Nat) (xs : List UInt8) : Prop where
  fa : f ≤ a
  al : a ≤ L.length
  lt : a - f < 128
  no : ∀ j, f ≤ j → j < a → three L j = false
  eq : xs ++ pk L f = pack L

theorem At.start (L : List UInt8) : At L 0 0 [] := ⟨by omega, by omega, by omega, fun j _ h => by omega, rfl⟩
/-- no three here, and room -/
theorem At.on {L f a xs} (h : At L f a xs) (ha : a < L.length) (ht : three L a = false) (h' : a + 1 - f ≠ 128) : At L f (a + 1) xs :=
  ⟨by have := h.fa; omega, ha, by have := h.lt; have := h.fa; omega, fun j h1 h2 => if e : j = a then e ▸ ht else h.no j h1 (by omega), h.eq⟩
theorem At.full {L f a xs} (h : At L f a xs) (ha : a < L.length) (ht : three L a = false) (h' : a + 1 - f = 128) : At L (a + 1) (a + 1) (xs ++ stretch L f (a + 1)) :=
  ⟨Nat.le_refl _, ha, by omega, fun j h1 h2 => by omega, by
    rw [List.append_assoc, ← pk_stretch (by have := h.fa; omega) ha (by omega) (fun j h1 h2 => if e : j = a then e ▸ ht else h.no j h1 (by omega)) (.inr (.inl h'))]
    exact h.eq⟩
theorem At.three {L f a xs} (h : At L f a xs) (ht : three L a = true) : At L (a + run L a) (a + run L a) ((xs ++ stretch L f a) ++ [UInt8.ofNat (125 + run L a), at_ L a]) := by
  have hl := three_len ht
  refine ⟨Nat.le_refl _, (run_le (by omega)).2, by omega, fun j h1 h2 => by omega, ?_⟩
  rw [List.append_assoc, List.append_assoc]
  rw [show [UInt8.ofNat (125 + run L a), at_ L a] ++ pk L (a + run L a) = pk L a from (pk_run ht).symm, ← pk_stretch h.fa h.al (by have := h.lt; omega) h.no (.inr (.inr ht))]
  exact h.eq
theorem At.done {L f a xs} (h : At L f a xs) (ha : L.length ≤ a) : xs ++ stretch L f L.length = pack L := by
  have e : a = L.length := by have := h.al; omega
  subst e
  have := pk_stretch h.fa h.al (by have := h.lt; omega) h.no (.inl rfl)
  rw [pk_end (Nat.le_refl _), List.append_nil] at this
  rw [← this]
  exact h.eq
theorem At.len {L f a xs} (h : At L f a xs) : xs.length + (pk L f).length = (pack L).length := by
  rw [← h.eq, List.length_append]

end Go.Proofs.Ytnbihffkaagmjaa.Pl
