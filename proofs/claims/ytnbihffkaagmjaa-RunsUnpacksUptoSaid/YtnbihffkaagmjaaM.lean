/-
  The plain law of layer 6: bytes packed as runs and stretches; no program.
-/
import Derived.Below
namespace Go.Proofs.Ytnbihffkaagmjaa.Pl

def at_ (L : List UInt8) (i : Nat) : UInt8 := L.getD i 0
theorem at_eq {L : List UInt8} {i : Nat} (h : i < L.length) : at_ L i = L[i] := by
  unfold at_
  rw [List.getD_eq_getElem?_getD, List.getElem?_eq_getElem h, Option.getD_some]
theorem at_get {L : List UInt8} {i : Nat} (h : i < L.length) : L[i]? = some (at_ L i) := by rw [at_eq h, List.getElem?_eq_getElem h]

/-- do at least three equal bytes stand here? -/
def three (L : List UInt8) (i : Nat) : Bool := decide (i + 2 < L.length) && (at_ L i == at_ L (i + 1)) && (at_ L i == at_ L (i + 2))
/-- equal bytes from place i on, n of them counted -/
def runF (L : List UInt8) (i : Nat) : Nat → Nat → Nat
  | 0, n => n
  | f + 1, n => if i + n < L.length ∧ n < 130 ∧ at_ L (i + n) = at_ L i then runF L i f (n + 1) else n
def run (L : List UInt8) (i : Nat) : Nat := runF L i 130 0
/-- bytes up to the next three, n of them counted -/
def litF (L : List UInt8) (i : Nat) : Nat → Nat → Nat
  | 0, n => n
  | f + 1, n => if i + n < L.length ∧ n < 128 ∧ three L (i + n) = false then litF L i f (n + 1) else n
def lit (L : List UInt8) (i : Nat) : Nat := litF L i 128 0
def packF (L : List UInt8) : Nat → Nat → List UInt8
  | 0, _ => []
  | f + 1, i =>
    if i < L.length then
      if three L i = true then UInt8.ofNat (125 + run L i) :: at_ L i :: packF L f (i + run L i)
      else UInt8.ofNat (lit L i - 1) :: ((L.drop i).take (lit L i) ++ packF L f (i + lit L i))
    else []
def pk (L : List UInt8) (i : Nat) : List UInt8 := packF L (L.length - i + 1) i
def pack (L : List UInt8) : List UInt8 := pk L 0

/-! ### counting -/
theorem runF_ge (L : List UInt8) (i : Nat) : ∀ f n, n ≤ runF L i f n
  | 0, n => Nat.le_refl _
  | f + 1, n => by
    simp only [runF]
    split
    · have := runF_ge L i f (n + 1)
      omega
    · exact Nat.le_refl _
theorem runF_le (L : List UInt8) (i : Nat) : ∀ f n, n ≤ 130 → i + n ≤ L.length → runF L i f n ≤ 130 ∧ i + runF L i f n ≤ L.length
  | 0, n, h, h' => ⟨h, h'⟩
  | f + 1, n, h, h' => by
    simp only [runF]
    split
    · rename_i hc
      exact runF_le L i f (n + 1) (by omega) (by omega)
    · exact ⟨h, h'⟩
theorem runF_all (L : List UInt8) (i : Nat) : ∀ f n, (∀ j, j < n → at_ L (i + j) = at_ L i) → ∀ j, j < runF L i f n → at_ L (i + j) = at_ L i
  | 0, n, h => h
  | f + 1, n, h => by
    simp only [runF]
    split
    · rename_i hc
      refine runF_all L i f (n + 1) (fun j hj => ?_)
      by_cases hjn : j = n
      · rw [hjn]; exact hc.2.2
      · exact h j (by omega)
    · exact h
theorem litF_ge (L : List UInt8) (i : Nat) : ∀ f n, n ≤ litF L i f n
  | 0, n => Nat.le_refl _
  | f + 1, n => by
    simp only [litF]
    split
    · have := litF_ge L i f (n + 1)
      omega
    · exact Nat.le_refl _
theorem litF_le (L : List UInt8) (i : Nat) : ∀ f n, n ≤ 128 → i + n ≤ L.length → litF L i f n ≤ 128 ∧ i + litF L i f n ≤ L.length
  | 0, n, h, h' => ⟨h, h'⟩
  | f + 1, n, h, h' => by
    simp only [litF]
    split
    · rename_i hc
      exact litF_le L i f (n + 1) (by omega) (by omega)
    · exact ⟨h, h'⟩
/-- where the count of a stretch ends -/
theorem litF_end (L : List UInt8) (i : Nat) : ∀ f n, 128 ≤ f + n → (litF L i f n = L.length - i ∧ i + litF L i f n = L.length) ∨ 128 ≤ litF L i f n ∨ three L (i + litF L i f n) = true ∨ L.length ≤ i + litF L i f n
  | 0, n, h => .inr (.inl (by simpa [litF] using h))
  | f + 1, n, h => by
    simp only [litF]
    split
    · exact litF_end L i f (n + 1) (by omega)
    · rename_i hc
      by_cases h1 : i + n < L.length
      · by_cases h2 : n < 128
        · refine .inr (.inr (.inl ?_))
          cases ht : three L (i + n) with
          | true => rfl
          | false => exact absurd ⟨h1, h2, ht⟩ hc
        · exact .inr (.inl (by omega))
      · exact .inr (.inr (.inr (by omega)))
theorem three_len {L : List UInt8} {i : Nat} (h : three L i = true) : i + 2 < L.length := by
  unfold three at h
  simp at h
  exact h.1.1
theorem run_ge {L : List UInt8} {i : Nat} (h : three L i = true) : 3 ≤ run L i := by
  have hl := three_len h
  unfold three at h
  simp at h
  unfold run
  have e0 : runF L i 130 0 = runF L i 129 1 := by rw [runF, if_pos ⟨by omega, by omega, rfl⟩]
  have e1 : runF L i 129 1 = runF L i 128 2 := by rw [runF, if_pos ⟨by omega, by omega, h.1.2.symm⟩]
  have e2 : runF L i 128 2 = runF L i 127 3 := by rw [runF, if_pos ⟨by omega, by omega, h.2.symm⟩]
  rw [e0, e1, e2]
  exact runF_ge L i 127 3
theorem run_le {L : List UInt8} {i : Nat} (h : i ≤ L.length) : run L i ≤ 130 ∧ i + run L i ≤ L.length := runF_le L i 130 0 (by omega) (by omega)
theorem lit_le {L : List UInt8} {i : Nat} (h : i ≤ L.length) : lit L i ≤ 128 ∧ i + lit L i ≤ L.length := litF_le L i 128 0 (by omega) (by omega)
theorem lit_ge {L : List UInt8} {i : Nat} (h : i < L.length) (ht : three L i = false) : 1 ≤ lit L i := by
  unfold lit
  rw [litF, if_pos ⟨by omega, by omega, by simpa using ht⟩]
  exact litF_ge L i 127 1
theorem run_from_one {L : List UInt8} {i : Nat} (h : i < L.length) : runF L i 129 1 = run L i := by
  unfold run
  rw [show runF L i 130 0 = if i + 0 < L.length ∧ 0 < 130 ∧ at_ L (i + 0) = at_ L i then runF L i 129 (0 + 1) else 0 from rfl, if_pos ⟨by omega, by omega, rfl⟩]
/-- three, by the count -/
theorem three_iff {L : List UInt8} {i : Nat} (h : i < L.length) : three L i = true ↔ 3 ≤ run L i := by
  constructor
  · exact run_ge
  · intro hr
    have hle := (run_le (Nat.le_of_lt h)).2
    have hall := runF_all L i 130 0 (fun j hj => by omega)
    have h1 := hall 1 (by unfold run at hr; omega)
    have h2 := hall 2 (by unfold run at hr; omega)
    unfold three
    rw [h1, h2]
    simp
    omega

/-! ### rounds -/
theorem packF_succ (L : List UInt8) (f i : Nat) : packF L (f + 1) i = if i < L.length then
      if three L i = true then UInt8.ofNat (125 + run L i) :: at_ L i :: packF L f (i + run L i)
      else UInt8.ofNat (lit L i - 1) :: ((L.drop i).take (lit L i) ++ packF L f (i + lit L i))
    else [] := rfl
theorem packF_more (L : List UInt8) : ∀ f i, L.length - i < f → packF L (f + 1) i = packF L f i
  | 0, i, h => by omega
  | f + 1, i, h => by
    rw [packF_succ L (f + 1) i, packF_succ L f i]
    by_cases hi : i < L.length
    · rw [if_pos hi, if_pos hi]
      cases ht : three L i with
      | true =>
        have := run_ge ht
        rw [if_pos rfl, if_pos rfl, packF_more L f _ (by omega)]
      | false =>
        have := lit_ge hi ht
        rw [if_neg (by simp), if_neg (by simp), packF_more L f _ (by omega)]
    · rw [if_neg hi, if_neg hi]
theorem packF_eq (L : List UInt8) (i : Nat) : ∀ d, packF L (L.length - i + 1 + d) i = pk L i
  | 0 => rfl
  | d + 1 => by rw [← Nat.add_assoc, packF_more L _ i (by omega)]; exact packF_eq L i d
theorem pk_end {L : List UInt8} {i : Nat} (h : L.length ≤ i) : pk L i = [] := by
  unfold pk
  rw [packF, if_neg (by omega)]
theorem pk_run {L : List UInt8} {i : Nat} (ht : three L i = true) : pk L i = UInt8.ofNat (125 + run L i) :: at_ L i :: pk L (i + run L i) := by
  have hl := three_len ht
  have hr := run_ge ht
  have hr2 := (run_le (L := L) (i := i) (by omega)).2
  have := packF_eq L (i + run L i) (run L i - 1)
  rw [show L.length - (i + run L i) + 1 + (run L i - 1) = L.length - i by omega] at this
  unfold pk
  rw [packF, if_pos (by omega), if_pos ht, this]
  rfl
theorem pk_lit {L : List UInt8} {i : Nat} (hi : i < L.length) (ht : three L i = false) : pk L i = UInt8.ofNat (lit L i - 1) :: ((L.drop i).take (lit L i) ++ pk L (i + lit L i)) := by
  have hr := lit_ge hi ht
  have hr2 := (lit_le (L := L) (i := i) (by omega)).2
  have := packF_eq L (i + lit L i) (lit L i - 1)
  rw [show L.length - (i + lit L i) + 1 + (lit L i - 1) = L.length - i by omega] at this
  unfold pk
  rw [packF, if_pos hi, if_neg (by simp [ht]), this]
  rfl

/-! ### what is packed is little more -/
theorem pk_length (L : List UInt8) : ∀ d i, i ≤ L.length → L.length - i ≤ d → (pk L i).length ≤ (L.length - i) + (L.length - i + 127) / 128
  | 0, i, h, h' => by rw [pk_end (by omega)]; simp
  | d + 1, i, h, h' => by
    by_cases hi : i < L.length
    · cases ht : three L i with
      | true =>
        have h1 := run_ge ht
        obtain ⟨h2, h3⟩ := run_le (L := L) (i := i) (by omega)
        have ih := pk_length L d (i + run L i) h3 (by omega)
        rw [pk_run ht]
        simp only [List.length_cons]
        omega
      | false =>
        have h1 := lit_ge hi ht
        obtain ⟨h2, h3⟩ := lit_le (L := L) (i := i) (by omega)
        rw [pk_lit hi ht]
        simp only [List.length_cons, List.length_append, List.length_take, List.length_drop]
        rcases litF_end L i 128 0 (by omega) with ⟨_, he⟩ | he | he | he
        · change i + lit L i = L.length at he
          rw [pk_end (by omega)]
          simp
          omega
        · change 128 ≤ lit L i at he
          have ih := pk_length L d (i + lit L i) h3 (by omega)
          omega
        · change three L (i + lit L i) = true at he
          have g1 := run_ge he
          obtain ⟨g2, g3⟩ := run_le (L := L) (i := i + lit L i) h3
          have ih := pk_length L d (i + lit L i + run L (i + lit L i)) g3 (by omega)
          rw [pk_run he]
          simp only [List.length_cons]
          omega
        · change L.length ≤ i + lit L i at he
          rw [pk_end he]
          simp
          omega
    · rw [pk_end (by omega)]; simp
theorem pack_little (L : List UInt8) : (pack L).length ≤ L.length + (L.length + 127) / 128 := by
  have := pk_length L L.length 0 (by omega) (by omega)
  rw [Nat.sub_zero] at this
  exact this

/-! ### pieces, and what they say -/
inductive Dec : List UInt8 → List UInt8 → Prop
  | nil : Dec [] []
  | lit (xs P X : List UInt8) (h1 : 1 ≤ xs.length) (h2 : xs.length ≤ 128) (h : Dec P X) : Dec (UInt8.ofNat (xs.length - 1) :: (xs ++ P)) (xs ++ X)
  | run (n : Nat) (b : UInt8) (P X : List UInt8) (h1 : 3 ≤ n) (h2 : n ≤ 130) (h : Dec P X) : Dec (UInt8.ofNat (125 + n) :: b :: P) (List.replicate n b ++ X)
theorem Dec.append {P X Q Y : List UInt8} (h : Dec P X) (h' : Dec Q Y) : Dec (P ++ Q) (X ++ Y) := by
  induction h with
  | nil => exact h'
  | lit xs P X h1 h2 _ ih => rw [List.cons_append, List.append_assoc, List.append_assoc]; exact .lit xs _ _ h1 h2 ih
  | run n b P X h1 h2 _ ih => rw [List.cons_append, List.cons_append, List.append_assoc]; exact .run n b _ _ h1 h2 ih
theorem drop_run {L : List UInt8} {i : Nat} (h : i ≤ L.length) : L.drop i = List.replicate (run L i) (at_ L i) ++ L.drop (i + run L i) := by
  obtain ⟨_, h3⟩ := run_le h
  have hall := runF_all L i 130 0 (fun j hj => by omega)
  apply List.ext_getElem?
  intro j
  by_cases hj : j < run L i
  · rw [List.getElem?_append_left (by simpa using hj), List.getElem?_replicate, if_pos hj, List.getElem?_drop, at_get (by omega)]
    rw [hall j hj]
  · rw [List.getElem?_append_right (by simp; omega), List.length_replicate, List.getElem?_drop, List.getElem?_drop]
    congr 1
    omega
theorem pk_dec (L : List UInt8) : ∀ d i, i ≤ L.length → L.length - i ≤ d → Dec (pk L i) (L.drop i)
  | 0, i, h, h' => by rw [pk_end (by omega), List.drop_of_length_le (by omega)]; exact .nil
  | d + 1, i, h, h' => by
    by_cases hi : i < L.length
    · cases ht : three L i with
      | true =>
        have h1 := run_ge ht
        obtain ⟨h2, h3⟩ := run_le (L := L) (i := i) (by omega)
        rw [pk_run ht, drop_run h]
        exact .run _ _ _ _ h1 h2 (pk_dec L d _ h3 (by omega))
      | false =>
        have h1 := lit_ge hi ht
        obtain ⟨h2, h3⟩ := lit_le (L := L) (i := i) (by omega)
        have hl : ((L.drop i).take (lit L i)).length = lit L i := by rw [List.length_take, List.length_drop]; omega
        have := Dec.lit ((L.drop i).take (lit L i)) _ _ (by omega) (by omega) (pk_dec L d (i + lit L i) h3 (by omega))
        rw [hl] at this
        rw [pk_lit hi ht, show L.drop i = (L.drop i).take (lit L i) ++ L.drop (i + lit L i) by rw [← List.drop_drop, List.take_append_drop]]
        rw [show ((L.drop i).take (lit L i) ++ L.drop (i + lit L i)).take (lit L i) = (L.drop i).take (lit L i) by rw [← List.drop_drop, List.take_append_drop]]
        exact this
    · rw [pk_end (by omega), List.drop_of_length_le (by omega)]; exact .nil
theorem pack_dec (L : List UInt8) : Dec (pack L) L := by
  have := pk_dec L L.length 0 (by omega) (by omega)
  rw [List.drop_zero] at this
  exact this

/-! ### unpacked -/
def unF (L : List UInt8) (most : Int) : Nat → Nat → List UInt8 → List UInt8 × Int
  | 0, _, _ => ([], 0)
  | f + 1, i, out =>
    if i < L.length then
      if (at_ L i).toNat ≤ 127 then
        if L.length < i + 1 + ((at_ L i).toNat + 1) then ([], 5)
        else if most < (out.length : Int) + ((at_ L i).toNat + 1) then ([], 3)
        else unF L most f (i + (at_ L i).toNat + 2) (out ++ (L.drop (i + 1)).take ((at_ L i).toNat + 1))
      else
        if L.length < i + 2 then ([], 5)
        else if most < (out.length : Int) + ((at_ L i).toNat - 125) then ([], 3)
        else unF L most f (i + 2) (out ++ List.replicate ((at_ L i).toNat - 125) (at_ L (i + 1)))
    else (out, 0)
def unpack (L : List UInt8) (most : Int) : List UInt8 × Int := if most < 0 then ([], 2) else unF L most (L.length + 1) 0 []

theorem ofNat_toNat {n : Nat} (h : n < 256) : (UInt8.ofNat n).toNat = n := by simp; omega

theorem at_app (Q : List UInt8) (c : UInt8) (P : List UInt8) : at_ (Q ++ c :: P) Q.length = c := by
  rw [at_eq (by simp)]
  simp
theorem dec_unF {P X : List UInt8} (h : Dec P X) : ∀ (Q : List UInt8) (most : Int) (f : Nat) (out : List UInt8), P.length < f → (out.length : Int) ≤ most →
    unF (Q ++ P) most f Q.length out = if (out.length : Int) + X.length ≤ most then (out ++ X, 0) else ([], 3) := by
  induction h with
  | nil =>
    intro Q most f out hf ho
    obtain ⟨f, rfl⟩ : ∃ g, f = g + 1 := ⟨f - 1, by omega⟩
    rw [unF, if_neg (by simp), if_pos (by simpa using ho)]
    simp
  | lit xs P X h1 h2 _ ih =>
    intro Q most f out hf ho
    obtain ⟨f, rfl⟩ : ∃ g, f = g + 1 := ⟨f - 1, by omega⟩
    have hc := ofNat_toNat (n := xs.length - 1) (by omega)
    rw [unF, if_pos (by simp), at_app, hc, if_pos (by omega), if_neg (by simp; omega)]
    simp only [List.length_append]
    by_cases hm : most < (out.length : Int) + ((xs.length - 1 : Nat) + 1)
    · rw [if_pos hm, if_neg (by omega)]
    · rw [if_neg hm]
      have e1 : ((Q ++ UInt8.ofNat (xs.length - 1) :: (xs ++ P)).drop (Q.length + 1)).take (xs.length - 1 + 1) = xs := by
        rw [show Q.length + 1 = (Q ++ [UInt8.ofNat (xs.length - 1)]).length by simp, show Q ++ UInt8.ofNat (xs.length - 1) :: (xs ++ P) = (Q ++ [UInt8.ofNat (xs.length - 1)]) ++ (xs ++ P) by simp, List.drop_left, show xs.length - 1 + 1 = xs.length by omega, List.take_left]
      have hlt : P.length < f := by simp at hf; omega
      have e2 := ih (Q ++ UInt8.ofNat (xs.length - 1) :: xs) most f (out ++ xs) hlt (by rw [List.length_append]; omega)
      rw [e1]
      rw [show Q ++ UInt8.ofNat (xs.length - 1) :: (xs ++ P) = (Q ++ UInt8.ofNat (xs.length - 1) :: xs) ++ P by simp, show Q.length + (xs.length - 1) + 2 = (Q ++ UInt8.ofNat (xs.length - 1) :: xs).length by simp; omega, e2]
      simp only [List.length_append, List.append_assoc]
      by_cases hx : (out.length : Int) + (xs.length + X.length) ≤ most
      · rw [if_pos (by omega), if_pos (by omega)]
      · rw [if_neg (by omega), if_neg (by omega)]
  | run n b P X h1 h2 _ ih =>
    intro Q most f out hf ho
    obtain ⟨f, rfl⟩ : ∃ g, f = g + 1 := ⟨f - 1, by omega⟩
    have hc := ofNat_toNat (n := 125 + n) (by omega)
    rw [unF, if_pos (by simp), at_app, hc, if_neg (by omega), if_neg (by simp)]
    simp only [List.length_append, List.length_replicate]
    by_cases hm : most < (out.length : Int) + (((125 + n : Nat) : Int) - 125)
    · rw [if_pos hm, if_neg (by omega)]
    · rw [if_neg hm]
      have e1 : at_ (Q ++ UInt8.ofNat (125 + n) :: b :: P) (Q.length + 1) = b := by
        rw [show Q.length + 1 = (Q ++ [UInt8.ofNat (125 + n)]).length by simp, show Q ++ UInt8.ofNat (125 + n) :: b :: P = (Q ++ [UInt8.ofNat (125 + n)]) ++ b :: P by simp, at_app]
      have hlt : P.length < f := by simp at hf; omega
      have e2 := ih (Q ++ [UInt8.ofNat (125 + n), b]) most f (out ++ List.replicate n b) hlt (by rw [List.length_append, List.length_replicate]; omega)
      rw [e1, show 125 + n - 125 = n by omega]
      rw [show Q ++ UInt8.ofNat (125 + n) :: b :: P = (Q ++ [UInt8.ofNat (125 + n), b]) ++ P by simp, show Q.length + 2 = (Q ++ [UInt8.ofNat (125 + n), b]).length by simp, e2]
      simp only [List.length_append, List.length_replicate, List.append_assoc]
      by_cases hx : (out.length : Int) + (n + X.length) ≤ most
      · rw [if_pos (by omega), if_pos (by omega)]
      · rw [if_neg (by omega), if_neg (by omega)]
theorem dec_unpack {P X : List UInt8} (h : Dec P X) (most : Int) (hm : 0 ≤ most) : unpack P most = if (X.length : Int) ≤ most then (X, 0) else ([], 3) := by
  have := dec_unF h [] most (P.length + 1) [] (by omega) (by simpa using hm)
  unfold unpack
  rw [if_neg (by omega)]
  simpa using this
theorem unpack_back (L : List UInt8) : unpack (pack L) L.length = (L, 0) := by
  rw [dec_unpack (pack_dec L) _ (by omega), if_pos (Int.le_refl _)]
theorem unpack_less (L : List UInt8) (m : Int) (h0 : 0 ≤ m) (h : m < L.length) : unpack (pack L) m = ([], 3) := by
  rw [dec_unpack (pack_dec L) _ h0, if_neg (by omega)]
theorem unpack_join (A B : List UInt8) : unpack (pack A ++ pack B) ((A.length : Int) + B.length) = (A ++ B, 0) := by
  rw [dec_unpack ((pack_dec A).append (pack_dec B)) _ (by omega), if_pos (by simp)]
end Go.Proofs.Ytnbihffkaagmjaa.Pl
