/-
  The plain law: what was packed is unpacked; a text that stands twice takes little more than once.
-/
import Derived.Test.YthahflokacgjjaaK
namespace Go.Proofs.Ythahflokacgjjaa.Pl

theorem ofNat_toNat {n : Nat} (h : n < 256) : (UInt8.ofNat n).toNat = n := by simp; omega
theorem at_app (Q : List UInt8) (c : UInt8) (P : List UInt8) : at_ (Q ++ c :: P) Q.length = c := by
  rw [at_eq (by simp)]
  simp

/-- behind K the pieces P say X -/
inductive Dec : List UInt8 → List UInt8 → List UInt8 → Prop
  | nil (K : List UInt8) : Dec K [] []
  | lit (K xs P X : List UInt8) : 1 ≤ xs.length → xs.length ≤ 128 → Dec (K ++ xs) P X → Dec K (UInt8.ofNat (xs.length - 1) :: (xs ++ P)) (xs ++ X)
  | mat (K ys P X : List UInt8) (n d : Nat) : 4 ≤ n → n ≤ 130 → d < 32768 → d + 1 ≤ K.length → copy K d n = K ++ ys → Dec (K ++ ys) P X → Dec K (UInt8.ofNat (n + 124) :: UInt8.ofNat (d / 256) :: UInt8.ofNat (d % 256) :: P) (ys ++ X)

theorem dec_unF {K P X : List UInt8} (h : Dec K P X) : ∀ (Q : List UInt8) (most : Int) (f : Nat), P.length < f → (K.length : Int) ≤ most + 68 →
    unF (Q ++ P) most f Q.length K = if (K.length : Int) + X.length ≤ most + 68 then ((K ++ X).drop 68, 0) else ([], 3) := by
  induction h with
  | nil K =>
    intro Q most f hf ho
    obtain ⟨f, rfl⟩ : ∃ g, f = g + 1 := ⟨f - 1, by omega⟩
    rw [unF, if_neg (by simp), if_pos (by simpa using ho)]
    simp
  | lit K xs P X h1 h2 _ ih =>
    intro Q most f hf ho
    obtain ⟨f, rfl⟩ : ∃ g, f = g + 1 := ⟨f - 1, by omega⟩
    have hc := ofNat_toNat (n := xs.length - 1) (by omega)
    rw [unF, if_pos (by simp), at_app, hc, if_neg (by omega), if_pos (by omega), if_neg (by simp; omega)]
    simp only [List.length_append]
    by_cases hm : most + 68 < (K.length : Int) + ((xs.length - 1 : Nat) + 1)
    · rw [if_pos hm, if_neg (by omega)]
    · rw [if_neg hm]
      have e1 : ((Q ++ UInt8.ofNat (xs.length - 1) :: (xs ++ P)).drop (Q.length + 1)).take (xs.length - 1 + 1) = xs := by
        rw [show Q.length + 1 = (Q ++ [UInt8.ofNat (xs.length - 1)]).length by simp, show Q ++ UInt8.ofNat (xs.length - 1) :: (xs ++ P) = (Q ++ [UInt8.ofNat (xs.length - 1)]) ++ (xs ++ P) by simp, List.drop_left, show xs.length - 1 + 1 = xs.length by omega, List.take_left]
      have hlt : P.length < f := by simp at hf; omega
      have e2 := ih (Q ++ UInt8.ofNat (xs.length - 1) :: xs) most f hlt (by rw [List.length_append]; omega)
      rw [e1]
      rw [show Q ++ UInt8.ofNat (xs.length - 1) :: (xs ++ P) = (Q ++ UInt8.ofNat (xs.length - 1) :: xs) ++ P by simp, show Q.length + (xs.length - 1) + 2 = (Q ++ UInt8.ofNat (xs.length - 1) :: xs).length by simp; omega, e2]
      simp only [List.length_append, List.append_assoc]
      by_cases hx : (K.length : Int) + (xs.length + X.length) ≤ most + 68
      · rw [if_pos (by omega), if_pos (by omega)]
      · rw [if_neg (by omega), if_neg (by omega)]
  | mat K ys P X n d h1 h2 h3 h4 hcp _ ih =>
    intro Q most f hf ho
    obtain ⟨f, rfl⟩ : ∃ g, f = g + 1 := ⟨f - 1, by omega⟩
    have hc := ofNat_toNat (n := n + 124) (by omega)
    have hd1 := ofNat_toNat (n := d / 256) (by omega)
    have hd2 := ofNat_toNat (n := d % 256) (by omega)
    have hyl : ys.length = n := by
      have := congrArg List.length hcp
      rw [copy_len, List.length_append] at this
      omega
    have e1 : at_ (Q ++ UInt8.ofNat (n + 124) :: UInt8.ofNat (d / 256) :: UInt8.ofNat (d % 256) :: P) (Q.length + 1) = UInt8.ofNat (d / 256) := by
      rw [show Q.length + 1 = (Q ++ [UInt8.ofNat (n + 124)]).length by simp, show Q ++ UInt8.ofNat (n + 124) :: UInt8.ofNat (d / 256) :: UInt8.ofNat (d % 256) :: P = (Q ++ [UInt8.ofNat (n + 124)]) ++ UInt8.ofNat (d / 256) :: UInt8.ofNat (d % 256) :: P by simp, at_app]
    have e2 : at_ (Q ++ UInt8.ofNat (n + 124) :: UInt8.ofNat (d / 256) :: UInt8.ofNat (d % 256) :: P) (Q.length + 2) = UInt8.ofNat (d % 256) := by
      rw [show Q.length + 2 = (Q ++ [UInt8.ofNat (n + 124), UInt8.ofNat (d / 256)]).length by simp, show Q ++ UInt8.ofNat (n + 124) :: UInt8.ofNat (d / 256) :: UInt8.ofNat (d % 256) :: P = (Q ++ [UInt8.ofNat (n + 124), UInt8.ofNat (d / 256)]) ++ UInt8.ofNat (d % 256) :: P by simp, at_app]
    rw [unF, if_pos (by simp), at_app, hc, if_neg (by omega), if_neg (by omega), if_neg (by simp), e1, e2, hd1, hd2, show d / 256 * 256 + d % 256 = d by omega, if_neg (by omega)]
    by_cases hm : most + 68 < (K.length : Int) + (((n + 124 : Nat) : Int) - 124)
    · rw [if_pos hm, if_neg (by rw [List.length_append]; omega)]
    · rw [if_neg hm]
      have hlt : P.length < f := by simp at hf; omega
      have e3 := ih (Q ++ [UInt8.ofNat (n + 124), UInt8.ofNat (d / 256), UInt8.ofNat (d % 256)]) most f hlt (by rw [List.length_append]; omega)
      rw [show n + 124 - 124 = n by omega, hcp]
      rw [show Q ++ UInt8.ofNat (n + 124) :: UInt8.ofNat (d / 256) :: UInt8.ofNat (d % 256) :: P = (Q ++ [UInt8.ofNat (n + 124), UInt8.ofNat (d / 256), UInt8.ofNat (d % 256)]) ++ P by simp, show Q.length + 3 = (Q ++ [UInt8.ofNat (n + 124), UInt8.ofNat (d / 256), UInt8.ofNat (d % 256)]).length by simp, e3]
      simp only [List.length_append, List.append_assoc]
      by_cases hx : (K.length : Int) + (ys.length + X.length) ≤ most + 68
      · rw [if_pos (by omega), if_pos (by omega)]
      · rw [if_neg (by omega), if_neg (by omega)]

theorem take_more (L : List UInt8) (f a : Nat) (h : f ≤ a) : L.take f ++ (L.drop f).take (a - f) = L.take a := by
  rw [← List.take_add, show f + (a - f) = a by omega]
theorem drop_more (L : List UInt8) (f a : Nat) (h : f ≤ a) : (L.drop f).take (a - f) ++ L.drop a = L.drop f := by
  have := List.take_append_drop (a - f) (L.drop f)
  rw [List.drop_drop, show f + (a - f) = a by omega] at this
  exact this

theorem dec_stretch {L P : List UInt8} {f a : Nat} (hf : f ≤ a) (ha : a ≤ L.length) (h128 : a - f ≤ 128) (h : Dec (L.take a) P (L.drop a)) : Dec (L.take f) (stretch L f a ++ P) (L.drop f) := by
  unfold stretch
  by_cases hlt : f < a
  · rw [if_pos hlt]
    have hl : ((L.drop f).take (a - f)).length = a - f := by rw [List.length_take, List.length_drop]; omega
    have := Dec.lit (L.take f) ((L.drop f).take (a - f)) P (L.drop a) (by omega) (by omega) (by rw [take_more L f a hf]; exact h)
    rw [hl, drop_more L f a hf] at this
    exact this
  · rw [if_neg hlt]
    obtain rfl : f = a := by omega
    exact h

theorem at_take {L : List UInt8} {n i : Nat} (h : i < n) : at_ (L.take n) i = at_ L i := by
  unfold at_
  rw [List.getD_eq_getElem?_getD, List.getElem?_take, if_pos h, ← List.getD_eq_getElem?_getD]

theorem copy_match {L : List UInt8} {a d n : Nat} (hd : d + 1 ≤ a) (hn : a + n ≤ L.length) (h : ∀ j, j < n → at_ L (a - (d + 1) + j) = at_ L (a + j)) : ∀ j, j ≤ n → copy (L.take a) d j = L.take (a + j)
  | 0, _ => rfl
  | j + 1, hj => by
    rw [copy, copy_match hd hn h j (by omega)]
    have hl : (L.take (a + j)).length = a + j := by rw [List.length_take]; omega
    rw [hl, at_take (by omega), show a + j - d - 1 = a - (d + 1) + j by omega, h j (by omega), show a + (j + 1) = a + j + 1 by omega, List.take_add_one, at_eq (by omega), List.getElem?_eq_getElem (by omega)]
    rfl

theorem pack_dec (L : List UInt8) : ∀ g a f xs, f ≤ a → a ≤ L.length → a - f < 128 → L.length - a < g → ∃ P, packF L g a f xs = xs ++ P ∧ Dec (L.take f) P (L.drop f)
  | 0, a, f, xs, _, _, _, hg => by omega
  | g + 1, a, f, xs, hf, ha, h128, hg => by
    unfold packF
    by_cases hlt : a < L.length
    · rw [if_pos hlt]
      by_cases hb : (best L a).1 < 4
      · rw [if_pos hb]
        by_cases h1 : a + 1 - f = 128
        · rw [if_pos h1]
          obtain ⟨P, h2, h3⟩ := pack_dec L g (a + 1) (a + 1) (xs ++ stretch L f (a + 1)) (Nat.le_refl _) hlt (by omega) (by omega)
          exact ⟨stretch L f (a + 1) ++ P, by rw [h2, List.append_assoc], dec_stretch (by omega) hlt (by omega) h3⟩
        · rw [if_neg h1]
          exact pack_dec L g (a + 1) f xs (by omega) hlt (by omega) (by omega)
      · rw [if_neg hb]
        have hr := best_room L a ha
        have hk := best_back (L := L) (a := a) (by omega)
        obtain ⟨P, h2, h3⟩ := pack_dec L g (a + (best L a).1) (a + (best L a).1) (xs ++ stretch L f a ++ three (best L a)) (Nat.le_refl _) hr.1 (by omega) (by omega)
        refine ⟨stretch L f a ++ (three (best L a) ++ P), by rw [h2]; simp, dec_stretch hf ha (by omega) ?_⟩
        have hcp := copy_match (L := L) (a := a) (d := (best L a).2 - 1) (n := (best L a).1) (by omega) hr.1 (fun j hj => by
          rw [show a - ((best L a).2 - 1 + 1) = a - (best L a).2 by omega]
          exact mt_eq L a _ j (by rw [hk.2.2]; exact hj)) _ (Nat.le_refl _)
        rw [← take_more L a (a + (best L a).1) (by omega)] at hcp
        have := Dec.mat (L.take a) _ P (L.drop (a + (best L a).1)) (best L a).1 ((best L a).2 - 1) (by omega) hr.2 (by omega) (by rw [List.length_take]; omega) hcp (by rw [take_more L a _ (by omega)]; exact h3)
        rw [drop_more L a _ (by omega)] at this
        exact this
    · rw [if_neg hlt]
      obtain rfl : a = L.length := by omega
      refine ⟨stretch L f L.length, rfl, ?_⟩
      have := dec_stretch (L := L) (P := []) hf (Nat.le_refl _) (by omega) (by rw [List.drop_length]; exact Dec.nil _)
      rwa [List.append_nil] at this

theorem stat_len68 : stat.length = 68 := rfl
theorem pack_is (s : List UInt8) : Dec stat (pack s) s := by
  obtain ⟨P, h1, h2⟩ := pack_dec (stat ++ s) (s.length + 1) 68 68 [] (Nat.le_refl _) (by rw [List.length_append, stat_len68]; omega) (by omega) (by rw [List.length_append, stat_len68]; omega)
  have e1 : (stat ++ s).take 68 = stat := List.take_left (l₁ := stat) (l₂ := s)
  have e2 : (stat ++ s).drop 68 = s := List.drop_left (l₁ := stat) (l₂ := s)
  rw [e1, e2] at h2
  unfold pack
  rw [h1]
  exact h2
theorem unpack_pack (s : List UInt8) (most : Int) (hm : 0 ≤ most) : unpack (pack s) most = if (s.length : Int) ≤ most then (s, 0) else ([], 3) := by
  have := dec_unF (pack_is s) [] most ((pack s).length + 1) (by omega) (by rw [stat_len68]; omega)
  unfold unpack
  rw [if_neg (by omega)]
  rw [List.nil_append, show ([] : List UInt8).length = 0 from rfl, stat_len68, show (stat ++ s).drop 68 = s from List.drop_left (l₁ := stat) (l₂ := s)] at this
  rw [this]
  by_cases h : (s.length : Int) ≤ most
  · rw [if_pos h, if_pos (by omega)]
  · rw [if_neg h, if_neg (by omega)]

/-! ### twice -/
theorem mtF_congr {L M : List UInt8} {a p : Nat} (h : ∀ j, j < 130 → at_ L (p + j) = at_ M (p + j) ∧ at_ L (a + j) = at_ M (a + j)) : ∀ f k, k + f ≤ 130 → mtF L a p f k = mtF M a p f k
  | 0, _, _ => rfl
  | f + 1, k, hk => by
    unfold mtF
    rw [(h k (by omega)).1, (h k (by omega)).2, mtF_congr h f (k + 1) (by omega)]
theorem best_congr {L M : List UInt8} {a : Nat} (hL : a + 130 ≤ L.length) (hM : a + 130 ≤ M.length) (h : ∀ i, i < a + 130 → at_ L i = at_ M i) : best L a = best M a := by
  have hmt : ∀ d, mt L a (a - d) = mt M a (a - d) := fun d => by
    unfold mt mo
    rw [show min 130 (L.length - a) = 130 by omega, show min 130 (M.length - a) = 130 by omega]
    exact mtF_congr (fun j hj => ⟨h _ (by omega), h _ (by omega)⟩) 130 0 (by omega)
  have hF : ∀ f d q, bstF L a f d q = bstF M a f d q := by
    intro f
    induction f with
    | zero => intros; rfl
    | succ f ih =>
      intro d q
      unfold bstF
      rw [ih, upd, upd, hmt]
  exact hF _ _ _
theorem stretch_congr {L M : List UInt8} {f t : Nat} (hL : t ≤ L.length) (hM : t ≤ M.length) (h : ∀ i, i < t → at_ L i = at_ M i) : stretch L f t = stretch M f t := by
  unfold stretch
  by_cases hft : f < t
  · rw [if_pos hft, if_pos hft]
    congr 1
    apply List.ext_getElem?
    intro j
    simp only [List.getElem?_take, List.getElem?_drop]
    by_cases hj : j < t - f
    · rw [if_pos hj, if_pos hj, at_get (by omega), at_get (by omega), h _ (by omega)]
    · rw [if_neg hj, if_neg hj]
  · rw [if_neg hft, if_neg hft]

theorem packF_ge (L : List UInt8) : ∀ g a f xs, f ≤ a → a ≤ L.length → L.length - a < g → xs.length + (a - f) + (if f < L.length then 1 else 0) ≤ (packF L g a f xs).length
  | 0, a, f, xs, _, _, hg => by omega
  | g + 1, a, f, xs, hf, ha, hg => by
    unfold packF
    by_cases hlt : a < L.length
    · rw [if_pos hlt]
      by_cases hb : (best L a).1 < 4
      · rw [if_pos hb]
        by_cases h1 : a + 1 - f = 128
        · rw [if_pos h1]
          have := packF_ge L g (a + 1) (a + 1) (xs ++ stretch L f (a + 1)) (Nat.le_refl _) hlt (by omega)
          rw [List.length_append, stretch_len _ _ _ hlt, if_pos (by omega)] at this
          rw [if_pos (by omega)]
          omega
        · rw [if_neg h1]
          have := packF_ge L g (a + 1) f xs (by omega) hlt (by omega)
          rw [if_pos (by omega)] at this ⊢
          omega
      · rw [if_neg hb]
        have hr := best_room L a ha
        have := packF_ge L g (a + (best L a).1) (a + (best L a).1) (xs ++ stretch L f a ++ three (best L a)) (Nat.le_refl _) hr.1 (by omega)
        have h3 : (three (best L a)).length = 3 := rfl
        rw [List.length_append, List.length_append, stretch_len _ _ _ ha, h3] at this
        rw [if_pos (by omega)]
        split at this <;> omega
    · rw [if_neg hlt, List.length_append, stretch_len _ _ _ ha]
      split <;> split <;> omega

/-- where a text stands for the second time -/
theorem packF_tail {M : List UInt8} {m N : Nat} (hM : M.length = m + N) (hmN : N ≤ m) (hN : N ≤ 32768) (hper : ∀ i, m ≤ i → i < m + N → at_ M i = at_ M (i - N)) :
    ∀ g a f xs, f ≤ a → m ≤ a → a ≤ M.length → a - f < 128 → M.length - a < g →
    (packF M g a f xs).length ≤ xs.length + (a - f) + (if f < a then 1 else 0) + 3 * ((M.length - a + 129) / 130) + 1
  | 0, a, f, xs, _, _, _, _, hg => by omega
  | g + 1, a, f, xs, hf, hm, ha, h128, hg => by
    by_cases h4 : M.length - a < 4
    · have := packF_little M (g + 1) a f xs hf ha h128 hg
      split <;> omega
    · have hbest : mo M a ≤ (best M a).1 := by
        refine Nat.le_trans ?_ (best_ge (L := M) (a := a) (d := N) (by omega) (by omega))
        refine mt_ge (Nat.le_refl _) (fun j hj => ?_)
        unfold mo at hj
        rw [hper (a + j) (by omega) (by omega), show a + j - N = a - N + j by omega]
      have hb2 := best_le M a
      have hmo : mo M a = min 130 (M.length - a) := rfl
      unfold packF
      have hr := best_room M a ha
      rw [if_pos (by omega), if_neg (by omega)]
      have := packF_tail hM hmN hN hper g (a + (best M a).1) (a + (best M a).1) (xs ++ stretch M f a ++ three (best M a)) (Nat.le_refl _) (by omega) hr.1 (by omega) (by omega)
      have h3 : (three (best M a)).length = 3 := rfl
      rw [List.length_append, List.length_append, stretch_len _ _ _ ha, h3, if_neg (Nat.lt_irrefl _)] at this
      have e : 3 * ((M.length - (a + (best M a).1) + 129) / 130) + 3 ≤ 3 * ((M.length - a + 129) / 130) := by omega
      split at this <;> split <;> omega

theorem packF_near {M : List UInt8} {m N : Nat} (hM : M.length = m + N) (hmN : N ≤ m) (hN : N ≤ 32768) (hper : ∀ i, m ≤ i → i < m + N → at_ M i = at_ M (i - N)) :
    ∀ g a f xs, f ≤ a → a ≤ m → a - f < 128 → M.length - a < g →
    (packF M g a f xs).length ≤ xs.length + (m - f) + (m - f + 127) / 128 + 3 * ((N + 129) / 130) + 3
  | 0, a, f, xs, _, _, _, hg => by omega
  | g + 1, a, f, xs, hf, ha, h128, hg => by
    by_cases hlt : a < m
    · unfold packF
      rw [if_pos (by omega)]
      by_cases hb : (best M a).1 < 4
      · rw [if_pos hb]
        by_cases h1 : a + 1 - f = 128
        · rw [if_pos h1]
          have := packF_near hM hmN hN hper g (a + 1) (a + 1) (xs ++ stretch M f (a + 1)) (Nat.le_refl _) hlt (by omega) (by omega)
          rw [List.length_append, stretch_len _ _ _ (by omega), if_pos (by omega)] at this
          omega
        · rw [if_neg h1]
          exact packF_near hM hmN hN hper g (a + 1) f xs (by omega) hlt (by omega) (by omega)
      · rw [if_neg hb]
        have hr := best_room M a (by omega)
        have h3 : (three (best M a)).length = 3 := rfl
        by_cases hin : a + (best M a).1 ≤ m
        · have := packF_near hM hmN hN hper g (a + (best M a).1) (a + (best M a).1) (xs ++ stretch M f a ++ three (best M a)) (Nat.le_refl _) hin (by omega) (by omega)
          rw [List.length_append, List.length_append, stretch_len _ _ _ (by omega), h3] at this
          split at this <;> omega
        · have := packF_tail hM hmN hN hper g (a + (best M a).1) (a + (best M a).1) (xs ++ stretch M f a ++ three (best M a)) (Nat.le_refl _) (by omega) hr.1 (by omega) (by omega)
          rw [List.length_append, List.length_append, stretch_len _ _ _ (by omega), h3, if_neg (Nat.lt_irrefl _)] at this
          have e : 3 * ((M.length - (a + (best M a).1) + 129) / 130) ≤ 3 * ((N + 129) / 130) := by omega
          split at this <;> omega
    · obtain rfl : a = m := by omega
      have := packF_tail hM hmN hN hper (g + 1) a f xs hf (Nat.le_refl _) (by omega) h128 hg
      rw [show M.length - a = N by omega] at this
      split at this <;> omega

theorem packF_both {L M : List UInt8} {m N : Nat} (hL : L.length = m) (hM : M.length = m + N) (hmN : N ≤ m) (hN : N ≤ 32768) (hper : ∀ i, m ≤ i → i < m + N → at_ M i = at_ M (i - N)) (hpre : ∀ i, i < m → at_ L i = at_ M i) :
    ∀ g a f xs g2, f ≤ a → a ≤ m → a - f < 128 → m - a < g → M.length - a < g2 → (packF M g2 a f xs).length ≤ (packF L g a f xs).length + 3 * ((N + 129) / 130) + 133
  | 0, a, f, xs, g2, _, _, _, hg, _ => by omega
  | g + 1, a, f, xs, g2, hf, ha, h128, hg, hg2 => by
    by_cases hfar : a + 130 ≤ m
    · obtain ⟨g2, rfl⟩ : ∃ k, g2 = k + 1 := ⟨g2 - 1, by omega⟩
      have hbe : best M a = best L a := best_congr (by omega) (by omega) (fun i hi => (hpre i (by omega)).symm)
      unfold packF
      rw [if_pos (show a < M.length by omega), if_pos (show a < L.length by omega), hbe, stretch_congr (L := M) (M := L) (f := f) (t := a) (by omega) (by omega) (fun i hi => (hpre i (by omega)).symm), stretch_congr (L := M) (M := L) (f := f) (t := a + 1) (by omega) (by omega) (fun i hi => (hpre i (by omega)).symm)]
      by_cases hb : (best L a).1 < 4
      · rw [if_pos hb, if_pos hb]
        by_cases h1 : a + 1 - f = 128
        · rw [if_pos h1, if_pos h1]
          exact packF_both hL hM hmN hN hper hpre g (a + 1) (a + 1) _ g2 (Nat.le_refl _) (by omega) (by omega) (by omega) (by omega)
        · rw [if_neg h1, if_neg h1]
          exact packF_both hL hM hmN hN hper hpre g (a + 1) f _ g2 (by omega) (by omega) (by omega) (by omega) (by omega)
      · rw [if_neg hb, if_neg hb]
        have hr := best_room L a (by omega)
        exact packF_both hL hM hmN hN hper hpre g (a + (best L a).1) (a + (best L a).1) _ g2 (Nat.le_refl _) (by omega) (by omega) (by omega) (by omega)
    · have h1 := packF_near hM hmN hN hper g2 a f xs hf ha h128 hg2
      have h2 := packF_ge L (g + 1) a f xs hf (by omega) (by omega)
      split at h2 <;> omega

theorem at_left {A B : List UInt8} {i : Nat} (h : i < A.length) : at_ (A ++ B) i = at_ A i := by
  rw [at_eq (by rw [List.length_append]; omega), at_eq h, List.getElem_append_left]
theorem at_right {A B : List UInt8} {i : Nat} (h : A.length ≤ i) (hi : i < A.length + B.length) : at_ (A ++ B) i = at_ B (i - A.length) := by
  rw [at_eq (by rw [List.length_append]; omega), at_eq (by omega), List.getElem_append_right h]

theorem pack_again (s : List UInt8) (hs : s.length ≤ 32768) : (pack (s ++ s)).length ≤ (pack s).length + 3 * ((s.length + 129) / 130) + 133 := by
  have hl : (stat ++ s).length = 68 + s.length := by rw [List.length_append, stat_len68]
  have hl2 : (stat ++ (s ++ s)).length = 68 + s.length + s.length := by rw [List.length_append, List.length_append, stat_len68]; omega
  refine packF_both (L := stat ++ s) (M := stat ++ (s ++ s)) (m := 68 + s.length) (N := s.length) hl hl2 (by omega) hs ?_ ?_ (s.length + 1) 68 68 [] ((s ++ s).length + 1) (Nat.le_refl _) (by omega) (by omega) (by omega) (by rw [hl2, List.length_append]; omega)
  · intro i h1 h2
    rw [← List.append_assoc, at_right (A := stat ++ s) (by omega) (by omega), at_left (by omega), hl, at_right (by rw [stat_len68]; omega) (by rw [stat_len68]; omega), stat_len68]
    congr 1
    omega
  · intro i hi
    rw [← List.append_assoc, at_left (A := stat ++ s) (by omega)]
end Go.Proofs.Ythahflokacgjjaa.Pl
