/-
  window.longest: the search among the places where the same four bytes stand.
-/
import Derived.Test.YthahflokacgjjaaG
import Derived.Test.YthahflokacgjjaaB
import Derived.WalkMore
import Derived.ScopeJumps
namespace Go.Proofs.Ythahflokacgjjaa.WinP
open Go.RowKit Go.WinLaws Go.Maps Go.Proofs.Ythahflokacgjjaa.Pl
set_option linter.unusedVariables false

/-- a scope that jumps back to one label, which the first pass meets, too -/
theorem scope_once {P : Program} {a : Act} {w : World} {Q : Exit → Act → World → Prop} {c rest : Code} (l : Nat) (J : Act → World → Prop) (μ : Act → World → Nat) (hf : findLabel c l = some (Code.skip.seq rest))
    (pass : ∀ a w, J a w → rest.wp P (Exit.jump l (fun a' w' => J a' w' ∧ μ a' w' < μ a w) Q) a w)
    (first : (∀ a w, J a w → rest.wp P (Exit.jump l J Q) a w) → c.wp P (Exit.jump l J Q) a w) : (Code.scope c).wp P Q a w := by
  refine wp_scope_jumps l J μ hf (first fun a1 w1 h1 => wp_mono (pass a1 w1 h1) ?_) (fun a1 w1 h1 => wp_seq (wp_skip (pass a1 w1 h1)))
  intro e a2 w2 h2
  cases e with
  | goto l' => exact ⟨h2.1, h2.2.1⟩
  | normal => exact h2
  | exit id => exact h2
  | ret => exact h2
  | panic ch => exact h2
  | outgrown => exact h2

theorem ups_len {a : Nat} {ps : List Nat} (hu : Ups a ps) : ps.length ≤ a := by
  have h : ∀ i, i < ps.length → i ≤ ps.getD i 0 := by
    intro i
    induction i with
    | zero => intro _; exact Nat.zero_le _
    | succ i ih => intro hi; have := ih (by omega); have := hu.up i (i + 1) (by omega) hi; omega
  rcases Nat.eq_zero_or_pos ps.length with h0 | hp
  · omega
  · have h1 := h (ps.length - 1) (by omega)
    have h2 := hu.lt (ps.length - 1) (by omega)
    omega

theorem drewN_more {w w1 : World} (h : ∃ q, w1 = w.drewN q) (n : Nat) : ∃ q, w1.drewN n = w.drewN q := by
  obtain ⟨q, rfl⟩ := h
  exact ⟨q + n, by simp⟩

def LJ (w0 : World) (s : ByteArray) (a : Nat) (v : Value) (ps : List Nat) (R : Nat × Nat) (m : Nat) (a' : Act) (w' : World) : Prop :=
  ∃ (j n b : Nat) (z nz bz : Int) (u3 u4 u5 u6 u7 u12 u13 u14 u15 u16 u17 u18 u19 u20 u21 u22 u23 u24 u25 u26 u27 u28 u29 u30 u31 u32 u33 u34 u35 u36 u37 u38 u39 u40 u41 u42 u43 u44 u45 u46 u47 u48 u49 u50 u51 u52 u53 u54 u55 u56 u57 u58 u59 u60 u61 u62 u63 u64 u65 u66 u67 u68 u69 u70 u71 : Value), a' = { tmps := #[.string s, .int .i64 a, v, u3, u4, u5, u6, u7, .int .i64 m, .int .i64 nz, .int .i64 bz, .int .i64 z, u12, u13, u14, u15, u16, u17, u18, u19, u20, u21, u22, u23, u24, u25, u26, u27, u28, u29, u30, u31, u32, u33, u34, u35, u36, u37, u38, u39, u40, u41, u42, u43, u44, u45, u46, u47, u48, u49, u50, u51, u52, u53, u54, u55, u56, u57, u58, u59, u60, u61, u62, u63, u64, u65, u66, u67, u68, u69, u70, u71], defers := [] } ∧
    z = (j : Int) - 1 ∧ nz = (n : Int) ∧ bz = (b : Int) ∧ j ≤ ps.length ∧ n ≤ m ∧ b ≤ 1073741824 ∧ Kp (lonI s.data.toList a ps j (n, b) = R) ∧ ∃ q, w' = w0.drewN q

set_option maxRecDepth 100000 in
set_option maxHeartbeats 8000000 in
theorem longest_any (s : ByteArray) (a : Nat) (ps : List Nat) (v : Value) (base : Nat) (w : World) (hown : w.ownsRow base 3 1 v ps.length (ints (ps.map Int.ofNat))) (hu : Ups a ps) (ha : a ≤ s.size) (hs : s.size ≤ 1073741824) :
    Calls Try.prog 17 #[.string s, .int .i64 a, v] w fun e w' => e = .returned (.tuple #[.int .i64 (lon s.data.toList a ps).1, .int .i64 (lon s.data.toList a ps).2]) ∧ ∃ q, w' = w.drewN q := by
  have Hl : Kp (s.data.toList.length = s.size) := ⟨by rw [Array.length_toList]; rfl⟩
  obtain ⟨R, hR⟩ : ∃ R, lon s.data.toList a ps = R := ⟨_, rfl⟩
  have HR := Kp.mk hR
  rw [hR]
  clear hR
  obtain ⟨m, hm⟩ : ∃ m, mo s.data.toList a = m := ⟨_, rfl⟩
  have Hm := Kp.mk hm
  have hm2 : m = min 130 (s.size - a) := by rw [← hm, mo, Hl.out]
  have hm130 : m ≤ 130 := by omega
  have hma : a + m ≤ s.size := by omega
  have Hm2 := Kp.mk hm2
  clear hm hm2
  have hw0 : IntKind.i64.wrap ((s.size : Int) - a) = (s.size : Int) - a := IntWalk.i64_in _ (by omega)
  obtain ⟨A, c, hv⟩ : ∃ A c, v = .slice A ps.length c := by
    rcases hown.2 with ⟨rfl, h0⟩ | ⟨g, cap, cur, rfl, _⟩
    · exact ⟨none, 0, by rw [h0]⟩
    · exact ⟨_, _, rfl⟩
  have Hown := Kp.mk hown
  have hlen : ps.length ≤ a := ups_len hu
  have hw1 : IntKind.i64.wrap ((ps.length : Int) - 1) = (ps.length : Int) - 1 := IntWalk.i64_in _ (by omega)
  clear hown
  go_enter Try.func17, Try.ntmps17
  go_wp2_with fail
  refine scope_once 0 (LJ w s a v ps R m) (fun a' _ => (intOf (a'.tmps.getD 11 undef) + 1).toNat) rfl ?pass ?firstx
  case pass =>
    rintro a1 w1 ⟨j, n, b, z, nz, bz, u3, u4, u5, u6, u7, u12, u13, u14, u15, u16, u17, u18, u19, u20, u21, u22, u23, u24, u25, u26, u27, u28, u29, u30, u31, u32, u33, u34, u35, u36, u37, u38, u39, u40, u41, u42, u43, u44, u45, u46, u47, u48, u49, u50, u51, u52, u53, u54, u55, u56, u57, u58, u59, u60, u61, u62, u63, u64, u65, u66, u67, u68, u69, u70, u71, rfl, hz, rfl, rfl, hj, hn, hb, HJ, hbl⟩
    have Hbl := Kp.mk hbl
    clear hbl
    by_cases hj0 : j = 0
    · subst hj0
      subst hv
      have hneg : decide (z < 0) = true := by simp; omega
      clear hz
      have hR : R = (n, b) := HJ.out.symm
      subst hR
      dsimp only
      go_wp2_with fail
      try simp only [Exit.jump]
      refine bodyPost_ret (results_tmp2 rfl _ _ _) rfl ?_
      exact ⟨rfl, Hbl.out⟩
    · obtain ⟨i, rfl⟩ : ∃ i, j = i + 1 := ⟨j - 1, by omega⟩
      obtain rfl : z = (i : Int) := by omega
      clear hz hj0
      have hneg : decide ((i : Int) < 0) = false := by simp
      obtain ⟨p, hp⟩ : ∃ p, ps.getD i 0 = p := ⟨_, rfl⟩
      have hpa : p < a := by rw [← hp]; exact hu.lt i (by omega)
      obtain ⟨g, hA⟩ : ∃ g, A = some ⟨g, 0, none⟩ := by
        rcases Hown.out.2 with ⟨h1, h0⟩ | ⟨g, cap, cur, h1, _⟩
        · omega
        · rw [hv] at h1
          simp only [Value.slice.injEq] at h1
          exact ⟨g, h1.1⟩
      have Hc0 : Kp (∀ wr, (∃ q, wr = w.drewN q) → wr.cell? ⟨g, i, none⟩ = some (.int .i64 p)) := ⟨fun wr hk => by
        obtain ⟨q, rfl⟩ := hk
        show w.cell? ⟨g, i, none⟩ = _
        have := Hown.out.cells (g := g) (by rw [hv, hA]; rfl) i (.int .i64 p) (by
          rw [ints, List.map_map, List.getElem?_map, List.getElem?_eq_getElem (by omega), ← hp, List.getD_eq_getElem?_getD, List.getElem?_eq_getElem (by omega)]
          rfl)
        rw [Addr.add_lit, Nat.zero_add] at this
        exact this⟩
      subst hA
      subst hv
      have g0 : (0 : Int) ≤ i := by omega
      have g1 : (i : Int) < ps.length := by omega
      have hw2 : IntKind.i64.wrap ((a : Int) - p) = (a : Int) - p := IntWalk.i64_in _ (by omega)
      have c0 := Hc0.out w1 Hbl.out
      have HJ1 := HJ.out
      rw [lonI, hp] at HJ1
      have Hp := Kp.mk hp
      clear hp
      by_cases hfar : 32768 < a - p
      · have hfar' : decide (32768 < (a : Int) - p) = true := by simp; omega
        rw [if_pos hfar] at HJ1
        subst HJ1
        go_wp2_with fail
        try simp only [Exit.jump]
        refine bodyPost_ret (results_tmp2 rfl _ _ _) rfl ?_
        exact ⟨rfl, Hbl.out⟩
      · have hfar' : decide (32768 < (a : Int) - p) = false := by simp; omega
        rw [if_neg hfar, Hm.out] at HJ1
        have HJ2 := Kp.mk HJ1
        clear HJ1
        have Hmt0 : Kp (mtF s.data.toList a p m 0 = Pl.mt s.data.toList a p) := ⟨by rw [Pl.mt, Hm.out]⟩
        go_wp2_with fail
        go_loopw [12] (fun v12 wr => ∃ k : Nat, v12 = .int .i64 k ∧ k ≤ m ∧ Kp (mtF s.data.toList a p (m - k) k = Pl.mt s.data.toList a p) ∧ Kp (∃ q, wr = w.drewN q)) (fun v12 _ => m - (intOf v12).toNat)
        case atStart => exact ⟨0, rfl, Nat.zero_le _, Hmt0, Hbl⟩
        case round =>
          obtain ⟨k, rfl, hk, HF, Hb2⟩ := hrel
          have c1 := Hc0.out wr Hb2.out
          by_cases hkm : k < m
          · have hkm' : decide ((k : Int) < (m : Int)) = true := by simp; omega
            obtain ⟨x, hx⟩ : ∃ x, at_ s.data.toList (p + k) = x := ⟨_, rfl⟩
            obtain ⟨y, hy⟩ : ∃ y, at_ s.data.toList (a + k) = y := ⟨_, rfl⟩
            have l1 : p + k < s.size := by omega
            have l2 : a + k < s.size := by omega
            have hbx : (s[p + k]) = x := by rw [byte_at s _ l1, hx]
            have hby : (s[a + k]) = y := by rw [byte_at s _ l2, hy]
            have i1 : (0 : Int) ≤ (p : Int) + k := by omega
            have i2 : (p : Int) + k < s.size := by omega
            have i3 : ((p : Int) + k).toNat = p + k := by omega
            have i4 : (0 : Int) ≤ (a : Int) + k := by omega
            have i5 : (a : Int) + k < s.size := by omega
            have i6 : ((a : Int) + k).toNat = a + k := by omega
            have w3 : IntKind.i64.wrap ((p : Int) + k) = (p : Int) + k := IntWalk.i64_in _ (by omega)
            have w4 : IntKind.i64.wrap ((a : Int) + k) = (a : Int) + k := IntWalk.i64_in _ (by omega)
            have w5 : IntKind.i64.wrap ((k : Int) + 1) = (k : Int) + 1 := IntWalk.i64_in _ (by omega)
            have HF1 := HF.out
            rw [show m - k = (m - (k + 1)) + 1 by omega, mtF, hx, hy] at HF1
            clear hx hy
            by_cases hxy : x = y
            · have hxy' : ((x.toNat : Int) == (y.toNat : Int)) = true := by simp [hxy]
              rw [if_pos hxy] at HF1
              have HF2 := Kp.mk HF1
              clear HF1
              go_wp2_with fail
              go_quiet (fail)
              go_wp2_with fail
              go_roundw
              case measure => simp [intOf] <;> omega
              case rel => exact ⟨k + 1, by go_num, by omega, HF2, ⟨drewN_more Hb2.out _⟩⟩
            · have hxy' : ((x.toNat : Int) == (y.toNat : Int)) = false := by
                simp
                intro h
                exact hxy (UInt8.toNat_inj.1 (by omega))
              rw [if_neg hxy] at HF1
              have Hmt : Kp (Pl.mt s.data.toList a p = k) := ⟨HF1.symm⟩
              clear HF1
              go_wp2_with fail
              go_quiet (fail)
              by_cases hgt : n < k
              · have hgt' : decide ((n : Int) < (k : Int)) = true := by simp; omega
                have HU : Kp (upd s.data.toList a (a - p) (n, b) = (k, a - p)) := ⟨by rw [upd, show a - (a - p) = p by omega, Hmt.out, if_pos hgt]⟩
                have HJ3 := HJ2.out
                rw [HU.out] at HJ3
                have w6 : IntKind.i64.wrap ((i : Int) - 1) = (i : Int) - 1 := IntWalk.i64_in _ (by omega)
                by_cases hfull : k = m
                · exact absurd hfull (by omega)
                · have hfull' : ((k : Int) == (m : Int)) = false := by simp; omega
                  rw [if_neg hfull] at HJ3
                  have HJ4 := Kp.mk HJ3
                  clear HJ3
                  go_wp2_with fail
                  go_quiet (fail)
                  go_wp2_with fail
                  go_step3
                  exact ⟨rfl, ⟨i, k, a - p, _, _, _, _, _, _, _, _, _, _, _, _, _, _, _, _, _, _, _, _, _, _, _, _, _, _, _, _, _, _, _, _, _, _, _, _, _, _, _, _, _, _, _, _, _, _, _, _, _, _, _, _, _, _, _, _, _, _, _, _, _, _, _, _, _, _, _, _, rfl, rfl, rfl, by omega, by omega, by omega, by omega, HJ4, drewN_more Hb2.out _⟩, by simp [intOf]⟩
              · have hgt' : decide ((n : Int) < (k : Int)) = false := by simp; omega
                have HU : Kp (upd s.data.toList a (a - p) (n, b) = (n, b)) := ⟨by rw [upd, show a - (a - p) = p by omega, Hmt.out, if_neg hgt]⟩
                have HJ3 := HJ2.out
                rw [HU.out] at HJ3
                have w6 : IntKind.i64.wrap ((i : Int) - 1) = (i : Int) - 1 := IntWalk.i64_in _ (by omega)
                by_cases hfull : n = m
                · have hfull' : ((n : Int) == (m : Int)) = true := by simp; omega
                  rw [if_pos hfull] at HJ3
                  subst HJ3
                  go_wp2_with fail
                  try simp only [Exit.jump]
                  refine bodyPost_ret (results_tmp2 rfl _ _ _) rfl ?_
                  exact ⟨by simp [hfull], drewN_more Hb2.out _⟩
                · have hfull' : ((n : Int) == (m : Int)) = false := by simp; omega
                  rw [if_neg hfull] at HJ3
                  have HJ4 := Kp.mk HJ3
                  clear HJ3
                  go_wp2_with fail
                  go_step3
                  exact ⟨rfl, ⟨i, n, b, _, _, _, _, _, _, _, _, _, _, _, _, _, _, _, _, _, _, _, _, _, _, _, _, _, _, _, _, _, _, _, _, _, _, _, _, _, _, _, _, _, _, _, _, _, _, _, _, _, _, _, _, _, _, _, _, _, _, _, _, _, _, _, _, _, _, _, _, rfl, rfl, rfl, rfl, by omega, by omega, by omega, HJ4, drewN_more Hb2.out _⟩, by simp [intOf]⟩
          · have hkm' : decide ((k : Int) < (m : Int)) = false := by simp; omega
            have hkm2 : m - k = 0 := by omega
            have Hmt : Kp (Pl.mt s.data.toList a p = k) := ⟨by rw [← HF.out, hkm2, mtF]⟩
            clear hkm2
            go_wp2_with fail
            go_quiet (fail)
            by_cases hgt : n < k
            · have hgt' : decide ((n : Int) < (k : Int)) = true := by simp; omega
              have HU : Kp (upd s.data.toList a (a - p) (n, b) = (k, a - p)) := ⟨by rw [upd, show a - (a - p) = p by omega, Hmt.out, if_pos hgt]⟩
              have HJ3 := HJ2.out
              rw [HU.out] at HJ3
              have w6 : IntKind.i64.wrap ((i : Int) - 1) = (i : Int) - 1 := IntWalk.i64_in _ (by omega)
              by_cases hfull : k = m
              · have hfull' : ((k : Int) == (m : Int)) = true := by simp; omega
                rw [if_pos hfull] at HJ3
                subst HJ3
                go_wp2_with fail
                go_quiet (fail)
                go_wp2_with fail
                try simp only [Exit.jump]
                refine bodyPost_ret (results_tmp2 rfl _ _ _) rfl ?_
                have e : ((a - p : Nat) : Int) = (a : Int) - p := by omega
                exact ⟨by simp [e, hfull], drewN_more Hb2.out _⟩
              · have hfull' : ((k : Int) == (m : Int)) = false := by simp; omega
                rw [if_neg hfull] at HJ3
                have HJ4 := Kp.mk HJ3
                clear HJ3
                go_wp2_with fail
                go_quiet (fail)
                go_wp2_with fail
                go_step3
                exact ⟨rfl, ⟨i, k, a - p, _, _, _, _, _, _, _, _, _, _, _, _, _, _, _, _, _, _, _, _, _, _, _, _, _, _, _, _, _, _, _, _, _, _, _, _, _, _, _, _, _, _, _, _, _, _, _, _, _, _, _, _, _, _, _, _, _, _, _, _, _, _, _, _, _, _, _, _, rfl, rfl, rfl, by omega, by omega, by omega, by omega, HJ4, drewN_more Hb2.out _⟩, by simp [intOf]⟩
            · have hgt' : decide ((n : Int) < (k : Int)) = false := by simp; omega
              have HU : Kp (upd s.data.toList a (a - p) (n, b) = (n, b)) := ⟨by rw [upd, show a - (a - p) = p by omega, Hmt.out, if_neg hgt]⟩
              have HJ3 := HJ2.out
              rw [HU.out] at HJ3
              have w6 : IntKind.i64.wrap ((i : Int) - 1) = (i : Int) - 1 := IntWalk.i64_in _ (by omega)
              by_cases hfull : n = m
              · have hfull' : ((n : Int) == (m : Int)) = true := by simp; omega
                rw [if_pos hfull] at HJ3
                subst HJ3
                go_wp2_with fail
                try simp only [Exit.jump]
                refine bodyPost_ret (results_tmp2 rfl _ _ _) rfl ?_
                exact ⟨by simp [hfull], drewN_more Hb2.out _⟩
              · have hfull' : ((n : Int) == (m : Int)) = false := by simp; omega
                rw [if_neg hfull] at HJ3
                have HJ4 := Kp.mk HJ3
                clear HJ3
                go_wp2_with fail
                go_step3
                exact ⟨rfl, ⟨i, n, b, _, _, _, _, _, _, _, _, _, _, _, _, _, _, _, _, _, _, _, _, _, _, _, _, _, _, _, _, _, _, _, _, _, _, _, _, _, _, _, _, _, _, _, _, _, _, _, _, _, _, _, _, _, _, _, _, _, _, _, _, _, _, _, _, _, _, _, _, rfl, rfl, rfl, rfl, by omega, by omega, by omega, HJ4, drewN_more Hb2.out _⟩, by simp [intOf]⟩
  case firstx =>
    intro hpass
    subst hv
    have hmin : min (130 : Int) ((s.size : Int) - a) = (m : Int) := by have := Hm2.out; omega
    go_wp2_with fail
    rename_i K hK
    go_step3
    refine hK _ _ (hpass _ _ ⟨ps.length, 0, 0, _, _, _, _, _, _, _, _, _, _, _, _, _, _, _, _, _, _, _, _, _, _, _, _, _, _, _, _, _, _, _, _, _, _, _, _, _, _, _, _, _, _, _, _, _, _, _, _, _, _, _, _, _, _, _, _, _, _, _, _, _, _, _, _, _, _, _, _, rfl, rfl, rfl, rfl, Nat.le_refl _, Nat.zero_le _, by omega, ⟨HR.out⟩, ⟨0, rfl⟩⟩)
end Go.Proofs.Ythahflokacgjjaa.WinP
