import Derived.Test.YgctabFftQ
namespace Go.Proofs.Ygctab
open Go.RowKit
set_option linter.unusedVariables false
set_option linter.unusedSimpArgs false
set_option exponentiation.threshold 5000

theorem half_bd {z2 τ m : GI} {S V : Nat} (hSp : 0 < S) (hm : Bd (((m.sc (S : Int)).sub (z2.mul τ)).sc ((562949953421312 : Nat) : Int)) (2 * V * (2 * S))) (hz : Bd z2 (2 * V)) (hτ : Bd τ (2 * S)) : Bd m (5 * V) := by
  have h1 := (hz.mul hτ).sc 562949953421312
  have h2 := hm.add h1
  rw [show (((m.sc (S : Int)).sub (z2.mul τ)).sc ((562949953421312 : Nat) : Int)).add ((z2.mul τ).sc ((562949953421312 : Nat) : Int)) = m.sc ((562949953421312 * S : Nat) : Int) by
    rw [Int.natCast_mul]
    generalize ((562949953421312 : Nat) : Int) = q
    generalize (S : Int) = r
    apply GI.ext' <;> simp only [GI.mul, GI.sub, GI.sc, GI.add] <;> grind] at h2
  refine Bd.unsc (n := 562949953421312 * S) (Nat.mul_pos (by decide) hSp) (h2.mono ?_)
  rw [show 2 * V * (2 * S) = 4 * (V * S) by grind, show 562949953421312 * S * (5 * V) = 2814749767106560 * (V * S) by grind]
  omega

theorem small_pow {P A : Nat} (hP : P ≤ 1024) (hA : A ≤ 2 ^ 1200) : 8 * (P * (2 * A)) < 2 ^ 2097 ∧ 2 * (P * (2 * A)) * (2 * SU) < 2 ^ 3100 := by
  have h1 : P * (2 * A) ≤ 1024 * (2 * 2 ^ 1200) := Nat.mul_le_mul hP (by omega)
  have e1 : 8 * (1024 * (2 * 2 ^ 1200)) < 2 ^ 2097 := by decide +kernel
  have e2 : 2 * (1024 * (2 * 2 ^ 1200)) * (2 * SU) < 2 ^ 3100 := by unfold SU; decide +kernel
  constructor
  · exact Nat.lt_of_le_of_lt (Nat.mul_le_mul_left 8 h1) e1
  · exact Nat.lt_of_le_of_lt (Nat.mul_le_mul_right _ (Nat.mul_le_mul_left 2 h1)) e2

/-- One pass. -/
theorem pass_near {k t : Nat} {w a : Nat → GI} {s A' : Nat} {T X : Nat → Cx} (hw : Wk k w s) (hk : 1 ≤ k) (hk' : k ≤ 10) (ht : t < k) (ha : ∀ i, Bd (a i) (2 * A')) (hA : SU ≤ A') (hA2 : A' ≤ 2 ^ 1200)
    (hT : ∀ j, j < 2 ^ (k - 1) → CV (T j) (w j))
    (hX : ∀ p, p < 2 ^ k → ∃ z, CV (X p) z ∧ Bd (((z.sc (SU : Int)).sub (Dg k w a t (rv (k - t) (p / 2 ^ t)) (p % 2 ^ t))).sc (KU : Int)) (t * (2 ^ t * (2 * A' * SU)))) :
    ∀ p, p < 2 ^ k → ∃ z, CV (bflyX (2 ^ t) (2 ^ (k - (t + 1))) X T p) z ∧ Bd (((z.sc (SU : Int)).sub (Dg k w a (t + 1) (rv (k - (t + 1)) (p / 2 ^ (t + 1))) (p % 2 ^ (t + 1)))).sc (KU : Int)) ((t + 1) * (2 ^ (t + 1) * (2 * A' * SU))) := by
  intro p hp
  have hSp := SU_pos
  obtain ⟨h, hh⟩ : ∃ h, h = 2 ^ t := ⟨_, rfl⟩
  have h1 : 0 < h := by rw [hh]; exact Nat.pow_pos (by decide)
  have hP : h ≤ 1024 := by rw [hh]; exact Nat.le_trans (Nat.pow_le_pow_right (by decide) (by omega)) (show 2 ^ 10 ≤ 1024 by decide)
  have e2 : 2 ^ (t + 1) = 2 * h := by rw [Nat.pow_succ, hh]; omega
  have hn : 2 ^ k = 2 * h * 2 ^ (k - (t + 1)) := by rw [← e2, ← Nat.pow_add]; congr 1; omega
  obtain ⟨B, hB⟩ : ∃ B, B = p / (2 * h) := ⟨_, rfl⟩
  obtain ⟨j, hj⟩ : ∃ j, j = p % (2 * h) := ⟨_, rfl⟩
  have hp2 : p = 2 * h * B + j := by rw [hB, hj]; exact (Nat.div_add_mod p (2 * h)).symm
  have hjl : j < 2 * h := by rw [hj]; exact Nat.mod_lt _ (by omega)
  have hBl : B < 2 ^ (k - (t + 1)) := by
    rw [hB]
    exact Nat.div_lt_of_lt_mul (by rw [← hn]; exact hp)
  have hfit : 2 * h * (B + 1) ≤ 2 ^ k := by rw [hn]; exact Nat.mul_le_mul_left _ hBl
  rw [Nat.mul_add, Nat.mul_one] at hfit
  have hrv : k - t = k - (t + 1) + 1 := by omega
  have dv : ∀ c d : Nat, d < h → (h * c + d) / h = c ∧ (h * c + d) % h = d := fun c d hd =>
    ⟨by rw [Nat.mul_add_div h1, Nat.div_eq_of_lt hd, Nat.add_zero], by rw [Nat.mul_add_mod, Nat.mod_eq_of_lt hd]⟩
  have s1 : 2 * h * B = h * (2 * B) := by ac_rfl
  have s2 : h * (2 * B + 1) = h * (2 * B) + h := by rw [Nat.mul_add, Nat.mul_one]
  have hss : s ≤ 2 * SU := by have := hw.s1; omega
  obtain ⟨lim1, lim2⟩ := small_pow hP hA2
  -- the two points and the root of a butterfly, at place d
  have key : ∀ d, d < h → ∃ z1 z2 m : GI, CV (X (h * (2 * B) + d)) z1 ∧ CV (mulX (X (h * (2 * B + 1) + d)) (T (d * 2 ^ (k - (t + 1))))) m ∧
      Bd (z1.add m) (8 * (h * (2 * A'))) ∧ Bd (z1.sub m) (8 * (h * (2 * A'))) ∧
      Bd (((z1.sc (SU : Int)).sub (Dg k w a t (rv (k - (t + 1)) B) d)).sc (KU : Int)) (t * (h * (2 * A' * SU))) ∧
      Bd (((z2.sc (SU : Int)).sub (Dg k w a t (rv (k - (t + 1)) B + 2 ^ (k - (t + 1))) d)).sc (KU : Int)) (t * (h * (2 * A' * SU))) ∧
      Bd (((m.sc (SU : Int)).sub (z2.mul (w (d * 2 ^ (k - (t + 1)))))).sc ((562949953421312 : Nat) : Int)) (2 * (h * (2 * A')) * (2 * SU)) := by
    intro d hd
    have hq1 : h * (2 * B) + d < 2 ^ k := by omega
    have hq2 : h * (2 * B + 1) + d < 2 ^ k := by omega
    obtain ⟨z1, c1, E1⟩ := hX _ hq1
    obtain ⟨z2, c2, E2⟩ := hX _ hq2
    rw [← hh, (dv (2 * B) d hd).1, (dv (2 * B) d hd).2, hrv, rv_even] at E1
    rw [← hh, (dv (2 * B + 1) d hd).1, (dv (2 * B + 1) d hd).2, hrv, rv_odd] at E2
    have hD1 := Dg_bd hw a (2 * A') ha t (rv (k - (t + 1)) B) d
    have hD2 := Dg_bd hw a (2 * A') ha t (rv (k - (t + 1)) B + 2 ^ (k - (t + 1))) d
    rw [← hh] at hD1 hD2
    have M1 := mag_core SU h (2 * A') t s z1 _ hSp (by omega) E1 hD1 hw.s1
    have M2 := mag_core SU h (2 * A') t s z2 _ hSp (by omega) E2 hD2 hw.s1
    have hjs : d * 2 ^ (k - (t + 1)) < 2 ^ (k - 1) := by
      have : h * 2 ^ (k - (t + 1)) = 2 ^ (k - 1) := by rw [hh, ← Nat.pow_add]; congr 1; omega
      rw [← this]
      exact Nat.mul_lt_mul_of_pos_right hd (Nat.pow_pos (by decide))
    have hτ : Bd (w (d * 2 ^ (k - (t + 1)))) (2 * SU) := (hw.bd _).mono hss
    have hlow : 36028797018963968 * SU ≤ 2 * (h * (2 * A')) * (2 * SU) := by
      have q1 : SU ≤ h * A' := Nat.le_trans hA (Nat.le_mul_of_pos_left _ h1)
      have q2 : 36028797018963968 ≤ SU := by
        show 36028797018963968 ≤ 2 ^ 1074
        exact Nat.le_trans (show 36028797018963968 ≤ 2 ^ 55 by decide) (Nat.pow_le_pow_right (by decide) (by decide))
      rw [show 2 * (h * (2 * A')) * (2 * SU) = 8 * (h * A') * SU by grind]
      exact Nat.mul_le_mul_right _ (by omega)
    obtain ⟨m, cm, hm⟩ := CV.mul c2 (hT _ hjs) M2 hτ hlow lim2
    have hmb := half_bd hSp hm M2 hτ
    exact ⟨z1, z2, m, c1, cm, (M1.add hmb).mono (by omega), (M1.sub hmb).mono (by omega), E1, E2, hm⟩
  have fin : ∀ (d : Nat), 2 * (h * (2 * A' * SU)) = 2 ^ (t + 1) * (2 * A' * SU) := fun _ => by rw [e2]; ac_rfl
  rw [← fin 0, e2]
  unfold bflyX
  rw [← hh, ← hj, ← hB]
  by_cases hlt : j < h
  · rw [if_pos hlt]
    obtain ⟨z1, z2, m, c1, cm, b1, b2, E1, E2, hm⟩ := key j hlt
    rw [show p + h = h * (2 * B + 1) + j by omega, show X p = X (h * (2 * B) + j) by congr 1; omega]
    obtain ⟨x, cx, hx⟩ := CV.add c1 cm b1 lim1
    refine ⟨x, cx, ?_⟩
    rw [Dg_split w a t _ _ ht]
    have hN := Do_near hw a (2 * A') ha t (rv (k - (t + 1)) B + 2 ^ (k - (t + 1))) j
    rw [← hh] at hN
    exact near_core SU h A' t s z1 z2 m x _ _ _ _ hSp (by omega) hm hx E1 E2 hN (hw.bd _) hw.s1 hw.s0
  · rw [if_neg hlt]
    obtain ⟨d, hd⟩ : ∃ d, j = d + h := ⟨j - h, by omega⟩
    have hdh : d < h := by omega
    obtain ⟨z1, z2, m, c1, cm, b1, b2, E1, E2, hm⟩ := key d hdh
    rw [show p - h = h * (2 * B) + d by omega, show X p = X (h * (2 * B + 1) + d) by congr 1; omega, show j - h = d by omega]
    obtain ⟨x, cx, hx⟩ := CV.sub c1 cm b2 lim1
    refine ⟨x, cx, ?_⟩
    have hfar := Dg_far hw hk a t (rv (k - (t + 1)) B) d ht
    rw [← hh] at hfar
    rw [hd, hfar]
    have hN := Do_near hw a (2 * A') ha t (rv (k - (t + 1)) B + 2 ^ (k - (t + 1))) d
    rw [← hh] at hN
    -- the same with m and the half's opposite
    have r := near_core SU h A' t s z1 (z2.neg) (m.neg) x (w (d * 2 ^ (k - (t + 1)))) (Dg k w a t (rv (k - (t + 1)) B) d) ((Dg k w a t (rv (k - (t + 1)) B + 2 ^ (k - (t + 1))) d).neg) ((Do k w a t (rv (k - (t + 1)) B + 2 ^ (k - (t + 1))) d).neg) hSp (by omega)
      (by rw [show (((m.neg.sc (SU : Int)).sub ((z2.neg).mul (w (d * 2 ^ (k - (t + 1)))))).sc ((562949953421312 : Nat) : Int)) = (((m.sc (SU : Int)).sub (z2.mul (w (d * 2 ^ (k - (t + 1)))))).sc ((562949953421312 : Nat) : Int)).neg by
            generalize ((562949953421312 : Nat) : Int) = q
            apply GI.ext' <;> simp only [GI.mul, GI.sub, GI.sc, GI.neg] <;> grind]
          exact hm.neg)
      (by rw [show z1.add m.neg = z1.sub m from GI.ext' (by simp only [GI.add, GI.neg, GI.sub]; omega) (by simp only [GI.add, GI.neg, GI.sub]; omega)]; exact hx)
      E1
      (by rw [show ((((z2.neg).sc (SU : Int)).sub ((Dg k w a t (rv (k - (t + 1)) B + 2 ^ (k - (t + 1))) d).neg)).sc (KU : Int)) = ((((z2).sc (SU : Int)).sub (Dg k w a t (rv (k - (t + 1)) B + 2 ^ (k - (t + 1))) d)).sc (KU : Int)).neg by
            generalize (KU : Int) = q
            apply GI.ext' <;> simp only [GI.mul, GI.sub, GI.sc, GI.neg] <;> grind]
          exact E2.neg)
      (by rw [show (((((Dg k w a t (rv (k - (t + 1)) B + 2 ^ (k - (t + 1))) d).neg).mul (w (d * 2 ^ (k - (t + 1))))).sub (((Do k w a t (rv (k - (t + 1)) B + 2 ^ (k - (t + 1))) d).neg).sc (SU : Int))).sc ((281474976710656 : Nat) : Int)) = ((((Dg k w a t (rv (k - (t + 1)) B + 2 ^ (k - (t + 1))) d).mul (w (d * 2 ^ (k - (t + 1))))).sub ((Do k w a t (rv (k - (t + 1)) B + 2 ^ (k - (t + 1))) d).sc (SU : Int))).sc ((281474976710656 : Nat) : Int)).neg by
            generalize ((281474976710656 : Nat) : Int) = q
            apply GI.ext' <;> simp only [GI.mul, GI.sub, GI.sc, GI.neg] <;> grind]
          exact hN.neg)
      (hw.bd _) hw.s1 hw.s0
    rwa [show (Dg k w a t (rv (k - (t + 1)) B) d).add (Do k w a t (rv (k - (t + 1)) B + 2 ^ (k - (t + 1))) d).neg = (Dg k w a t (rv (k - (t + 1)) B) d).sub (Do k w a t (rv (k - (t + 1)) B + 2 ^ (k - (t + 1))) d) from GI.ext' (by simp only [GI.add, GI.neg, GI.sub]; omega) (by simp only [GI.add, GI.neg, GI.sub]; omega)] at r
end Go.Proofs.Ygctab
