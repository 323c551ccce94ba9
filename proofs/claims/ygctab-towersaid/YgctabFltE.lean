import Derived.Test.YgctabFltD
namespace Go.Proofs.Ygctab
open Go.RowKit
set_option linter.unusedVariables false
set_option linter.unusedSimpArgs false
set_option exponentiation.threshold 5000

theorem magR_gen (d q : Nat) (h1 : q ≤ 9007199254740992) (h2 : d ≠ 0 → 4503599627370496 ≤ q) : magR (d * 4503599627370496 + q) = q * 2 ^ d := by
  unfold magR
  by_cases hk : q < 4503599627370496
  · have : d = 0 := by
      by_cases hd : d = 0
      · exact hd
      · have := h2 hd; omega
    subst this
    rw [if_pos (by omega)]; omega
  · rw [if_neg (by omega)]
    by_cases hk2 : q = 9007199254740992
    · subst hk2
      rw [show (d * 4503599627370496 + 9007199254740992) / 4503599627370496 - 1 = d + 1 by omega, show (d * 4503599627370496 + 9007199254740992) % 4503599627370496 = 0 by omega, Nat.pow_succ]
      omega
    · rw [show (d * 4503599627370496 + q) / 4503599627370496 - 1 = d by omega, show 4503599627370496 + (d * 4503599627370496 + q) % 4503599627370496 = q by omega]

theorem rne_far {n D : Nat} (h : 2 * n < 2 ^ D) : rne n D = 0 := by
  unfold rne
  rw [Nat.div_eq_of_lt (by omega), Nat.mod_eq_of_lt (by omega), if_neg (by omega)]
theorem cut_far (neg : Bool) (n d : Nat) (h : n.log2 + 2 ≤ d) : Ieee.Toward.even.cut neg n d = 0 := by
  unfold Ieee.Toward.cut
  have hl : n < 2 ^ (n.log2 + 1) := Nat.lt_log2_self
  have e : 2 ^ (n.log2 + 2) = 2 * 2 ^ (n.log2 + 1) := by rw [Nat.pow_succ 2 (n.log2 + 1)]; omega
  simp only [Nat.min_eq_right h, Nat.one_shiftLeft]
  rw [Nat.div_eq_of_lt (by omega), Nat.mod_eq_of_lt (by omega)]
  have h1 : decide (2 ^ (n.log2 + 2) < 2 * n) = false := decide_eq_false (by omega)
  have h2 : (2 ^ (n.log2 + 2) == 2 * n) = false := by simp; omega
  rw [h1, h2]
  rfl

/-- What is written of a number with t digits below the least place: near it. -/
theorem near_val (neg : Bool) (m e t : Nat) (hb : m * 2 ^ e < 2 ^ (2097 + t)) :
    Fin64 (Ieee.double.nearest neg m ((e : Int) - 1074 - t)) ∧ ∃ v : Nat, fval (Ieee.double.nearest neg m ((e : Int) - 1074 - t)) = sgnI neg * (v : Int) ∧ 9007199254740992 * ((v * 2 ^ t : Nat) - (m * 2 ^ e : Nat) : Int).natAbs ≤ m * 2 ^ e + 4503599627370496 * 2 ^ t := by
  unfold Ieee.Format.nearest
  by_cases h : m = 0
  · subst h
    rw [if_pos rfl]
    obtain ⟨g1, g2, -, -⟩ := word_fin neg 0 (by decide)
    refine ⟨g1, 0, by rw [g2]; rfl, ?_⟩
    simp
  · rw [if_neg h]
    simp only [dbl_bin, dbl_inf, dbl_lp]
    have hl := log2_mul_pow h e
    have hfb : ((Ieee.double.fractionBits : Nat) : Int) = 52 := rfl
    obtain ⟨M, hM⟩ : ∃ M, M = m * 2 ^ e := ⟨_, rfl⟩
    obtain ⟨d, hd⟩ : ∃ d, d = M.log2 - (t + 52) := ⟨_, rfl⟩
    rw [← hM] at hl hb ⊢
    have hM0 : M ≠ 0 := by rw [hM]; exact Nat.mul_ne_zero h (by have := two_pos e; omega)
    have hlo : 2 ^ M.log2 ≤ M := Nat.log2_self_le hM0
    have hhi : M < 2 ^ (M.log2 + 1) := Nat.lt_log2_self
    have hlast : max ((e : Int) - 1074 - t + (m.log2 : Int) - (Ieee.double.fractionBits : Int)) (-1074) = (d : Int) - 1074 := by
      rw [hfb, hd]; omega
    rw [hlast, show ((d : Int) - 1074 - -1074).toNat = d by omega]
    have hkept : Ieee.Toward.even.cut neg (m <<< ((e : Int) - 1074 - t - ((d : Int) - 1074)).toNat) ((d : Int) - 1074 - ((e : Int) - 1074 - t)).toNat = rne M (d + t) := by
      by_cases hD : d + t ≤ e
      · rw [show ((d : Int) - 1074 - ((e : Int) - 1074 - t)).toNat = 0 by omega, show ((e : Int) - 1074 - t - ((d : Int) - 1074)).toNat = e - (d + t) by omega, cut_even _ _ _ (by omega), Nat.shiftLeft_eq, hM]
        have h1 := rne_scale (m * 2 ^ (e - (d + t))) (d + t) 0
        rw [Nat.zero_add, Nat.mul_assoc, ← Nat.pow_add, show e - (d + t) + (d + t) = e by omega] at h1
        exact h1.symm
      · rw [show ((e : Int) - 1074 - t - ((d : Int) - 1074)).toNat = 0 by omega, show ((d : Int) - 1074 - ((e : Int) - 1074 - t)).toNat = d + t - e by omega, Nat.shiftLeft_zero]
        by_cases hf : d + t - e ≤ m.log2 + 2
        · rw [cut_even _ _ _ hf, hM]
          have h1 := rne_scale m e (d + t - e)
          rw [show d + t - e + e = d + t by omega] at h1
          exact h1.symm
        · rw [cut_far _ _ _ (by omega)]
          have : 2 ^ (M.log2 + 2) ≤ 2 ^ (d + t) := Nat.pow_le_pow_right (by decide) (by omega)
          have e2 : 2 ^ (M.log2 + 2) = 2 * 2 ^ (M.log2 + 1) := by rw [Nat.pow_succ 2 (M.log2 + 1)]; omega
          rw [rne_far (by omega)]
    rw [hkept]
    have q1 : rne M (d + t) ≤ 9007199254740992 := by
      refine rne_le ?_
      refine Nat.lt_of_lt_of_le hhi ?_
      rw [show (9007199254740992 : Nat) = 2 ^ 53 by decide, ← Nat.pow_add]
      exact Nat.pow_le_pow_right (by decide) (by omega)
    have q2 : d ≠ 0 → 4503599627370496 ≤ rne M (d + t) := fun h0 => by
      refine rne_ge ?_
      rw [show (4503599627370496 : Nat) = 2 ^ 52 by decide, ← Nat.pow_add]
      refine Nat.le_trans (Nat.pow_le_pow_right (by decide) ?_) hlo
      omega
    have hd2 : d ≤ 2044 := by
      have : M.log2 < 2097 + t := (Nat.log2_lt hM0).2 hb
      omega
    have h3 : d * 4503599627370496 + rne M (d + t) < 9218868437227405312 := by omega
    rw [Nat.min_eq_left (by omega)]
    obtain ⟨g1, g2, -, -⟩ := word_fin neg _ h3
    rw [magR_gen d _ q1 q2] at g2
    refine ⟨g1, _, g2, ?_⟩
    rw [Nat.mul_assoc, ← Nat.pow_add]
    have herr := rne_err M (d + t)
    generalize hk : rne M (d + t) * 2 ^ (d + t) = K at *
    have hpow : 9007199254740992 * 2 ^ (d + t) ≤ 2 * (M + 4503599627370496 * 2 ^ t) := by
      by_cases h0 : d = 0
      · rw [h0, Nat.zero_add]; omega
      · have : 2 ^ (52 + (d + t)) ≤ M := Nat.le_trans (Nat.pow_le_pow_right (by decide) (by omega)) hlo
        rw [Nat.pow_add, show (2 : Nat) ^ 52 = 4503599627370496 by decide] at this
        omega
    omega

/-- The answer is a finite double of this value. -/
def FV (c : Option Nat) (v : Int) : Prop := ∃ p, c = some p ∧ Fin64 p ∧ fval p = v

theorem rnd_rel (z : Int) : 9007199254740992 * (rnd z - z).natAbs ≤ z.natAbs := by
  by_cases h : ed z.natAbs = 0
  · have : rnd z = z := rnd_of_dvd (by unfold ulp; rw [h]; exact Int.one_dvd _)
    rw [this]; simp
  · have h1 := rnd_err z
    have h2 := ed_ge h
    unfold ulp at h1
    rw [Nat.pow_add, show (2 : Nat) ^ 52 = 4503599627370496 by decide] at h2
    omega

theorem FV.add {c d : Option Nat} {v w : Int} (h : FV c v) (k : FV d w) (hb : (v + w).natAbs < 2 ^ 2097) : ∃ x, FV (opc .add c d) x ∧ 9007199254740992 * (x - (v + w)).natAbs ≤ (v + w).natAbs := by
  obtain ⟨p, rfl, hp, rfl⟩ := h
  obtain ⟨q, rfl, hq, rfl⟩ := k
  obtain ⟨z, h1, h2, h3⟩ := add_val hp hq hb
  exact ⟨_, ⟨z, h1, h2, h3⟩, rnd_rel _⟩
theorem FV.sub {c d : Option Nat} {v w : Int} (h : FV c v) (k : FV d w) (hb : (v - w).natAbs < 2 ^ 2097) : ∃ x, FV (opc .sub c d) x ∧ 9007199254740992 * (x - (v - w)).natAbs ≤ (v - w).natAbs := by
  obtain ⟨p, rfl, hp, rfl⟩ := h
  obtain ⟨q, rfl, hq, rfl⟩ := k
  obtain ⟨z, h1, h2, h3⟩ := sub_val hp hq hb
  exact ⟨_, ⟨z, h1, h2, h3⟩, rnd_rel _⟩

theorem sgn_abs (neg : Bool) (v : Nat) (x : Int) : (sgnI neg * (v : Int) - sgnI neg * x).natAbs = ((v : Int) - x).natAbs := by
  cases neg <;> simp [sgnI] <;> omega
theorem FV.mul {c d : Option Nat} {v w : Int} (h : FV c v) (k : FV d w) (hb : (v * w).natAbs < 2 ^ (2097 + 1074)) : ∃ x, FV (opc .mul c d) x ∧ 9007199254740992 * (x * ((2 ^ 1074 : Nat) : Int) - v * w).natAbs ≤ (v * w).natAbs + 4503599627370496 * 2 ^ 1074 := by
  obtain ⟨p, rfl, hp, rfl⟩ := h
  obtain ⟨q, rfl, hq, rfl⟩ := k
  obtain ⟨e1, -, r1, v1⟩ := read_fin hp
  obtain ⟨e2, -, r2, v2⟩ := read_fin hq
  have hprod : fval p * fval q = sgnI (fneg p ^^ fneg q) * ((fman p * fman q * 2 ^ (e1 + e2) : Nat) : Int) := by
    rw [v1, v2]
    have hs : sgnI (fneg p ^^ fneg q) = sgnI (fneg p) * sgnI (fneg q) := by cases fneg p <;> cases fneg q <;> rfl
    rw [hs, Nat.pow_add]
    simp only [Int.natCast_mul]
    grind
  have habs : (fval p * fval q).natAbs = fman p * fman q * 2 ^ (e1 + e2) := by
    rw [hprod]
    generalize fman p * fman q * 2 ^ (e1 + e2) = N
    cases (fneg p ^^ fneg q) <;> simp [sgnI]
  rw [habs] at hb ⊢
  obtain ⟨g1, u, g2, g3⟩ := near_val (fneg p ^^ fneg q) (fman p * fman q) (e1 + e2) 1074 hb
  have hfb : floatBits .mul .f64 p q = some (Ieee.double.nearest (fneg p ^^ fneg q) (fman p * fman q) (((e1 + e2 : Nat) : Int) - 1074 - (1074 : Nat))) := by
    show ((Ieee.double.read p).product (Ieee.double.read q)).map Ieee.double.write = _
    rw [r1, r2]
    simp only [Ieee.Datum.product, Option.map_some, Ieee.Format.write]
    congr 2
    omega
  refine ⟨_, ⟨_, hfb, g1, rfl⟩, ?_⟩
  rw [g2, hprod, Int.mul_assoc, ← Int.natCast_mul, sgn_abs]
  exact g3
end Go.Proofs.Ygctab
