import Derived.Test.YgctabFftV
import Derived.Test.YgctabGrow
namespace Go.Proofs.Ygctab
open Go.RowKit
set_option linter.unusedVariables false
set_option linter.unusedSimpArgs false
set_option exponentiation.threshold 5000

theorem cut_zero (neg : Bool) (n d : Nat) : Ieee.Toward.zero.cut neg n d = n / 2 ^ d := by
  unfold Ieee.Toward.cut
  simp only [Nat.one_shiftLeft, Bool.toNat_false, Nat.add_zero]
  rcases Nat.le_total d (n.log2 + 2) with h | h
  · rw [Nat.min_eq_left h]
  · rw [Nat.min_eq_right h]
    have hl : n < 2 ^ (n.log2 + 1) := Nat.lt_log2_self
    have h1 : 2 ^ (n.log2 + 1) ≤ 2 ^ (n.log2 + 2) := Nat.pow_le_pow_right (by decide) (by omega)
    have h2 : 2 ^ (n.log2 + 1) ≤ 2 ^ d := Nat.pow_le_pow_right (by decide) (by omega)
    rw [Nat.div_eq_of_lt (by omega), Nat.div_eq_of_lt (by omega)]
theorem toInt_val {p : Nat} (hp : Fin64 p) : (Ieee.double.read p).toInt .zero = some (sgnI (fneg p) * (((fval p).natAbs / SU : Nat) : Int)) := by
  obtain ⟨e, -, r1, v1⟩ := read_fin hp
  have habs : (fval p).natAbs = fman p * 2 ^ e := by
    rw [v1]
    generalize fman p * 2 ^ e = N
    cases fneg p <;> simp [sgnI]
  rw [r1, habs]
  unfold Ieee.Datum.toInt Ieee.Datum.integral
  simp only [cut_zero, signed_eq, Nat.pow_zero, Nat.mul_one]
  congr 3
  unfold SU
  rw [Nat.shiftLeft_eq]
  by_cases h : e ≤ 1074
  · rw [show ((e : Int) - 1074).toNat = 0 by omega, show (-((e : Int) - 1074)).toNat = 1074 - e by omega, Nat.pow_zero, Nat.mul_one, show (2 : Nat) ^ 1074 = 2 ^ (1074 - e) * 2 ^ e by rw [← Nat.pow_add]; congr 1; omega, Nat.mul_div_mul_right _ _ (two_pos e)]
  · rw [show (-((e : Int) - 1074)).toNat = 0 by omega, show ((e : Int) - 1074).toNat = e - 1074 by omega, Nat.pow_zero, Nat.div_one, show fman p * 2 ^ e = fman p * 2 ^ (e - 1074) * 2 ^ 1074 by rw [Nat.mul_assoc, ← Nat.pow_add]; congr 2; omega, Nat.mul_div_cancel _ (two_pos 1074)]

/-- A small whole number as a double. -/
theorem int_fv (n : Int) (h : n.natAbs ≤ 9007199254740992) : Fin64 (floatOfInt .f64 n) ∧ fval (floatOfInt .f64 n) = n * (SU : Int) := by
  have hb : n.natAbs * 2 ^ 1074 < 2 ^ 2097 := by
    have h1 : n.natAbs * 2 ^ 1074 ≤ 2 ^ 53 * 2 ^ 1074 := Nat.mul_le_mul_right _ h
    have h2 : 2 ^ 53 * 2 ^ 1074 < 2 ^ 2097 := by decide +kernel
    exact Nat.lt_of_le_of_lt h1 h2
  obtain ⟨g1, g2⟩ := write_val (decide (n < 0)) n.natAbs 1074 hb
  have e : Ieee.double.nearest (decide (n < 0)) n.natAbs (((1074 : Nat) : Int) - 1074) = floatOfInt .f64 n := by
    rw [show (((1074 : Nat) : Int) - 1074) = 0 by decide]
    rfl
  rw [e] at g1 g2
  refine ⟨g1, ?_⟩
  have hr : rndN (n.natAbs * 2 ^ 1074) = n.natAbs * 2 ^ 1074 := by
    have hrep : Rep ((n.natAbs : Int) * 2 ^ 1074) := ⟨(n.natAbs : Int), 1074, by omega, by omega, rfl⟩
    have := rnd_exact hrep
    have h3 := rnd_abs ((n.natAbs : Int) * 2 ^ 1074)
    rw [this] at h3
    have h4 : ((n.natAbs : Int) * 2 ^ 1074).natAbs = n.natAbs * 2 ^ 1074 := by
      rw [Int.natAbs_mul, Int.natAbs_pow]; rfl
    rw [h4] at h3
    exact h3.symm
  rw [g2, hr]
  have e5 : ((n.natAbs * 2 ^ 1074 : Nat) : Int) = (n.natAbs : Int) * (SU : Int) := by rw [Int.natCast_mul]; rfl
  rw [e5, ← Int.mul_assoc]
  congr 1
  unfold sgnI
  by_cases h0 : n < 0
  · rw [decide_eq_true h0]; simp; omega
  · rw [decide_eq_false h0]; simp; omega

theorem lt_ord {x y : Nat} (hx : Fin64 x) (hy : Fin64 y) (h : fval x < fval y) : FloatKind.f64.format.order x y = some .lt := by
  rw [order_val hx hy, Int.compare_eq_lt.2 h]
theorem gt_ord {x y : Nat} (hx : Fin64 x) (hy : Fin64 y) (h : fval y < fval x) : FloatKind.f64.format.order x y = some .gt := by
  rw [order_val hx hy, Int.compare_eq_gt.2 h]
/-- Not above. -/
theorem le_ord {x y : Nat} (hx : Fin64 x) (hy : Fin64 y) (h : fval x ≤ fval y) : (FloatKind.f64.format.order x y == some .lt || FloatKind.f64.format.order x y == some .eq) = true := by
  rcases Int.lt_or_eq_of_le h with h1 | h1
  · rw [lt_ord hx hy h1]; rfl
  · rw [order_val hx hy, Int.compare_eq_eq.2 h1]; rfl
theorem ge_ord {x y : Nat} (hx : Fin64 x) (hy : Fin64 y) (h : fval y ≤ fval x) : (FloatKind.f64.format.order x y == some .gt || FloatKind.f64.format.order x y == some .eq) = true := by
  rcases Int.lt_or_eq_of_le h with h1 | h1
  · rw [gt_ord hx hy h1]; rfl
  · rw [order_val hx hy, Int.compare_eq_eq.2 h1.symm]; rfl

theorem c_q : Fin64 4598175219545276416 ∧ fval 4598175219545276416 * 4 = (SU : Int) := by unfold SU Fin64; decide +kernel
theorem c_nq : Fin64 13821547256400052224 ∧ fval 13821547256400052224 * 4 = -(SU : Int) := by unfold SU Fin64; decide +kernel
theorem c_h : Fin64 4602678819172646912 ∧ fval 4602678819172646912 * 2 = (SU : Int) := by unfold SU Fin64; decide +kernel
theorem c_nh : Fin64 13826050856027422720 ∧ fval 13826050856027422720 * 2 = -(SU : Int) := by unfold SU Fin64; decide +kernel
theorem c_52 : Fin64 4841369599423283200 ∧ fval 4841369599423283200 = 4503599627370496 * (SU : Int) := by unfold SU Fin64; decide +kernel
theorem c_n52 : Fin64 14064741636278059008 ∧ fval 14064741636278059008 = -(4503599627370496 * (SU : Int)) := by unfold SU Fin64; decide +kernel

theorem le_cases {x y : Nat} (hx : Fin64 x) (hy : Fin64 y) (h : fval x ≤ fval y) : FloatKind.f64.format.order x y = some .lt ∨ FloatKind.f64.format.order x y = some .eq := by
  rcases Int.lt_or_eq_of_le h with h1 | h1
  · exact .inl (lt_ord hx hy h1)
  · exact .inr (by rw [order_val hx hy, Int.compare_eq_eq.2 h1])
theorem ge_cases {x y : Nat} (hx : Fin64 x) (hy : Fin64 y) (h : fval y ≤ fval x) : FloatKind.f64.format.order x y = some .gt ∨ FloatKind.f64.format.order x y = some .eq := by
  rcases Int.lt_or_eq_of_le h with h1 | h1
  · exact .inl (gt_ord hx hy h1)
  · exact .inr (by rw [order_val hx hy, Int.compare_eq_eq.2 h1.symm])

set_option maxRecDepth 100000 in
theorem quarter_yes (p : Nat) (hp : Fin64 p) (h : 4 * (fval p).natAbs ≤ SU) (w : World) : Calls Tabg.prog 170 #[.float .f64 p] w fun e w' => e = .returned (.bool true) ∧ w = w' := by
  have h1 := le_cases hp c_q.1 (by have := c_q.2; omega)
  have h2 := ge_cases hp c_nq.1 (by have := c_nq.2; omega)
  clear h hp
  rcases h1 with h1 | h1 <;> rcases h2 with h2 | h2
  all_goals go_enter Tabg.func170, Tabg.ntmps170
  all_goals go_wp2
  all_goals go_ret
  all_goals exact ⟨rfl, rfl⟩
end Go.Proofs.Ygctab
