import Derived.Test.YgctabDoorGrow
namespace Go.Proofs.YgctabDoor
set_option linter.unusedVariables false
set_option linter.unusedSimpArgs false
set_option exponentiation.threshold 6000

theorem nearest_scale (neg : Bool) (m j : Nat) (p : Int) (h0 : m ≠ 0) (hp : -1074 ≤ p) : Ieee.double.nearest neg (m * 2 ^ j) (p - j) = Ieee.double.nearest neg m p := by
  unfold Ieee.Format.nearest
  have hm : m * 2 ^ j ≠ 0 := Nat.mul_ne_zero h0 (Nat.ne_of_gt (two_pos j))
  rw [if_neg h0, if_neg hm]
  simp only [dbl_bin, dbl_inf, dbl_lp]
  have hl := log2_mul_pow h0 j
  have hfb : ((Ieee.double.fractionBits : Nat) : Int) = 52 := rfl
  have hlast : max (p - j + ((m * 2 ^ j).log2 : Int) - (Ieee.double.fractionBits : Int)) (-1074) = max (p + (m.log2 : Int) - (Ieee.double.fractionBits : Int)) (-1074) := by
    rw [hl]
    congr 1
    omega
  rw [hlast]
  have hle : max (p + (m.log2 : Int) - (Ieee.double.fractionBits : Int)) (-1074) ≤ p + m.log2 := by rw [hfb]; omega
  generalize max (p + (m.log2 : Int) - (Ieee.double.fractionBits : Int)) (-1074) = last at *
  congr 3
  by_cases hc : last ≤ p
  · obtain ⟨k, hk⟩ : ∃ k : Nat, p = last + k := ⟨(p - last).toNat, by omega⟩
    rw [show (last - p).toNat = 0 by omega, show (p - last).toNat = k by omega]
    by_cases hjk : j ≤ k
    · rw [show (last - (p - j)).toNat = 0 by omega, show (p - (j : Int) - last).toNat = k - j by omega, Nat.shiftLeft_eq, Nat.shiftLeft_eq, Nat.mul_assoc, ← Nat.pow_add, show j + (k - j) = k by omega]
    · rw [show (last - (p - j)).toNat = j - k by omega, show (p - (j : Int) - last).toNat = 0 by omega, Nat.shiftLeft_zero, cut_even _ _ _ (by rw [hl]; omega), cut_even _ _ _ (by omega), Nat.shiftLeft_eq]
      have h1 := rne_scale (m * 2 ^ k) (j - k) 0
      rw [Nat.zero_add, Nat.mul_assoc, ← Nat.pow_add, show k + (j - k) = j by omega] at h1
      exact h1
  · obtain ⟨k, hk⟩ : ∃ k : Nat, last = p + k := ⟨(last - p).toNat, by omega⟩
    rw [show (last - p).toNat = k by omega, show (p - last).toNat = 0 by omega, show (last - (p - j)).toNat = k + j by omega, show (p - (j : Int) - last).toNat = 0 by omega, Nat.shiftLeft_zero, Nat.shiftLeft_zero, cut_even _ _ _ (by rw [hl]; omega), cut_even _ _ _ (by omega)]
    exact rne_scale m j k

theorem read_two : Ieee.double.read 4611686018427387904 = .number false 4503599627370496 (-51) := by decide
def ftwo (y : Nat) : Nat := (floatBits .mul .f64 4611686018427387904 y).getD 0
theorem two_val {y : Nat} (hy : Fin64 y) (h0 : fval y ≠ 0) (h : (2 * fval y).natAbs < 128 * capM) : floatBits .mul .f64 4611686018427387904 y = some (ftwo y) ∧ Fin64 (ftwo y) ∧ fval (ftwo y) = 2 * fval y := by
  obtain ⟨e, he, r, v⟩ := read_fin hy
  have hm : fman y ≠ 0 := by
    intro hm
    apply h0
    rw [v, hm]
    simp
  have hb := cap_lt h
  have hmul : floatBits .mul .f64 4611686018427387904 y = some (Ieee.double.nearest (fneg y) (fman y * 2) ((e : Int) - 1074)) := by
    show ((Ieee.double.read 4611686018427387904).product (Ieee.double.read y)).map Ieee.double.write = _
    rw [read_two, r]
    show some (Ieee.double.nearest (false ^^ fneg y) (4503599627370496 * fman y) (-51 + ((e : Int) - 1074))) = _
    congr 1
    have h1 := nearest_scale (fneg y) (fman y * 2) 51 ((e : Int) - 1074) (by omega) (by omega)
    rw [← h1, Bool.false_xor, show fman y * 2 * 2 ^ 51 = 4503599627370496 * fman y by omega, show (-51 : Int) + ((e : Int) - 1074) = (e : Int) - 1074 - ((51 : Nat) : Int) by omega]
  have hval : (fman y * 2) * 2 ^ e = (2 * fval y).natAbs := by
    rw [v, Int.natAbs_mul, Int.natAbs_mul, show (sgnI (fneg y)).natAbs = 1 by cases fneg y <;> rfl, Nat.one_mul, Int.natAbs_natCast, Nat.mul_comm (fman y) 2, Nat.mul_assoc]
    rfl
  have hw := write_val (fneg y) (fman y * 2) e (by rw [hval]; exact hb)
  have e1 : ftwo y = Ieee.double.nearest (fneg y) (fman y * 2) ((e : Int) - 1074) := by unfold ftwo; rw [hmul]; rfl
  rw [e1]
  refine ⟨hmul, hw.1, ?_⟩
  rw [hw.2]
  have hrep : Rep (2 * fval y) := by
    obtain ⟨c, d, h1, h2, h3⟩ := rep_fval y
    exact ⟨c, d + 1, h1, h2, by rw [h3, Int.pow_succ, Int.mul_left_comm, Int.mul_comm 2 (2 ^ d)]⟩
  have hr : (rndN (fman y * 2 * 2 ^ e) : Int) = ((fman y * 2 * 2 ^ e : Nat) : Int) := by
    have := rnd_abs (2 * fval y)
    rw [rnd_exact hrep, ← hval] at this
    rw [← this]
  rw [hr, v, Nat.mul_comm (fman y) 2, Nat.mul_assoc, Int.natCast_mul, Int.mul_left_comm]
  rfl
end Go.Proofs.YgctabDoor
