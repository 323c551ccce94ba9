import Derived.Test.YgctabCx
namespace Go.Proofs.Ygctab
open Go.RowKit
set_option linter.unusedVariables false
set_option linter.unusedSimpArgs false

/-- Twos moved from the place to the magnitude turn nothing. -/
theorem nearest_scale (neg : Bool) (m t e : Nat) : Ieee.double.nearest neg (m * 2 ^ t) ((e : Int) - 1074 - t) = Ieee.double.nearest neg m ((e : Int) - 1074) := by
  unfold Ieee.Format.nearest
  by_cases h : m = 0
  · subst h
    rw [Nat.zero_mul, if_pos rfl, if_pos rfl]
  · have hp := two_pos t
    have hm : m * 2 ^ t ≠ 0 := Nat.mul_ne_zero h (by omega)
    rw [if_neg hm, if_neg h]
    have hl := log2_mul_pow h t
    have hfb : ((Ieee.double.fractionBits : Nat) : Int) = 52 := rfl
    simp only [dbl_bin, dbl_inf, dbl_lp, hl, hfb]
    rw [show (e : Int) - 1074 - (t : Int) + ((m.log2 + t : Nat) : Int) - 52 = (e : Int) - 1074 + (m.log2 : Int) - 52 by omega]
    generalize hL : max ((e : Int) - 1074 + (m.log2 : Int) - 52) (-1074) = L
    have hL1 : L ≤ (e : Int) - 1074 + (m.log2 : Int) := by omega
    congr 3
    by_cases h1 : L ≤ (e : Int) - 1074 - t
    · obtain ⟨k, hk⟩ : ∃ k : Nat, (e : Int) - 1074 - t - L = k := ⟨((e : Int) - 1074 - t - L).toNat, by omega⟩
      rw [show ((e : Int) - 1074 - t - L).toNat = k by omega, show ((e : Int) - 1074 - L).toNat = k + t by omega, show (L - ((e : Int) - 1074 - t)).toNat = 0 by omega, show (L - ((e : Int) - 1074)).toNat = 0 by omega]
      rw [Nat.shiftLeft_eq, Nat.shiftLeft_eq, Nat.mul_assoc, ← Nat.pow_add, Nat.add_comm t k]
    · by_cases h2 : L ≤ (e : Int) - 1074
      · obtain ⟨k, hk⟩ : ∃ k : Nat, (e : Int) - 1074 - L = k := ⟨((e : Int) - 1074 - L).toNat, by omega⟩
        have hkt : k < t := by omega
        rw [show ((e : Int) - 1074 - t - L).toNat = 0 by omega, show ((e : Int) - 1074 - L).toNat = k by omega, show (L - ((e : Int) - 1074 - t)).toNat = t - k by omega, show (L - ((e : Int) - 1074)).toNat = 0 by omega]
        rw [Nat.shiftLeft_zero, Nat.shiftLeft_eq, cut_even _ _ _ (by rw [hl]; omega), cut_even _ _ _ (by omega)]
        have := rne_scale (m * 2 ^ k) (t - k) 0
        rw [Nat.zero_add, Nat.mul_assoc, ← Nat.pow_add, show k + (t - k) = t by omega] at this
        exact this
      · obtain ⟨k, hk⟩ : ∃ k : Nat, L - ((e : Int) - 1074) = k := ⟨(L - ((e : Int) - 1074)).toNat, by omega⟩
        rw [show ((e : Int) - 1074 - t - L).toNat = 0 by omega, show ((e : Int) - 1074 - L).toNat = 0 by omega, show (L - ((e : Int) - 1074 - t)).toNat = k + t by omega, show (L - ((e : Int) - 1074)).toNat = k by omega]
        rw [Nat.shiftLeft_zero, Nat.shiftLeft_zero, cut_even _ _ _ (by rw [hl]; omega), cut_even _ _ _ (by omega)]
        exact rne_scale m t k

theorem log2_ge {m k : Nat} (h : 2 ^ k ≤ m) : k ≤ m.log2 := by
  have hm : m ≠ 0 := by have := two_pos k; omega
  exact (Nat.le_log2 hm).2 h

/-- A rung's number is written as that rung. -/
theorem write_rung (neg : Bool) (R : Nat) (h : R < 9218868437227405312) : ∃ m e : Nat, m < 2 ^ 53 ∧
    (if R < 4503599627370496 then Ieee.Datum.number neg R (-1074) else Ieee.Datum.number neg (4503599627370496 + R % 4503599627370496) (-1074 + ((R / 4503599627370496 - 1 : Nat) : Int))) = .number neg m ((e : Int) - 1074)
    ∧ Ieee.double.nearest neg m ((e : Int) - 1074) = Ieee.double.word neg R := by
  by_cases hs : R < 4503599627370496
  · refine ⟨R, 0, by omega, ?_, ?_⟩
    · rw [if_pos hs]; rfl
    · rw [nearest_eq, Nat.pow_zero, Nat.mul_one]
      have : ed R = 0 := by
        unfold ed
        have : R.log2 < 53 := by
          by_cases h0 : R = 0
          · subst h0; decide
          · exact (Nat.log2_lt h0).2 (by omega)
        by_cases h0 : R = 0
        · subst h0; decide
        · have := (Nat.log2_lt (k := 52) h0).2 (by omega)
          omega
      rw [this]
      have e : rne R 0 = R := by have := rne_exact (n := R) (d := 0) (by simp); simpa using this
      rw [e]
      congr 1
      omega
  · refine ⟨4503599627370496 + R % 4503599627370496, R / 4503599627370496 - 1, by omega, ?_, ?_⟩
    · rw [if_neg hs]; congr 1; first | done | omega
    · rw [nearest_eq]
      generalize hq : R / 4503599627370496 - 1 = q
      generalize hm : 4503599627370496 + R % 4503599627370496 = m
      have m1 : 2 ^ 52 ≤ m := by omega
      have m2 : m < 2 ^ 53 := by omega
      have hl : m.log2 = 52 := by
        have h1 := log2_ge m1
        have h2 := (Nat.log2_lt (k := 53) (by omega)).2 m2
        omega
      have he : ed (m * 2 ^ q) = q := by unfold ed; rw [log2_mul_pow (by omega), hl]; omega
      have hr : rne (m * 2 ^ q) q = m := by
        have := rne_scale m q 0
        rw [Nat.zero_add] at this
        rw [this]
        have e : rne m 0 = m := by have := rne_exact (n := m) (d := 0) (by simp); simpa using this
        exact e
      rw [he, hr]
      congr 1
      omega

def oneF : Nat := 4607182418800017408
theorem read_one : Ieee.double.read oneF = .number false (2 ^ 52) (-52) := by decide

theorem quo_num (neg : Bool) (m e : Nat) (hm : m < 2 ^ 53) (D : Nat) (hD : 53 ≤ D) :
    ((Ieee.Datum.number neg m ((e : Int) - 1074)).quotient D (.number false (2 ^ 52) (-52))).map Ieee.double.write = some (Ieee.double.nearest neg m ((e : Int) - 1074)) := by
  have hN : (2 ^ 52 : Nat) ≠ 0 := by decide
  generalize hNN : (2 ^ 52 : Nat) = N at hN
  simp only [Ieee.Datum.quotient, if_neg hN, Option.map_some, Ieee.Format.write]
  subst hNN
  have hl2 : (2 ^ 52).log2 = 52 := by decide
  have hl : m.log2 ≤ 52 := by
    by_cases h0 : m = 0
    · subst h0; decide
    · have := (Nat.log2_lt (k := 53) h0).2 hm; omega
  rw [hl2]
  generalize hk : D + 52 - m.log2 = k
  have hk1 : 53 ≤ k := by omega
  have hx : (neg ^^ false) = neg := by cases neg <;> rfl
  obtain ⟨j, rfl⟩ : ∃ j, k = 52 + j := ⟨k - 52, by omega⟩
  have hd : m <<< (52 + j) = m * 2 ^ j * 2 ^ 52 := by rw [Nat.shiftLeft_eq, Nat.add_comm, Nat.pow_add, Nat.mul_assoc]
  rw [hx, hd, Nat.mul_mod_left, Nat.mul_div_cancel _ (by decide)]
  show some (Ieee.double.nearest neg (2 * (m * 2 ^ j) + 0) _) = _
  have e1 : 2 * (m * 2 ^ j) + 0 = m * 2 ^ (j + 1) := by rw [Nat.pow_succ]; simp; rw [Nat.mul_comm 2, Nat.mul_assoc]
  rw [e1, ← nearest_scale neg m (j + 1) e]
  congr 2
  push_cast
  omega

theorem quo_one {a : Nat} (ha : a < 18446744073709551616) : opc .quo (cls a) (cls oneF) = cls a := by
  have h1 : cls oneF = some oneF := by decide
  rw [h1]
  unfold cls
  cases hn : nanB a with
  | true => rfl
  | false =>
    simp only [Bool.false_eq_true, if_false]
    show ((Ieee.double.read a).quotient _ (Ieee.double.read oneF)).map Ieee.double.write = some a
    rw [read_one]
    rw [nanB_iff] at hn
    have hn' : a % 9223372036854775808 ≤ 9218868437227405312 := by simpa using hn
    have hw : Ieee.double.word (a / 9223372036854775808 % 2 == 1) (a % 9223372036854775808) = a := by
      unfold Ieee.Format.word
      rw [dbl_sw]
      by_cases hh : a / 9223372036854775808 % 2 = 1
      · rw [hh]; simp; omega
      · rw [show (a / 9223372036854775808 % 2 == 1) = false by simp; omega]; simp; omega
    unfold Ieee.Format.read
    simp only [dbl_sw, dbl_bin, dbl_inf, dbl_lp]
    by_cases hi : a % 9223372036854775808 = 9218868437227405312
    · rw [if_neg (by omega), if_neg (by omega), if_pos hi]
      have hx : ∀ b : Bool, (b ^^ false) = b := by decide
      simp only [Ieee.Datum.quotient, Option.map_some, Ieee.Format.write, hx]
      rw [dbl_inf, ← hi, hw]
    · obtain ⟨m, e, m1, m2, m3⟩ := write_rung (a / 9223372036854775808 % 2 == 1) (a % 9223372036854775808) (by omega)
      have : (if a % 9223372036854775808 < 4503599627370496 then Ieee.Datum.number (a / 9223372036854775808 % 2 == 1) (a % 9223372036854775808) (-1074)
        else if a % 9223372036854775808 < 9218868437227405312 then
          Ieee.Datum.number (a / 9223372036854775808 % 2 == 1) (4503599627370496 + a % 9223372036854775808 % 4503599627370496) (-1074 + ((a % 9223372036854775808 / 4503599627370496 - 1 : Nat) : Int))
        else if a % 9223372036854775808 = 9218868437227405312 then .infinity (a / 9223372036854775808 % 2 == 1) else .nan (a / 9223372036854775808 % 2 == 1) (a % 9223372036854775808 - 9218868437227405312)) = .number (a / 9223372036854775808 % 2 == 1) m ((e : Int) - 1074) := by
        rw [← m2]
        by_cases h : a % 9223372036854775808 < 4503599627370496
        · rw [if_pos h, if_pos h]
        · rw [if_neg h, if_neg h, if_pos (by omega)]
      rw [this, quo_num _ _ _ m1 _ (by decide), m3, hw]
end Go.Proofs.Ygctab
