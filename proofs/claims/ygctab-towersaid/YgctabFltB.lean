import Derived.Test.YgctabAccI
import Derived.Test.YgctabFlt
import Derived.Laws.FloatArith
namespace Go.Proofs.Ygctab
open Go.RowKit
set_option linter.unusedVariables false
set_option linter.unusedSimpArgs false
set_option exponentiation.threshold 3000

/-! ### the words of doubles as whole numbers of 2^-1074 -/
theorem dbl_sw : Ieee.double.signWeight = 9223372036854775808 := by decide
theorem dbl_bin : Ieee.double.binade = 4503599627370496 := by decide
theorem dbl_inf : Ieee.double.infRung = 9218868437227405312 := by decide
theorem dbl_lp : Ieee.double.leastPlace = -1074 := by decide

/-- A finite double. -/
def Fin64 (p : Nat) : Prop := p < 18446744073709551616 ∧ fcls p ≤ 1

/-- The magnitude of a rung. -/
def magR (R : Nat) : Nat := if R < 4503599627370496 then R else (4503599627370496 + R % 4503599627370496) * 2 ^ (R / 4503599627370496 - 1)

def sgnI (neg : Bool) : Int := if neg then -1 else 1

theorem word_parts (neg : Bool) (R : Nat) (h : R < 9223372036854775808) : Ieee.double.word neg R < 18446744073709551616 ∧ fld (Ieee.double.word neg R) = R / 4503599627370496 ∧ frc (Ieee.double.word neg R) = R % 4503599627370496 ∧ decide (9223372036854775808 ≤ Ieee.double.word neg R) = neg := by
  unfold Ieee.Format.word fld frc
  rw [dbl_sw]
  cases neg
  · refine ⟨?_, ?_, ?_, ?_⟩ <;> simp <;> omega
  · refine ⟨?_, ?_, ?_, ?_⟩ <;> simp <;> omega

theorem word_fin (neg : Bool) (R : Nat) (h : R < 9218868437227405312) :
    Fin64 (Ieee.double.word neg R) ∧ fval (Ieee.double.word neg R) = sgnI neg * (magR R : Int) ∧ fneg (Ieee.double.word neg R) = neg ∧ (fcls (Ieee.double.word neg R) = 1 ↔ R ≠ 0) := by
  obtain ⟨h0, h1, h2, h3⟩ := word_parts neg R (by omega)
  unfold Fin64 fval fneg fman fexp fcls splitF magR
  rw [h1, h2, h3, if_neg (by omega)]
  by_cases hb : R < 4503599627370496
  · rw [if_pos (by omega), if_pos hb, Nat.mod_eq_of_lt hb]
    by_cases hz : R = 0
    · subst hz
      refine ⟨⟨h0, by simp⟩, ?_, by simp, by simp⟩
      simp only [if_true, Int.natCast_zero, Int.zero_mul, Int.mul_zero]
    · rw [if_neg hz]
      refine ⟨⟨h0, by simp⟩, by simp [sgnI], by simp, by simp [hz]⟩
  · rw [if_neg (by omega), if_neg hb]
    refine ⟨⟨h0, by simp⟩, ?_, by simp, by simp; omega⟩
    simp only [sgnI]
    rw [show ((R / 4503599627370496 : Nat) : Int) - 1075 + 1074 = ((R / 4503599627370496 - 1 : Nat) : Int) by omega, Int.toNat_natCast]
    rw [Int.natCast_mul, Int.natCast_pow, Nat.add_comm]
    rfl

theorem read_fin {p : Nat} (h : Fin64 p) : ∃ e : Nat, e ≤ 2045 ∧ Ieee.double.read p = .number (fneg p) (fman p) ((e : Int) - 1074) ∧ fval p = sgnI (fneg p) * ((fman p * 2 ^ e : Nat) : Int) := by
  obtain ⟨h0, h1⟩ := h
  have hr : p % 9223372036854775808 / 4503599627370496 = fld p := by unfold fld; omega
  have hr2 : p % 9223372036854775808 % 4503599627370496 = frc p := by unfold frc; omega
  have hn : (p / 9223372036854775808 % 2 == 1) = decide (9223372036854775808 ≤ p) := by
    by_cases hs : 9223372036854775808 ≤ p
    · rw [decide_eq_true hs]; simp; omega
    · rw [decide_eq_false hs]; simp; omega
  unfold Ieee.Format.read
  simp only [dbl_sw, dbl_bin, dbl_inf, dbl_lp, hn, hr, hr2]
  generalize hR : p % 9223372036854775808 = R at *
  unfold fval fneg fman fexp sgnI
  unfold fcls splitF at h1
  unfold splitF
  by_cases f1 : fld p = 2047
  · rw [if_pos f1] at h1
    split at h1 <;> simp at h1
  · simp only [if_neg f1] at h1 ⊢
    have hf : fld p < 2048 := by unfold fld; omega
    by_cases f2 : fld p = 0
    · simp only [if_pos f2]
      refine ⟨0, by omega, ?_, ?_⟩
      · rw [if_pos (by omega)]
        by_cases f3 : frc p = 0
        · rw [if_pos f3, show R = 0 by omega]; rfl
        · rw [if_neg f3, show R = frc p by omega]; rfl
      · by_cases f3 : frc p = 0
        · rw [if_pos f3]
          simp only [Int.natCast_zero, Int.zero_mul, Int.mul_zero, Nat.zero_mul]
        · rw [if_neg f3]; simp
    · simp only [if_neg f2]
      refine ⟨fld p - 1, by omega, ?_, ?_⟩
      · rw [if_neg (by omega), if_pos (by omega), Nat.add_comm, Int.add_comm]
        simp only [Ieee.Datum.number.injEq, true_and]
        omega
      · rw [show (fld p : Int) - 1075 + 1074 = ((fld p - 1 : Nat) : Int) by omega, Int.toNat_natCast]
        rw [Int.natCast_mul, Int.natCast_pow]
        rfl

theorem log2_mul_pow {m : Nat} (h : m ≠ 0) (e : Nat) : (m * 2 ^ e).log2 = m.log2 + e := by
  have hp := two_pos e
  have hne : m * 2 ^ e ≠ 0 := Nat.mul_ne_zero h (by omega)
  have h1 : 2 ^ (m.log2 + e) ≤ m * 2 ^ e := by
    rw [Nat.pow_add]
    exact Nat.mul_le_mul_right _ (Nat.log2_self_le h)
  have h2 : m * 2 ^ e < 2 ^ (m.log2 + e + 1) := by
    rw [show m.log2 + e + 1 = (m.log2 + 1) + e by omega, Nat.pow_add]
    exact Nat.mul_lt_mul_of_pos_right Nat.lt_log2_self hp
  have h3 := Nat.log2_self_le hne
  have h4 := Nat.lt_log2_self (n := m * 2 ^ e)
  have h5 := (Nat.pow_lt_pow_iff_right (a := 2) (by decide)).1 (Nat.lt_of_le_of_lt h1 h4)
  have h6 := (Nat.pow_lt_pow_iff_right (a := 2) (by decide)).1 (Nat.lt_of_le_of_lt h3 h2)
  omega

theorem cut_even (neg : Bool) (n d : Nat) (h : d ≤ n.log2 + 2) : Ieee.Toward.even.cut neg n d = rne n d := by
  unfold Ieee.Toward.cut rne
  simp only [Nat.min_eq_left h, Nat.one_shiftLeft]
  congr 1
  by_cases hc : 2 ^ d < 2 * (n % 2 ^ d) ∨ (2 ^ d = 2 * (n % 2 ^ d) ∧ n / 2 ^ d % 2 = 1)
  · rw [if_pos hc]
    have : (decide (2 ^ d < 2 * (n % 2 ^ d)) || (2 ^ d == 2 * (n % 2 ^ d) && n / 2 ^ d % 2 == 1)) = true := by
      simpa using hc
    rw [this]; rfl
  · rw [if_neg hc]
    have : (decide (2 ^ d < 2 * (n % 2 ^ d)) || (2 ^ d == 2 * (n % 2 ^ d) && n / 2 ^ d % 2 == 1)) = false := by
      rw [Bool.eq_false_iff]
      intro hh
      exact hc (by simpa using hh)
    rw [this]; rfl

theorem rne_scale (m e d : Nat) : rne (m * 2 ^ e) (d + e) = rne m d := by
  have hp := two_pos e
  unfold rne
  rw [Nat.pow_add, Nat.mul_div_mul_right _ _ hp, Nat.mul_mod_mul_right]
  have h1 : (2 ^ d * 2 ^ e < 2 * (m % 2 ^ d * 2 ^ e)) ↔ 2 ^ d < 2 * (m % 2 ^ d) := by
    rw [← Nat.mul_assoc]
    exact Nat.mul_lt_mul_right hp
  have h2 : (2 ^ d * 2 ^ e = 2 * (m % 2 ^ d * 2 ^ e)) ↔ 2 ^ d = 2 * (m % 2 ^ d) := by
    rw [← Nat.mul_assoc]
    exact Nat.mul_left_inj (by omega)
  simp only [h1, h2]

theorem nearest_eq (neg : Bool) (m e : Nat) : Ieee.double.nearest neg m ((e : Int) - 1074) = Ieee.double.word neg (min (ed (m * 2 ^ e) * 4503599627370496 + rne (m * 2 ^ e) (ed (m * 2 ^ e))) 9218868437227405312) := by
  unfold Ieee.Format.nearest
  by_cases h : m = 0
  · subst h
    rw [if_pos rfl, Nat.zero_mul]
    have : min (ed 0 * 4503599627370496 + rne 0 (ed 0)) 9218868437227405312 = 0 := by decide
    rw [this]
  · rw [if_neg h]
    simp only [dbl_bin, dbl_inf, dbl_lp]
    have hl := log2_mul_pow h e
    have hfb : ((Ieee.double.fractionBits : Nat) : Int) = 52 := rfl
    have hlast : max ((e : Int) - 1074 + (m.log2 : Int) - (Ieee.double.fractionBits : Int)) (-1074) = (ed (m * 2 ^ e) : Int) - 1074 := by
      unfold ed
      rw [hl, hfb]
      omega
    rw [hlast, show ((ed (m * 2 ^ e) : Int) - 1074 - -1074).toNat = ed (m * 2 ^ e) by omega]
    congr 3
    by_cases hd : ed (m * 2 ^ e) ≤ e
    · rw [show ((ed (m * 2 ^ e) : Int) - 1074 - ((e : Int) - 1074)).toNat = 0 by omega, show ((e : Int) - 1074 - ((ed (m * 2 ^ e) : Int) - 1074)).toNat = e - ed (m * 2 ^ e) by omega, cut_even _ _ _ (by omega), Nat.shiftLeft_eq]
      generalize ed (m * 2 ^ e) = d at *
      obtain ⟨k, rfl⟩ : ∃ k, e = d + k := ⟨e - d, by omega⟩
      have h1 := rne_scale (m * 2 ^ k) d 0
      rw [Nat.zero_add] at h1
      rw [show d + k - d = k by omega, ← h1, Nat.mul_assoc, ← Nat.pow_add, Nat.add_comm k d]
    · rw [show ((e : Int) - 1074 - ((ed (m * 2 ^ e) : Int) - 1074)).toNat = 0 by omega, show ((ed (m * 2 ^ e) : Int) - 1074 - ((e : Int) - 1074)).toNat = ed (m * 2 ^ e) - e by omega, Nat.shiftLeft_zero, cut_even _ _ _ (by unfold ed; omega)]
      generalize ed (m * 2 ^ e) = d at *
      have h1 := rne_scale m e (d - e)
      rw [show d - e + e = d by omega] at h1
      exact h1.symm

theorem magR_rung (n : Nat) : magR (ed n * 4503599627370496 + rne n (ed n)) = rndN n := by
  have h1 : rne n (ed n) ≤ 2 ^ 53 := rne_le (by rw [← Nat.pow_add]; exact ed_lt n)
  have h2 : ed n ≠ 0 → 2 ^ 52 ≤ rne n (ed n) := fun h => rne_ge (by rw [← Nat.pow_add]; exact ed_ge h)
  unfold rndN magR
  generalize rne n (ed n) = k at *
  generalize ed n = d at *
  by_cases hk : k < 4503599627370496
  · have : d = 0 := by
      by_cases hd : d = 0
      · exact hd
      · have := h2 hd; omega
    subst this
    rw [if_pos (by omega)]; omega
  · rw [if_neg (by omega)]
    by_cases hk2 : k = 9007199254740992
    · subst hk2
      rw [show (d * 4503599627370496 + 9007199254740992) / 4503599627370496 - 1 = d + 1 by omega, show (d * 4503599627370496 + 9007199254740992) % 4503599627370496 = 0 by omega, Nat.pow_succ]
      omega
    · rw [show (d * 4503599627370496 + k) / 4503599627370496 - 1 = d by omega, show 4503599627370496 + (d * 4503599627370496 + k) % 4503599627370496 = k by omega]

/-- What is written: the number, rounded. -/
theorem write_val (neg : Bool) (m e : Nat) (h : m * 2 ^ e < 2 ^ 2097) :
    Fin64 (Ieee.double.nearest neg m ((e : Int) - 1074)) ∧ fval (Ieee.double.nearest neg m ((e : Int) - 1074)) = sgnI neg * (rndN (m * 2 ^ e) : Int) := by
  have h1 : rne (m * 2 ^ e) (ed (m * 2 ^ e)) ≤ 2 ^ 53 := rne_le (by rw [← Nat.pow_add]; exact ed_lt _)
  have h2 : ed (m * 2 ^ e) ≤ 2044 := ed_le h
  have h3 : ed (m * 2 ^ e) * 4503599627370496 + rne (m * 2 ^ e) (ed (m * 2 ^ e)) < 9218868437227405312 := by omega
  rw [nearest_eq, Nat.min_eq_left (by omega)]
  obtain ⟨g1, g2, -, -⟩ := word_fin neg _ h3
  rw [magR_rung] at g2
  exact ⟨g1, g2⟩

theorem signed_eq (neg : Bool) (m k : Nat) : Ieee.signed neg m k = sgnI neg * ((m * 2 ^ k : Nat) : Int) := by
  unfold Ieee.signed sgnI
  rw [Nat.shiftLeft_eq]
  cases neg <;> simp

theorem sum_val (s t : Bool) (m n e1 e2 : Nat) (h : (sgnI s * ((m * 2 ^ e1 : Nat) : Int) + sgnI t * ((n * 2 ^ e2 : Nat) : Int)).natAbs < 2 ^ 2097) :
    ∃ z, ((Ieee.Datum.number s m ((e1 : Int) - 1074)).sum (.number t n ((e2 : Int) - 1074))).map Ieee.double.write = some z ∧ Fin64 z ∧ fval z = rnd (sgnI s * ((m * 2 ^ e1 : Nat) : Int) + sgnI t * ((n * 2 ^ e2 : Nat) : Int)) := by
  unfold Ieee.Datum.sum
  simp only [Option.map_some]
  refine ⟨_, rfl, ?_⟩
  have hb : min ((e1 : Int) - 1074) ((e2 : Int) - 1074) = ((min e1 e2 : Nat) : Int) - 1074 := by omega
  rw [hb]
  generalize hB : min e1 e2 = B at *
  rw [show ((e1 : Int) - 1074 - ((B : Int) - 1074)).toNat = e1 - B by omega, show ((e2 : Int) - 1074 - ((B : Int) - 1074)).toNat = e2 - B by omega, signed_eq, signed_eq]
  have hs : ∀ (s : Bool) (m e1 : Nat), B ≤ e1 → sgnI s * ((m * 2 ^ e1 : Nat) : Int) = sgnI s * ((m * 2 ^ (e1 - B) : Nat) : Int) * ((2 ^ B : Nat) : Int) := by
    intro s m e1 hle
    rw [Int.mul_assoc, ← Int.natCast_mul, Nat.mul_assoc, ← Nat.pow_add, show e1 - B + B = e1 by omega]
  rw [hs s m e1 (by omega), hs t n e2 (by omega), ← Int.add_mul] at h ⊢
  generalize sgnI s * ((m * 2 ^ (e1 - B) : Nat) : Int) + sgnI t * ((n * 2 ^ (e2 - B) : Nat) : Int) = T at *
  rw [Int.natAbs_mul, Int.natAbs_natCast] at h
  unfold Ieee.Format.write
  obtain ⟨g1, g2⟩ := write_val (if T = 0 then s && t else decide (T < 0)) T.natAbs B h
  refine ⟨g1, ?_⟩
  rw [g2]
  unfold rnd
  rw [Int.natAbs_mul, Int.natAbs_natCast]
  have hp : 0 < ((2 ^ B : Nat) : Int) := by have := two_pos B; omega
  by_cases hT : T = 0
  · subst hT
    simp [show rndN 0 = 0 by decide]
  · rw [if_neg hT]
    by_cases hT' : T < 0
    · rw [decide_eq_true hT', if_pos (Int.mul_neg_of_neg_of_pos hT' hp)]
      simp [sgnI]
    · rw [decide_eq_false hT', if_neg (by have := Int.mul_nonneg (show 0 ≤ T by omega) (Int.le_of_lt hp); omega)]
      simp [sgnI]

theorem add_val {x y : Nat} (hx : Fin64 x) (hy : Fin64 y) (h : (fval x + fval y).natAbs < 2 ^ 2097) : ∃ z, floatBits .add .f64 x y = some z ∧ Fin64 z ∧ fval z = rnd (fval x + fval y) := by
  obtain ⟨e1, -, r1, v1⟩ := read_fin hx
  obtain ⟨e2, -, r2, v2⟩ := read_fin hy
  rw [v1, v2] at h ⊢
  have := sum_val (fneg x) (fneg y) (fman x) (fman y) e1 e2 h
  rw [← r1, ← r2] at this
  exact this

theorem sub_val {x y : Nat} (hx : Fin64 x) (hy : Fin64 y) (h : (fval x - fval y).natAbs < 2 ^ 2097) : ∃ z, floatBits .sub .f64 x y = some z ∧ Fin64 z ∧ fval z = rnd (fval x - fval y) := by
  obtain ⟨e1, -, r1, v1⟩ := read_fin hx
  obtain ⟨e2, -, r2, v2⟩ := read_fin hy
  have hv : fval x - fval y = sgnI (fneg x) * ((fman x * 2 ^ e1 : Nat) : Int) + sgnI (!fneg y) * ((fman y * 2 ^ e2 : Nat) : Int) := by
    rw [v1, v2, show sgnI (!fneg y) = - sgnI (fneg y) by cases fneg y <;> rfl, Int.neg_mul]
    omega
  rw [hv] at h ⊢
  have := sum_val (fneg x) (!fneg y) (fman x) (fman y) e1 e2 h
  rw [← r1, show Ieee.Datum.number (!fneg y) (fman y) ((e2 : Int) - 1074) = (Ieee.double.read y).opposite by rw [r2]; rfl] at this
  exact this

theorem rep_fval (p : Nat) : Rep (fval p) := by
  have := fman_lt p
  unfold fval
  cases fneg p
  · exact ⟨fman p, (fexp p + 1074).toNat, by omega, by omega, by simp⟩
  · exact ⟨-fman p, (fexp p + 1074).toNat, by omega, by omega, by simp [Int.neg_mul]⟩
end Go.Proofs.Ygctab
