import Derived.Test.YgctabDoorJoin
import Derived.Test.YgctabDoorMul2
namespace Go.Proofs.YgctabDoor
open Go.RowKit
set_option linter.unusedVariables false
set_option linter.unusedSimpArgs false
set_option exponentiation.threshold 6000

theorem join_any (man d : Nat) (w : World) (hT : TabG w) (h0 : man ≠ 0) (hm : man ≤ 9007199254740992) (hb : man * 2 ^ d < 2 ^ 2097) :
    ∃ R, R < 9218868437227405312 ∧ magR R = man * 2 ^ d ∧ Calls Tabg.prog 35 #[.int .u64 man, .int .i64 ((d : Int) - 1074), .int .i64 53, .int .i64 (-1074), .int .i64 1024] w fun r w' => r = .returned (.tuple #[.int .u64 (R : Int), .bool true]) ∧ Up w w' := by
  obtain ⟨z, k, he⟩ := odd_part man h0
  obtain ⟨L, hL⟩ : ∃ L, man.log2 + 1 = L := ⟨_, rfl⟩
  have hlo : 2 ^ man.log2 ≤ man := Nat.log2_self_le h0
  have hhi : man < 2 ^ L := by rw [← hL]; exact Nat.lt_log2_self
  have hzle : 2 ^ z ≤ man := by rw [he]; exact Nat.le_mul_of_pos_right _ (by omega)
  have hz : z < L := by rw [← Nat.pow_lt_pow_iff_right (a := 2) (by decide)]; omega
  obtain ⟨wd, hw⟩ : ∃ wd, L = z + wd := ⟨L - z, by omega⟩
  have hL54 : L ≤ 54 := by
    have : 2 ^ man.log2 < 2 ^ 54 := by omega
    have := (Nat.pow_lt_pow_iff_right (a := 2) (by decide)).1 this
    omega
  have hw53 : wd ≤ 53 := by
    by_cases hc : L ≤ 53
    · omega
    · have e53 : 2 ^ man.log2 = 2 ^ 53 := by congr 1; omega
      have hman : man = 9007199254740992 := by omega
      have : z ≠ 0 := by
        intro hz0
        subst hz0
        rw [Nat.pow_zero, Nat.one_mul] at he
        omega
      omega
  have hdL : L + d ≤ 2097 := by
    have h1 : 2 ^ (man.log2 + d) < 2 ^ 2097 := by
      rw [Nat.pow_add]
      exact Nat.lt_of_le_of_lt (Nat.mul_le_mul_right _ hlo) hb
    have := (Nat.pow_lt_pow_iff_right (a := 2) (by decide)).1 h1
    omega
  have hodd1 : 2 ^ (wd - 1) ≤ 2 * k + 1 := by
    apply Nat.le_of_mul_le_mul_left (c := 2 ^ z) _ (two_pos z)
    rw [← he, ← Nat.pow_add, show z + (wd - 1) = man.log2 by omega]
    exact hlo
  have hodd2 : 2 * k + 1 < 2 ^ wd := by
    apply Nat.lt_of_mul_lt_mul_left (a := 2 ^ z)
    rw [← he, ← Nat.pow_add, ← hw]
    exact hhi
  have hval : man * 2 ^ d = (2 * k + 1) * 2 ^ (d + z) := by
    rw [he, Nat.pow_add, Nat.mul_comm (2 ^ z), Nat.mul_assoc, Nat.mul_comm (2 ^ z)]
  by_cases hf : d + L ≤ 52
  · have hv : (2 * k + 1) * 2 ^ (d + z) < 4503599627370496 := by
      have h1 : (2 * k + 1) * 2 ^ (d + z) < 2 ^ wd * 2 ^ (d + z) := Nat.mul_lt_mul_of_pos_right hodd2 (two_pos _)
      rw [← Nat.pow_add] at h1
      have h2 : 2 ^ (wd + (d + z)) ≤ 2 ^ 52 := Nat.pow_le_pow_right (by decide) (by omega)
      omega
    refine ⟨(2 * k + 1) * 2 ^ (d + z), by omega, by rw [hval]; unfold magR; rw [if_pos hv], ?_⟩
    refine (join_low man z k L wd (d + z) _ ((d : Int) - 1074) w hT (by omega) he hL (by omega) hw hw53 (by omega) (by omega) (by omega) rfl hv).mono ?_
    rintro e w' ⟨rfl, rfl⟩
    exact ⟨rfl, Up.refl _⟩
  · obtain ⟨f, hf'⟩ : ∃ f, d + L = f + 52 := ⟨d + L - 52, by omega⟩
    have hM1 : 4503599627370496 ≤ (2 * k + 1) * 2 ^ (53 - wd) := by
      have h1 := Nat.mul_le_mul_right (2 ^ (53 - wd)) hodd1
      rw [← Nat.pow_add, show wd - 1 + (53 - wd) = 52 by omega] at h1
      omega
    have hM2 : (2 * k + 1) * 2 ^ (53 - wd) < 9007199254740992 := by
      have h1 : (2 * k + 1) * 2 ^ (53 - wd) < 2 ^ wd * 2 ^ (53 - wd) := Nat.mul_lt_mul_of_pos_right hodd2 (two_pos _)
      rw [← Nat.pow_add, show wd + (53 - wd) = 53 by omega] at h1
      omega
    have hmag : (2 * k + 1) * 2 ^ (53 - wd) * 2 ^ (f - 1) = man * 2 ^ d := by
      rw [hval, Nat.mul_assoc, ← Nat.pow_add, show 53 - wd + (f - 1) = d + z by omega]
    have cj := join_high man z k L wd f _ ((d : Int) - 1074) w hT (by omega) he hL (by omega) hw hw53 (by omega) (by omega) (by omega) (by omega) rfl hM1 hM2
    generalize (2 * k + 1) * 2 ^ (53 - wd) = M at *
    refine ⟨f * 4503599627370496 + (M - 4503599627370496), by omega, ?_, cj⟩
    unfold magR
    rw [if_neg (by omega), show (f * 4503599627370496 + (M - 4503599627370496)) % 4503599627370496 = M - 4503599627370496 by omega, show (f * 4503599627370496 + (M - 4503599627370496)) / 4503599627370496 = f by omega, show 4503599627370496 + (M - 4503599627370496) = M by omega]
    exact hmag

theorem or_sign {R : Nat} (h : R < 9223372036854775808) : bits .or .u64 (R : Int) 9223372036854775808 = ((R + 9223372036854775808 : Nat) : Int) := by
  have h1 := u64_or_nat R 9223372036854775808 (by omega) (by decide)
  rw [show (9223372036854775808 : Int) = ((9223372036854775808 : Nat) : Int) from rfl, h1]
  have := Nat.two_pow_add_eq_or_of_lt (i := 63) (b := R) (by omega) 1
  rw [Nat.mul_one] at this
  rw [Nat.or_comm, show (9223372036854775808 : Nat) = 2 ^ 63 by decide, ← this, Nat.add_comm]

set_option maxRecDepth 100000 in
theorem from64 (p : Nat) (w : World) : Calls Tabg.prog 36 #[.int .u64 p] w fun e w' => e = .returned (.float .f64 p) ∧ w = w' := by
  have c := frombits p
  go_enter Tabg.func36, Tabg.ntmps36
  go_wp2_with (simp only [frombits])
  go_ret
  exact ⟨rfl, rfl⟩

theorem word_true (R : Nat) : Ieee.double.word true R = R + 9223372036854775808 := by
  unfold Ieee.Format.word
  rw [dbl_sw]
  simp [Nat.add_comm]
theorem word_false (R : Nat) : Ieee.double.word false R = R := by
  unfold Ieee.Format.word
  simp

set_option maxRecDepth 100000 in
set_option maxHeartbeats 800000 in
theorem join64_any (neg : Bool) (man d : Nat) (w : World) (hT : TabG w) (h0 : man ≠ 0) (hm : man ≤ 9007199254740992) (hd : d ≤ 3000) (hb : man * 2 ^ d < 2 ^ 2097) :
    Calls Tabg.prog 24 #[.bool neg, .int .u64 man, .int .i16 ((d : Int) - 1074)] w fun r w' => ∃ p, r = .returned (.tuple #[.float .f64 p, .bool true]) ∧ Fin64 p ∧ fval p = sgnI neg * ((man * 2 ^ d : Nat) : Int) ∧ Up w w' := by
  obtain ⟨R, hR, hmag, cj⟩ := join_any man d w hT h0 hm hb
  have CJ : Hid (Calls Tabg.prog 35 #[.int .u64 man, .int .i64 ((d : Int) - 1074), .int .i64 53, .int .i64 (-1074), .int .i64 1024] w fun r w' => r = .returned (.tuple #[.int .u64 (R : Int), .bool true]) ∧ Up w w') := cj
  have hw := word_fin neg R hR
  rw [hmag] at hw
  have HW : Hid (Fin64 (Ieee.double.word neg R) ∧ fval (Ieee.double.word neg R) = sgnI neg * ((man * 2 ^ d : Nat) : Int)) := ⟨hw.1, hw.2.1⟩
  have b1 := or_sign (R := R) (by omega)
  clear cj hw hmag hb hT h0 hm
  have e1 : (-1074 : Int) ≤ (d : Int) - 1074 := by omega
  have e2 : (d : Int) - 1074 ≤ 2000 := by omega
  cases neg
  · rw [word_false] at HW
    have c2 := from64 R
    clear b1 hR
    go_enter Tabg.func24, Tabg.ntmps24
    go_wp2_with (fail)
    refine Calls.mono CJ.out ?_
    rintro e w1 ⟨rfl, hu1⟩
    go_wp2_with (fail)
    refine (c2 _).mono ?_
    rintro e w' ⟨rfl, rfl⟩
    go_wp2
    go_ret2
    exact ⟨R, rfl, HW.out.1, HW.out.2, hu1⟩
  · rw [word_true] at HW
    have c2 := from64 (R + 9223372036854775808)
    generalize R + 9223372036854775808 = Q at *
    clear hR
    go_enter Tabg.func24, Tabg.ntmps24
    go_wp2_with (fail)
    refine Calls.mono CJ.out ?_
    rintro e w1 ⟨rfl, hu1⟩
    go_wp2_with (fail)
    refine (c2 _).mono ?_
    rintro e w' ⟨rfl, rfl⟩
    go_wp2
    go_ret2
    exact ⟨Q, rfl, HW.out.1, HW.out.2, hu1⟩

theorem magR_lt {R S : Nat} (h : R < S) : magR R < magR S := by
  unfold magR
  have hp := two_pos (R / 4503599627370496 - 1)
  by_cases h1 : S < 4503599627370496
  · rw [if_pos (by omega), if_pos h1]; exact h
  · rw [if_neg h1]
    have hq := two_pos (S / 4503599627370496 - 1)
    by_cases h2 : R < 4503599627370496
    · rw [if_pos h2]
      have : 4503599627370496 + S % 4503599627370496 ≤ (4503599627370496 + S % 4503599627370496) * 2 ^ (S / 4503599627370496 - 1) := Nat.le_mul_of_pos_right _ hq
      omega
    · rw [if_neg h2]
      by_cases h3 : R / 4503599627370496 = S / 4503599627370496
      · rw [h3]
        exact Nat.mul_lt_mul_of_pos_right (by omega) hq
      · obtain ⟨j, hj⟩ : ∃ j, S / 4503599627370496 - 1 = (R / 4503599627370496 - 1) + 1 + j := ⟨S / 4503599627370496 - 1 - ((R / 4503599627370496 - 1) + 1), by omega⟩
        rw [hj, Nat.pow_add, Nat.pow_succ]
        generalize 2 ^ (R / 4503599627370496 - 1) = P at *
        have hj2 := two_pos j
        have h4 : (4503599627370496 + R % 4503599627370496) * P < 9007199254740992 * P := Nat.mul_lt_mul_of_pos_right (by omega) hp
        have h5 : 4503599627370496 * (P * 2 * 1) ≤ (4503599627370496 + S % 4503599627370496) * (P * 2 * 2 ^ j) := Nat.mul_le_mul (by omega) (Nat.mul_le_mul_left _ hj2)
        omega

/-- A finite double that is not zero is told by its value. -/
theorem fval_inj {x y : Nat} (hx : Fin64 x) (hy : Fin64 y) (h0 : fval x ≠ 0) (h : fval x = fval y) : x = y := by
  have hw : ∀ p, Fin64 p → ∃ neg R, p = Ieee.double.word neg R ∧ R < 9218868437227405312 := by
    intro p hp
    have hlt := hp.1
    have hc := hp.2
    refine ⟨decide (9223372036854775808 ≤ p), p % 9223372036854775808, ?_, ?_⟩
    · by_cases hs : 9223372036854775808 ≤ p
      · rw [decide_eq_true hs, word_true]; omega
      · rw [decide_eq_false hs, word_false]; omega
    · unfold fcls splitF at hc
      split at hc
      · split at hc <;> simp at hc
      · rename_i h1
        unfold fld at h1
        omega
  obtain ⟨s, R, rfl, hR⟩ := hw x hx
  obtain ⟨t, S, rfl, hS⟩ := hw y hy
  rw [(word_fin s R hR).2.1, (word_fin t S hS).2.1] at h
  rw [(word_fin s R hR).2.1] at h0
  have hm : magR R = magR S ∧ s = t := by
    cases s <;> cases t <;> simp [sgnI] at h h0 ⊢ <;> omega
  obtain ⟨hm, rfl⟩ := hm
  rcases Nat.lt_trichotomy R S with h1 | h1 | h1
  · have := magR_lt h1; omega
  · rw [h1]
  · have := magR_lt h1; omega
end Go.Proofs.YgctabDoor
