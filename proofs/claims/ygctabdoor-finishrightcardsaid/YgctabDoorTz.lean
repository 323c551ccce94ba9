import Derived.Test.YgctabDoorAccT
import Derived.Test.YgctabDoorLen64
import Derived.Lib.ItoaNum
namespace Go.Proofs.YgctabDoor
open Go.RowKit
set_option linter.unusedVariables false
set_option linter.unusedSimpArgs false

/-- The library's table. -/
def dbT : List Nat := [0, 1, 56, 2, 57, 49, 28, 3, 61, 58, 42, 50, 38, 29, 17, 4, 62, 47, 59, 36, 45, 43, 51, 22, 53, 39, 33, 30, 24, 18, 12, 5, 63, 55, 48, 27, 60, 41, 37, 16, 46, 35, 44, 21, 52, 32, 23, 11, 54, 26, 40, 15, 34, 20, 31, 10, 25, 14, 19, 9, 13, 8, 7, 6]
/-- The world holds the table. -/
def TabG (w : World) : Prop := ∀ i, i < 64 → w.cell? ⟨1, i, none⟩ = some (.int .u8 ((dbT[i]?.getD 0 : Nat) : Int))
theorem TabG.up {w w' : World} (h : TabG w) (u : Up w w') : TabG w' := fun i hi => u.cell (h i hi)

theorem low_and {x z k : Nat} (hx : x < 18446744073709551616) (h : x = 2 ^ z * (2 * k + 1)) : x &&& (18446744073709551616 - x) = 2 ^ z := by
  have hp := Nat.pow_pos (n := z) (show 0 < 2 by decide)
  have hz : z < 64 := by
    have : 2 ^ z ≤ x := by rw [h]; exact Nat.le_mul_of_pos_right _ (by omega)
    have h2 : 2 ^ z < 2 ^ 64 := by omega
    exact (Nat.pow_lt_pow_iff_right (by decide)).1 h2
  have hx1 : x - 1 = 2 ^ z * (2 * k) + (2 ^ z - 1) := by
    rw [h, Nat.mul_add, Nat.mul_one]
    generalize 2 ^ z * (2 * k) = A
    generalize 2 ^ z = P at *
    omega
  have hx0 : 1 ≤ x := by rw [h]; exact Nat.mul_pos hp (by omega)
  have e : 18446744073709551616 - x = 2 ^ 64 - ((x - 1) + 1) := by omega
  apply Nat.eq_of_testBit_eq
  intro i
  have hlt : x - 1 < 2 ^ 64 := by omega
  have hlt2 : 2 ^ z - 1 < 2 ^ z := Nat.sub_lt hp (by decide)
  rw [Nat.testBit_and, e, Nat.testBit_two_pow_sub_succ hlt, hx1, Nat.testBit_two_pow_mul_add _ hlt2, Nat.testBit_two_pow]
  have hb : x.testBit i = (decide (z ≤ i) && (2 * k + 1).testBit (i - z)) := by
    rw [h, Nat.testBit_two_pow_mul]
  rw [hb]
  by_cases h1 : i < z
  · have : ¬ z ≤ i := by omega
    have h3 : z ≠ i := by omega
    simp [this, h3]
  · rw [if_neg h1]
    by_cases h2 : i = z
    · subst h2
      simp [hz]
    · obtain ⟨j, hj⟩ : ∃ j, i - z = j + 1 := ⟨i - z - 1, by omega⟩
      have h3 : z ≠ i := fun e => h2 e.symm
      rw [hj, Nat.testBit_succ, Nat.testBit_succ, show (2 * k + 1) / 2 = k by omega, show 2 * k / 2 = k by omega, decide_eq_false h3]
      cases k.testBit j <;> simp

theorem odd_part : ∀ (x : Nat), x ≠ 0 → ∃ z k, x = 2 ^ z * (2 * k + 1)
  | x, h => by
    by_cases ho : x % 2 = 1
    · exact ⟨0, x / 2, by rw [Nat.pow_zero, Nat.one_mul]; omega⟩
    · obtain ⟨z, k, e⟩ := odd_part (x / 2) (by omega)
      refine ⟨z + 1, k, ?_⟩
      rw [Nat.pow_succ, Nat.mul_comm (2 ^ z) 2, Nat.mul_assoc, ← e]
      omega
  termination_by x => x
  decreasing_by omega

theorem db_right : ∀ z : Fin 64, (2 ^ z.val * 285870213051353865 % 18446744073709551616 / 288230376151711744) < 64 ∧ dbT[2 ^ z.val * 285870213051353865 % 18446744073709551616 / 288230376151711744]?.getD 0 = z.val := by decide +kernel

set_option maxRecDepth 100000 in
theorem tz_any (x z k : Nat) (hx : x < 18446744073709551616) (he : x = 2 ^ z * (2 * k + 1)) (w : World) (hT : TabG w) : Calls Tabg.prog 45 #[.int .u64 x] w fun e w' => e = .returned (.int .i64 z) ∧ w = w' := by
  have h0 : x ≠ 0 := by
    rw [he]
    exact Nat.mul_ne_zero (Nat.ne_of_gt (Nat.pow_pos (by decide))) (by omega)
  have hz : z < 64 := by
    have : 2 ^ z ≤ x := by rw [he]; exact Nat.le_mul_of_pos_right _ (by omega)
    have h2 : 2 ^ z < 2 ^ 64 := by omega
    exact (Nat.pow_lt_pow_iff_right (by decide)).1 h2
  have hne : ((x : Int) == 0) = false := by rw [beq_eq_false_iff_ne]; omega
  have w1 : IntKind.u64.wrap (-(x : Int)) = ((18446744073709551616 - x : Nat) : Int) := by rw [IntKind.wrap_u64]; omega
  have b1 : bits .and .u64 (x : Int) ((18446744073709551616 - x : Nat) : Int) = ((2 ^ z : Nat) : Int) := by
    rw [u64_and_nat x _ hx (by omega), low_and hx he]
  obtain ⟨d1, d2⟩ := db_right ⟨z, hz⟩
  simp only at d1 d2
  obtain ⟨i, hi⟩ : ∃ i, i = 2 ^ z * 285870213051353865 % 18446744073709551616 / 288230376151711744 := ⟨_, rfl⟩
  rw [← hi] at d1 d2
  have w2 : IntKind.u64.wrap (((2 ^ z : Nat) : Int) * 285870213051353865) / 288230376151711744 = (i : Int) := by
    rw [IntKind.wrap_u64, hi, Int.natCast_ediv, Int.natCast_emod, Int.natCast_mul]
    rfl
  have c := hT i d1
  rw [d2] at c
  have d3 : (i : Int) < 64 := by omega
  have d4 : (0 : Int) ≤ (i : Int) := by omega
  clear hi d2 h0 he hT d1
  generalize 2 ^ z = P at *
  generalize 18446744073709551616 - x = y at *
  go_enter Tabg.func45, Tabg.ntmps45
  go_wp2
  go_ret
  exact ⟨rfl, rfl⟩
end Go.Proofs.YgctabDoor
