import Derived.Test.YgctabDoorCheckA
namespace Go.Proofs.YgctabDoor
open Go.RowKit
set_option linter.unusedVariables false
set_option linter.unusedSimpArgs false
set_option exponentiation.threshold 6000

def Z68 : Array Value := Array.replicate 68 (.int .u64 0)
theorem alloc40 (w : World) : (Instr.alloc 31 true (.tuple #[])).run Tabg.prog w = .ok (.pointer (some ⟨w.heap.size, 0, none⟩)) (w.alloc (.cells Z68 31)) := by kernel_rfl
@[go_sem] theorem zeroValue31 (w : World) : (zeroValue 31).run Tabg.prog w = .ok (.agg Z68) w := by kernel_rfl
theorem num_zeros (n : Nat) : num (List.replicate n 0) = 0 := by
  induction n with
  | zero => rfl
  | succ n ih => rw [List.replicate_succ, num, ih]; simp
theorem words_zeros (n : Nat) : Words (List.replicate n 0) := by
  intro x hx
  rw [List.eq_of_mem_replicate hx]
  decide
theorem AccAt.zero (w : World) : AccAt (w.alloc (.cells Z68 31)) w.heap.size (List.replicate 68 0) := by
  refine ⟨?_, by simp, words_zeros 68⟩
  have := Own.new w 31 Z68
  rw [show Z68.toList = ints .u64 (List.replicate 68 0) by rw [← ints_replicate]; rfl] at this
  exact this
theorem num_room : num ((List.replicate 68 (0 : Int)).set 49 8192) = 2 ^ 3149 := by
  have e : ∀ k : Nat, num (List.replicate k (0 : Int) ++ (8192 :: List.replicate 18 0)) = W ^ k * 8192 := by
    intro k
    induction k with
    | zero => simp [num, num_zeros]
    | succ k ih => rw [List.replicate_succ, List.cons_append, num, ih, Int.pow_succ, Int.zero_add, ← Int.mul_assoc, Int.mul_comm W]
  have h := e 49
  have h2 : (List.replicate 68 (0 : Int)).set 49 8192 = List.replicate 49 0 ++ (8192 :: List.replicate 18 0) := by decide
  rw [h2, h, W_eq]
  decide

theorem fval_abs {p : Nat} (h : p < 18446744073709551616) : fval (p % 9223372036854775808) = ((fval p).natAbs : Int) ∧ fcls (p % 9223372036854775808) = fcls p ∧ p % 9223372036854775808 < 18446744073709551616 := by
  have h1 : fld (p % 9223372036854775808) = fld p := by unfold fld; omega
  have h2 : frc (p % 9223372036854775808) = frc p := by unfold frc; omega
  have h3 : decide (9223372036854775808 ≤ p % 9223372036854775808) = false := decide_eq_false (by omega)
  refine ⟨?_, ?_, by omega⟩
  · unfold fval fneg fman fexp splitF
    rw [h1, h2, h3]
    generalize decide (9223372036854775808 ≤ p) = d
    by_cases f1 : fld p = 2047
    · simp only [if_pos f1]
      split <;> cases d <;> simp
    · simp only [if_neg f1]
      by_cases f2 : fld p = 0
      · simp only [if_pos f2]
        split <;> cases d <;> simp [Int.natAbs_mul, Int.natAbs_pow]
      · simp only [if_neg f2]
        generalize ((fld p : Int) - 1075 + 1074).toNat = k
        generalize frc p + 4503599627370496 = m
        cases d <;> simp [Int.natAbs_mul, Int.natAbs_pow]
  · unfold fcls splitF
    rw [h1, h2]
    split
    · split <;> rfl
    · split
      · split <;> rfl
      · rfl

theorem fval_lt (p : Nat) : (fval p).natAbs < 2 ^ 2098 := by
  have h1 := fman_lt p
  have h2 := fexp_range p
  have h3 : (fval p).natAbs = fman p * 2 ^ (fexp p + 1074).toNat := by
    unfold fval
    generalize (fexp p + 1074).toNat = k
    cases fneg p <;> simp [Int.natAbs_mul, Int.natAbs_pow]
  rw [h3]
  have h4 : 2 ^ (fexp p + 1074).toNat ≤ 2 ^ 2045 := Nat.pow_le_pow_right (by decide) (by omega)
  have h5 : fman p * 2 ^ (fexp p + 1074).toNat ≤ fman p * 2 ^ 2045 := Nat.mul_le_mul_left _ h4
  have h6 : fman p * 2 ^ 2045 < 2 ^ 53 * 2 ^ 2045 := Nat.mul_lt_mul_of_pos_right h1 (two_pos _)
  rw [← Nat.pow_add] at h6
  exact Nat.lt_of_le_of_lt h5 h6
end Go.Proofs.YgctabDoor
