import Derived.Test.YgctabDoorNum
namespace Go.Proofs.YgctabDoor
set_option linter.unusedVariables false
set_option exponentiation.threshold 6000

theorem W_two (q s : Nat) : (2 : Int) ^ (64 * q + s) = W ^ q * 2 ^ s := by
  rw [Int.pow_add, Int.pow_mul, W_eq]
  rfl
theorem ipow_pos (s : Nat) : (0 : Int) < 2 ^ s := Int.pow_pos (by decide)

theorem word_div {xs : List Int} (h : Words xs) {q : Nat} (hq : q < xs.length) : num xs / W ^ q = xs[q]?.getD 0 + W * num (xs.drop (q + 1)) := by
  have h1 := num_split hq
  have h2 := num_range (words_take h q)
  have hl : (xs.take q).length = q := by simp; omega
  rw [hl] at h2
  have e : num xs = num (xs.take q) + (xs[q]?.getD 0 + W * num (xs.drop (q + 1))) * W ^ q := by
    rw [h1, Int.add_mul, Int.pow_succ, Int.add_assoc]
    congr 2
    rw [Int.mul_comm (W ^ q) W, Int.mul_assoc, Int.mul_assoc, Int.mul_comm (W ^ q)]
  rw [e, Int.add_mul_ediv_right _ _ (Int.ne_of_gt (W_pos q)), Int.ediv_eq_zero_of_lt h2.1 h2.2, Int.zero_add]

/-- A digit of a row of words, found in its word. -/
theorem word_bit {xs : List Int} (h : Words xs) {q s : Nat} (hq : q < xs.length) (hs : s < 64) : num xs / 2 ^ (64 * q + s) % 2 = xs[q]?.getD 0 / 2 ^ s % 2 := by
  rw [W_two, ← Int.ediv_ediv_of_nonneg (Int.le_of_lt (W_pos q)), word_div h hq]
  have e : W = 2 ^ s * (2 * 2 ^ (63 - s)) := by
    rw [Int.mul_left_comm, ← Int.pow_add, show s + (63 - s) = 63 by omega, W_eq]
    rfl
  rw [e, Int.mul_assoc, Int.add_mul_ediv_left _ _ (Int.ne_of_gt (ipow_pos s)), Int.mul_assoc, Int.add_mul_emod_self_left]

theorem bit_next (X : Int) (i : Nat) : X / 2 ^ i = 2 * (X / 2 ^ (i + 1)) + X / 2 ^ i % 2 := by
  have : X / 2 ^ (i + 1) = X / 2 ^ i / 2 := by
    rw [Int.pow_succ, Int.ediv_ediv_of_nonneg (Int.le_of_lt (ipow_pos i))]
  rw [this]
  omega
theorem lt_of_div {X Y : Int} {i : Nat} (h : X / 2 ^ i < Y / 2 ^ i) : X < Y := by
  apply Int.lt_of_not_ge
  intro hge
  have := Int.ediv_le_ediv (ipow_pos i) hge
  omega

/-- The order of two rows whose top digits are the same is the order of their numbers. -/
theorem sv_sub_same {m n : Int} (h : m < Half ↔ n < Half) : sv m - sv n = m - n := by
  unfold sv
  by_cases h1 : m < Half
  · rw [if_pos h1, if_pos (h.1 h1)]
  · rw [if_neg h1, if_neg (fun h2 => h1 (h.2 h2))]; omega
end Go.Proofs.YgctabDoor
