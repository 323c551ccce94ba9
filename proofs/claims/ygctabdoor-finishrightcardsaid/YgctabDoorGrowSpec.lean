import Derived.Test.YgctabDoorCheckC
namespace Go.Proofs.YgctabDoor
open Go.RowKit
set_option linter.unusedVariables false
set_option linter.unusedSimpArgs false
set_option exponentiation.threshold 6000

theorem fval_mag (p : Nat) : (fval p).natAbs = fman p * 2 ^ (fexp p + 1074).toNat := by
  unfold fval
  generalize (fexp p + 1074).toNat = k
  cases fneg p <;> simp [Int.natAbs_mul, Int.natAbs_pow]

/-- The ends of a mantissa: its lowest and its highest 1. -/
theorem ends_spec {m : Nat} (h : m < 18446744073709551616) (h0 : m ≠ 0) : ∃ l k : Nat, lowB m = l ∧ highB m = k ∧ m % 2 ^ l = 0 ∧ m / 2 ^ l % 2 = 1 ∧ 2 ^ k ≤ m ∧ m < 2 ^ (k + 1) := by
  have hm : m % 2 ^ 64 = m := Nat.mod_eq_of_lt h
  rcases endsN_spec m 64 with ⟨h1, -⟩ | ⟨l, k, e, h1, h2, h3, h4⟩
  · omega
  · rw [hm] at h3 h4
    exact ⟨l, k, by unfold lowB; rw [e], by unfold highB; rw [e], h1, h2, h3, h4⟩

theorem fman_ne {p : Nat} (h : fcls p = 1) : fman p ≠ 0 := by
  unfold fcls splitF at h
  unfold fman splitF
  split at h
  · split at h <;> simp at h
  · split at h
    · split at h
      · simp at h
      · rename_i h1 h2 h3
        rw [if_neg h1, if_pos h2, if_neg h3]
        exact h3
    · rename_i h1 h2
      rw [if_neg h1, if_neg h2]
      simp

end Go.Proofs.YgctabDoor
