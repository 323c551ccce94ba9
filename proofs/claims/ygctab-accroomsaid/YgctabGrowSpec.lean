import Derived.Test.YgctabGrowable
namespace Go.Proofs.Ygctab
open Go.RowKit
set_option linter.unusedVariables false
set_option linter.unusedSimpArgs false
set_option exponentiation.threshold 6000

theorem fval_mag (p : Nat) : (fval p).natAbs = fman p * 2 ^ (fexp p + 1074).toNat := by
  unfold fval
  generalize (fexp p + 1074).toNat = k
  cases fneg p <;> simp [Int.natAbs_mul, Int.natAbs_pow]

/-- The ends of a mantissa: its lowest and its highest 1. -/
theorem ends_spec {m : Nat} (h : m < 18446744073709551616) (h0 : m ≠ 0) : ∃ l k : Nat, lowB m = l ∧ highB m = k ∧ m % 2 ^ l = 0 ∧ m / 2 ^ l % 2 = 1 ∧ 2 ^ k ≤ m ∧ m < 2 ^ (k + 1) := by
  have hm : m % 2 ^ 64 = m := Nat.mod_eq_of_lt h
  rcases endsN_spec m 64 with ⟨h1, -⟩ | ⟨l, k, e, h1, h2, h3, h4⟩
  · omega
  · rw [hm] at h3 h4
    exact ⟨l, k, by unfold lowB; rw [e], by unfold highB; rw [e], h1, h2, h3, h4⟩

theorem fman_ne {p : Nat} (h : fcls p = 1) : fman p ≠ 0 := by
  unfold fcls splitF at h
  unfold fman splitF
  split at h
  · split at h <;> simp at h
  · split at h
    · split at h
      · simp at h
      · rename_i h1 h2 h3
        rw [if_neg h1, if_pos h2, if_neg h3]
        exact h3
    · rename_i h1 h2
      rw [if_neg h1, if_neg h2]
      simp

theorem atMost_val {p : Nat} (h : atMostB p 1000 = true) : fcls p ≤ 1 ∧ (fval p).natAbs ≤ 2 ^ 2074 := by
  unfold atMostB at h
  by_cases hc : fcls p = 1
  · rw [if_pos hc] at h
    refine ⟨by omega, ?_⟩
    have hm := fman_lt p
    have hr := fexp_range p
    obtain ⟨l, k, hl, hk, m1, m2, m3, m4⟩ := ends_spec (by omega) (fman_ne hc)
    rw [hl, hk] at h
    simp only [Bool.or_eq_true, Bool.and_eq_true, decide_eq_true_eq] at h
    rw [fval_mag]
    rcases h with h | ⟨h1, h2⟩
    · have h5 : fman p * 2 ^ (fexp p + 1074).toNat ≤ 2 ^ (k + 1) * 2 ^ (fexp p + 1074).toNat := Nat.mul_le_mul_right _ (Nat.le_of_lt m4)
      rw [← Nat.pow_add] at h5
      exact Nat.le_trans h5 (Nat.pow_le_pow_right (by decide) (by omega))
    · have hlk : l = k := by omega
      subst hlk
      have h6 : fman p = 2 ^ l := by
        have e := Nat.div_add_mod (fman p) (2 ^ l)
        have hlt : fman p / 2 ^ l < 2 := by
          rw [Nat.div_lt_iff_lt_mul (two_pos l), Nat.mul_comm, ← Nat.pow_succ]
          exact m4
        have h1' : fman p / 2 ^ l = 1 := by clear e; generalize fman p / 2 ^ l = q at *; clear hm hr hl hk m3 m4 h1 h2; omega
        rw [h1', m1] at e
        omega
      rw [h6, ← Nat.pow_add]
      exact Nat.pow_le_pow_right (by decide) (by omega)
  · rw [if_neg hc] at h
    have h0 : fcls p = 0 := by simpa using h
    refine ⟨by omega, ?_⟩
    have : fman p = 0 := by
      unfold fcls splitF at h0
      unfold fman splitF
      split at h0
      · split at h0 <;> simp at h0
      · split at h0
        · split at h0
          · rename_i h1 h2 h3
            rw [if_neg h1, if_pos h2, if_pos h3]
          · simp at h0
        · simp at h0
    rw [fval_mag, this, Nat.zero_mul]
    exact Nat.zero_le _

/-- What a state that may grow holds. -/
theorem growable_spec {N x : Nat} {ps : List Nat} (hF : F64s ps) (hx : x < 18446744073709551616) (h : growableB N ps x = true) :
    N < 1024 ∧ ps.length ≤ 2098 ∧ apartL (-5000) ps = true ∧ magsL ps ≤ N * 2 ^ 2075 ∧ Fin64 x ∧ (fval x).natAbs ≤ 2 ^ 2074 ∧ (∀ p ∈ ps, Fin64 p) ∧ GrowOk ps x := by
  unfold growableB chkB at h
  simp only [Bool.and_eq_true, decide_eq_true_eq] at h
  obtain ⟨⟨h1, h2, h3, h4⟩, h5, h6⟩ := h
  obtain ⟨h7, h8⟩ := atMost_val h6
  have hp : ∀ p ∈ ps, Fin64 p := fun p hp => ⟨hF p hp, by rw [apartL_fin _ ps h3 p hp]; exact Nat.le_refl 1⟩
  refine ⟨h5, h2, h3, h4, ⟨hx, h7⟩, h8, hp, growOk ps x ⟨hx, h7⟩ hp ?_⟩
  have h9 : N * 2 ^ 2075 ≤ 1024 * 2 ^ 2075 := Nat.mul_le_mul_right _ h1
  rw [capM_eq]
  have e1 : 2 ^ 2074 + 2 * (1024 * 2 ^ 2075) ≤ 2 ^ 2090 := by decide
  refine Nat.le_trans ?_ e1
  exact Nat.add_le_add h8 (Nat.mul_le_mul_left 2 (Nat.le_trans h4 h9))
end Go.Proofs.Ygctab
