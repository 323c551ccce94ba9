import Derived.Test.YgctabDoorGrowSpec
import Derived.Test.YgctabDoorGrowI
namespace Go.Proofs.YgctabDoor
open Go.RowKit
set_option linter.unusedVariables false
set_option linter.unusedSimpArgs false
set_option exponentiation.threshold 6000

def vals (ps : List Nat) : List Int := ps.map fval
theorem vals_cons (p : Nat) (ps : List Nat) : vals (p :: ps) = fval p :: vals ps := rfl
theorem vals_append (xs ys : List Nat) : vals (xs ++ ys) = vals xs ++ vals ys := by simp [vals]
theorem magsL_vals : ∀ ps : List Nat, magsL ps = magsI (vals ps)
  | [] => rfl
  | p :: ps => by rw [vals_cons, magsL, magsI, magsL_vals ps]

theorem fval_ne {p : Nat} (h : fcls p = 1) : fval p ≠ 0 := by
  have h1 := fman_ne h
  intro h0
  have h2 := fval_mag p
  rw [h0] at h2
  have h3 := two_pos (fexp p + 1074).toNat
  have := Nat.mul_pos (Nat.pos_of_ne_zero h1) h3
  simp at h2
  omega
theorem fcls_of {p : Nat} (h : Fin64 p) (h0 : fval p ≠ 0) : fcls p = 1 := by
  have h1 := h.2
  by_cases h2 : fcls p = 0
  · exfalso
    apply h0
    have : fman p = 0 := by
      unfold fcls splitF at h2
      unfold fman splitF
      split at h2
      · split at h2 <;> simp at h2
      · split at h2
        · split at h2
          · rename_i g1 g2 g3
            rw [if_neg g1, if_pos g2, if_pos g3]
          · simp at h2
        · simp at h2
    unfold fval
    rw [this]
    simp only [Int.natCast_zero, Int.zero_mul, Int.mul_zero]
  · omega

/-- A finite double that is not zero: its lowest and its highest digit. -/
theorem fval_ends {p : Nat} (h : fcls p = 1) : ∃ l k : Nat, lowB (fman p) + fexp p + 1074 = l ∧ highB (fman p) + fexp p + 1074 = k ∧ (fval p).natAbs.log2 = k ∧ ∀ K : Nat, ((2 ^ K : Nat) : Int) ∣ fval p ↔ K ≤ l := by
  have hm := fman_lt p
  have hr := fexp_range p
  obtain ⟨l, k, hl, hk, m1, m2, m3, m4⟩ := ends_spec (by omega) (fman_ne h)
  have hmag := fval_mag p
  obtain ⟨E, hE⟩ : ∃ E : Nat, fexp p + 1074 = E := ⟨(fexp p + 1074).toNat, by omega⟩
  have hE' : (fexp p + 1074).toNat = E := by omega
  rw [hE'] at hmag
  refine ⟨l + E, k + E, by omega, by omega, ?_, fun K => ?_⟩
  · rw [hmag, log2_mul_pow (fman_ne h)]
    congr 1
    exact (Nat.log2_eq_iff (fman_ne h)).2 ⟨m3, m4⟩
  · have e1 : ((2 ^ K : Nat) : Int) ∣ fval p ↔ 2 ^ K ∣ fman p * 2 ^ E := by
      rw [← hmag, ← Int.natCast_dvd_natCast, Int.dvd_natAbs]
    rw [e1]
    clear e1 hmag hE hE' hl hk m3 m4 hr
    generalize fman p = m at *
    constructor
    · intro hd
      apply Nat.le_of_not_lt
      intro hlt
      have h1 : 2 ^ (l + 1 + E) ∣ m * 2 ^ E := Nat.dvd_trans (Nat.pow_dvd_pow 2 (by omega)) hd
      rw [Nat.pow_add] at h1
      have h2 : 2 ^ (l + 1) ∣ m := Nat.dvd_of_mul_dvd_mul_right (two_pos E) h1
      obtain ⟨q, hq⟩ := h2
      rw [hq, Nat.pow_succ, Nat.mul_assoc, Nat.mul_div_cancel_left _ (two_pos l)] at m2
      omega
    · intro hle
      obtain ⟨q, hq⟩ := Nat.dvd_of_mod_eq_zero m1
      refine Nat.dvd_trans (Nat.pow_dvd_pow 2 hle) ?_
      rw [Nat.pow_add]
      exact Nat.mul_dvd_mul ⟨q, hq⟩ (Nat.dvd_refl _)

theorem apartL_iff : ∀ (ps : List Nat) (last : Int), (∀ p ∈ ps, Fin64 p) → (apartL last ps = true ↔ Ap (last + 1075).toNat (vals ps))
  | [], _, _ => by simp [apartL, vals, Ap]
  | p :: ps, last, hp => by
    have ih := apartL_iff ps
    rw [vals_cons]
    unfold apartL Ap
    simp only [Bool.and_eq_true, decide_eq_true_eq]
    by_cases hc : fcls p = 1
    · obtain ⟨l, k, hl, hk, hlog, hd⟩ := fval_ends hc
      rw [hlog, hd, ih _ (fun q hq => hp q (List.mem_cons_of_mem _ hq)), show (highB (fman p) + fexp p + 1075).toNat = k + 1 by omega]
      have e : last < lowB (fman p) + fexp p ↔ (last + 1075).toNat ≤ l := by omega
      rw [e]
      simp only [hc, true_and]
      have := fval_ne hc
      simp only [ne_eq, this, not_false_eq_true, true_and]
    · constructor
      · rintro ⟨h, -⟩; exact absurd h hc
      · rintro ⟨h, -⟩; exact absurd (fcls_of (hp p (List.mem_cons_self ..)) h) hc

end Go.Proofs.YgctabDoor
