import Derived.Test.YgctabFftR
import Derived.Test.YgctabConv2
namespace Go.Proofs.Ygctab
open Go.RowKit
set_option linter.unusedVariables false
set_option linter.unusedSimpArgs false
set_option exponentiation.threshold 5000

theorem fft_all {k : Nat} {w a : Nat → GI} {s A' : Nat} {T X : Nat → Cx} (hw : Wk k w s) (hk : 1 ≤ k) (hk' : k ≤ 10) (ha : ∀ i, Bd (a i) (2 * A')) (hA : SU ≤ A') (hA2 : A' ≤ 2 ^ 1200)
    (hT : ∀ j, j < 2 ^ (k - 1) → CV (T j) (w j)) (hX : ∀ p, p < 2 ^ k → CV (X p) (a (rv k p))) :
    ∀ t, t ≤ k → ∀ p, p < 2 ^ k → ∃ z, CV (stX k T X t p) z ∧ Bd (((z.sc (SU : Int)).sub (Dg k w a t (rv (k - t) (p / 2 ^ t)) (p % 2 ^ t))).sc (KU : Int)) (t * (2 ^ t * (2 * A' * SU))) := by
  intro t
  induction t with
  | zero =>
    intro _ p hp
    refine ⟨a (rv k p), hX p hp, ?_⟩
    have e : ((a (rv k p)).sc (SU : Int)).sub (Dg k w a 0 (rv (k - 0) (p / 2 ^ 0)) (p % 2 ^ 0)) = GI.zero := by
      unfold Dg
      rw [Nat.pow_zero, Nat.div_one, Nat.mod_one, Nat.sub_zero]
      simp only [gsm, Nat.mul_zero, Nat.add_zero, Nat.zero_mul, hw.one]
      apply GI.ext' <;> simp only [GI.sub, GI.sc, GI.add, GI.mul, GI.zero] <;> grind
    rw [e, show GI.zero.sc (KU : Int) = GI.zero from GI.ext' (by simp only [GI.sc, GI.zero]; omega) (by simp only [GI.sc, GI.zero]; omega)]
    exact Bd.zero _
  | succ t ih =>
    intro ht p hp
    exact pass_near hw hk hk' (by omega) ha hA hA2 hT (ih (by omega)) p hp

/-- The whole transform. -/
theorem fft_near {k : Nat} {w a : Nat → GI} {s A' : Nat} {T X : Nat → Cx} (hw : Wk k w s) (hk : 1 ≤ k) (hk' : k ≤ 10) (ha : ∀ i, Bd (a i) (2 * A')) (hA : SU ≤ A') (hA2 : A' ≤ 2 ^ 1200)
    (hT : ∀ j, j < 2 ^ (k - 1) → CV (T j) (w j)) (hX : ∀ p, p < 2 ^ k → CV (X p) (a (rv k p))) (p : Nat) (hp : p < 2 ^ k) :
    ∃ z, CV (stX k T X k p) z ∧ Bd (((z.sc (SU : Int)).sub (gsm (2 ^ k) fun i => (a i).mul (w (i * p)))).sc (KU : Int)) (k * (2 ^ k * (2 * A' * SU))) := by
  obtain ⟨z, h1, h2⟩ := fft_all hw hk hk' ha hA hA2 hT hX k (Nat.le_refl _) p hp
  refine ⟨z, h1, ?_⟩
  rw [Nat.sub_self, Nat.div_eq_of_lt hp, Nat.mod_eq_of_lt hp] at h2
  have e : Dg k w a k (rv 0 0) p = gsm (2 ^ k) fun i => (a i).mul (w (i * p)) := by
    unfold Dg
    exact gsm_congr fun i _ => by rw [Nat.sub_self]; simp [rv]
  rwa [e] at h2

/-- The roots over a whole turn. -/
theorem orth {k : Nat} {w : Nat → GI} {s : Nat} (h : Wk k w s) (hk : 1 ≤ k) (r : Nat) : gsm (2 ^ k) (fun p => w (r * p)) = if 2 ^ k ∣ r then ⟨((2 ^ k : Nat) : Int) * (SU : Int), 0⟩ else GI.zero := by
  by_cases hd : 2 ^ k ∣ r
  · rw [if_pos hd]
    obtain ⟨c, rfl⟩ := hd
    have e : ∀ n, gsm n (fun p => w (2 ^ k * c * p)) = ⟨(n : Int) * (SU : Int), 0⟩ := by
      intro n
      induction n with
      | zero => apply GI.ext' <;> simp [gsm, GI.zero]
      | succ n ih =>
        rw [gsm, ih, show 2 ^ k * c * n = 0 + 2 ^ k * (c * n) by rw [Nat.zero_add, Nat.mul_assoc], h.turn hk, h.one]
        apply GI.ext' <;> simp only [GI.add] <;> grind
    exact e _
  · rw [if_neg hd]
    obtain ⟨s', q, hs, hr⟩ := odd_part k r hd
    have e : 2 ^ k = 2 ^ s' * (2 * 2 ^ (k - 1 - s')) := by rw [← Nat.pow_succ', ← Nat.pow_add]; congr 1; omega
    rw [e]
    refine gsm_cancel (2 ^ (k - 1 - s')) (2 ^ s') _ fun p => ?_
    have e2 : r * (p + 2 ^ (k - 1 - s')) = r * p + 2 ^ (k - 1) + 2 ^ k * q := by
      rw [Nat.mul_add, Nat.add_assoc]
      congr 1
      rw [hr, show 2 ^ s' * (2 * q + 1) * 2 ^ (k - 1 - s') = 2 ^ s' * 2 ^ (k - 1 - s') * (2 * q + 1) by ac_rfl, ← Nat.pow_add, show s' + (k - 1 - s') = k - 1 by omega, show 2 ^ k = 2 * 2 ^ (k - 1) by rw [← Nat.pow_succ']; congr 1; omega]
      grind
    rw [e2, h.turn hk, h.half]
end Go.Proofs.Ygctab
