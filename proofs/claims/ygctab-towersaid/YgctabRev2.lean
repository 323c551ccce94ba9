/-
  PLAIN: what the loop of the bit reversal makes: entry p of the new list is entry rv k p of the old.
-/
import Derived.Test.YgctabRev
namespace Go.Proofs.Ygctab
set_option linter.unusedVariables false

/-- The lowest m digits of B (base two) in the other order. -/
def rv : Nat → Nat → Nat
  | 0, _ => 0
  | m + 1, B => rv m (B / 2) + B % 2 * 2 ^ m

theorem rv_lt (m : Nat) : ∀ B, rv m B < 2 ^ m := by
  induction m with
  | zero => intro B; simp [rv]
  | succ m ih =>
    intro B
    have := ih (B / 2)
    rw [rv, Nat.pow_succ]
    rcases Nat.mod_two_eq_zero_or_one B with h | h <;> rw [h] <;> omega
theorem rv_zero (m : Nat) : rv m 0 = 0 := by
  induction m with
  | zero => rfl
  | succ m ih => simp [rv, ih]
theorem rv_even (m B : Nat) : rv (m + 1) (2 * B) = rv m B := by
  rw [rv, show 2 * B / 2 = B by omega, show 2 * B % 2 = 0 by omega]; omega
theorem rv_odd (m B : Nat) : rv (m + 1) (2 * B + 1) = rv m B + 2 ^ m := by
  rw [rv, show (2 * B + 1) / 2 = B by omega, show (2 * B + 1) % 2 = 1 by omega]; omega
theorem rv_top (m : Nat) : ∀ h l, h < 2 → l < 2 ^ m → rv (m + 1) (h * 2 ^ m + l) = 2 * rv m l + h := by
  induction m with
  | zero =>
    intro h l hh hl
    have : l = 0 := by simpa using hl
    subst this
    simp [rv]; omega
  | succ m ih =>
    intro h l hh hl
    rw [Nat.pow_succ] at hl
    have e1 : (h * 2 ^ (m + 1) + l) / 2 = h * 2 ^ m + l / 2 := by
      rw [Nat.pow_succ, show h * (2 ^ m * 2) = 2 * (h * 2 ^ m) by ac_rfl]; omega
    have e2 : (h * 2 ^ (m + 1) + l) % 2 = l % 2 := by
      rw [Nat.pow_succ, show h * (2 ^ m * 2) = 2 * (h * 2 ^ m) by ac_rfl]; omega
    rw [rv, e1, e2, ih h (l / 2) hh (by omega), show rv (m + 1) l = rv m (l / 2) + l % 2 * 2 ^ m from rfl, Nat.pow_succ, show l % 2 * (2 ^ m * 2) = 2 * (l % 2 * 2 ^ m) by ac_rfl]
    omega
theorem rv_rv (m : Nat) : ∀ B, B < 2 ^ m → rv m (rv m B) = B := by
  induction m with
  | zero => intro B h; simp at h; subst h; rfl
  | succ m ih =>
    intro B h
    rw [Nat.pow_succ] at h
    have e : rv (m + 1) B = B % 2 * 2 ^ m + rv m (B / 2) := by rw [rv]; omega
    rw [e, rv_top m (B % 2) _ (by omega) (rv_lt m _), ih (B / 2) (by omega)]
    omega
theorem rv_inj {m p q : Nat} (hp : p < 2 ^ m) (hq : q < 2 ^ m) (h : rv m p = rv m q) : p = q := by
  rw [← rv_rv m p hp, h, rv_rv m q hq]

theorem and_top {j m : Nat} (h : j < 2 ^ m) : j &&& 2 ^ m = 0 := by
  apply Nat.eq_of_testBit_eq
  intro i
  rw [Nat.testBit_and, Nat.testBit_two_pow]
  by_cases hi : m = i
  · subst hi
    simp [Nat.testBit_lt_two_pow h]
  · simp [hi]
theorem or_top {j m : Nat} (h : j < 2 ^ m) : j ||| 2 ^ m = j + 2 ^ m := by
  have := Nat.two_pow_add_eq_or_of_lt h 1
  rw [Nat.mul_one] at this
  rw [Nat.or_comm, ← this, Nat.add_comm]
theorem and_top1 {j m : Nat} (h : j < 2 ^ m) : (j + 2 ^ m) &&& 2 ^ m ≠ 0 := by
  rw [← or_top h]
  intro h0
  have : ((j ||| 2 ^ m) &&& 2 ^ m).testBit m = true := by simp [Nat.testBit_and, Nat.testBit_or, Nat.testBit_two_pow_self]
  rw [h0] at this
  simp at this
theorem xor_top1 {j m : Nat} (h : j < 2 ^ m) : (j + 2 ^ m) ^^^ 2 ^ m = j := by
  rw [← or_top h]
  apply Nat.eq_of_testBit_eq
  intro i
  rw [Nat.testBit_xor, Nat.testBit_or, Nat.testBit_two_pow]
  by_cases hi : m = i
  · subst hi
    simp [Nat.testBit_lt_two_pow h]
  · simp [hi]

theorem nxt_rv (m : Nat) : ∀ f i, m ≤ f → i + 1 < 2 ^ m → nxt f (2 ^ m / 2) (rv m i) = rv m (i + 1) := by
  induction m with
  | zero => intro f i hf h; simp at h
  | succ m ih =>
    intro f i hf h
    rw [Nat.pow_succ] at h
    rw [show 2 ^ (m + 1) / 2 = 2 ^ m by rw [Nat.pow_succ]; omega]
    have hp : 0 < 2 ^ m := Nat.pow_pos (by decide)
    have hl := rv_lt m (i / 2)
    rcases Nat.mod_two_eq_zero_or_one i with hi | hi
    · have e1 : rv (m + 1) i = rv m (i / 2) := by rw [rv, hi]; omega
      have e2 : rv (m + 1) (i + 1) = rv m (i / 2) + 2 ^ m := by rw [rv, show (i + 1) / 2 = i / 2 by omega, show (i + 1) % 2 = 1 by omega]; omega
      rw [e1, e2, nxt_stop (.inr (and_top hl)), or_top hl]
    · have e1 : rv (m + 1) i = rv m (i / 2) + 2 ^ m := by rw [rv, hi]; omega
      have e2 : rv (m + 1) (i + 1) = rv m (i / 2 + 1) := by rw [rv, show (i + 1) / 2 = i / 2 + 1 by omega, show (i + 1) % 2 = 0 by omega]; omega
      obtain ⟨g, rfl, _, hg⟩ := nxt_go (f := f) hp (Nat.lt_of_lt_of_le (Nat.pow_lt_pow_right (by decide) (Nat.lt_succ_self m)) (Nat.pow_le_pow_right (by decide) hf)) (and_top1 hl)
      rw [e1, hg, xor_top1 hl, e2]
      exact ih g (i / 2) (by omega) (by omega)

theorem revN_snd {α : Type} (z : α) (xs : List α) (k : Nat) (hk : k ≤ 64) (h : xs.length = 2 ^ k) : ∀ i, i < 2 ^ k → (revN z xs i).2 = rv k i := by
  intro i
  induction i with
  | zero => intro _; rw [rv_zero]; rfl
  | succ i ih =>
    intro hi
    rw [revN, ih (by omega), h]
    exact nxt_rv k 64 i hk hi

theorem swapL_at {α : Type} (z : α) (xs : List α) {i j : Nat} (hi : i < xs.length) (hj : j < xs.length) (hij : i ≠ j) (p : Nat) : (swapL z xs i j)[p]? = if p = i then xs[j]? else if p = j then xs[i]? else xs[p]? := by
  unfold swapL
  rw [List.getElem?_set, List.getElem?_set]
  simp only [List.length_set, List.getElem?_eq_getElem hi, List.getElem?_eq_getElem hj, Option.getD_some]
  by_cases h1 : p = j
  · subst h1
    simp [hj, Ne.symm hij]
  · by_cases h2 : p = i
    · subst h2
      simp [Ne.symm h1, hi]
    · simp [Ne.symm h1, Ne.symm h2, h1, h2]

theorem revN_fst {α : Type} (z : α) (xs : List α) (k : Nat) (hk : k ≤ 64) (h : xs.length = 2 ^ k) : ∀ i, i ≤ 2 ^ k → ∀ p, p < 2 ^ k → (revN z xs i).1[p]? = if p < i ∨ rv k p < i then xs[rv k p]? else xs[p]? := by
  intro i
  induction i with
  | zero => intro _ p hp; simp [revN]
  | succ i ih =>
    intro hi p hp
    have ih := ih (by omega)
    have hj := rv_lt k i
    have hjj := rv_rv k i (by omega)
    rw [revN, revN_snd z xs k hk h i (by omega)]
    by_cases hlt : i < rv k i
    · rw [if_pos hlt, swapL_at z _ (by rw [revN_length, h]; omega) (by rw [revN_length, h]; exact hj) (by omega), ih (rv k i) hj, ih i (by omega), ih p hp, hjj]
      by_cases h1 : p = i
      · subst h1
        have hn : ¬ (rv k p < p) := by omega
        simp [hn]
      · by_cases h2 : p = rv k i
        · subst h2
          rw [hjj]
          simp [h1]
          omega
        · have h3 : rv k p ≠ i := by
            intro h3
            apply h2
            rw [← h3, rv_rv k p hp]
          simp only [h1, h2, if_false]
          have e : (p < i + 1 ∨ rv k p < i + 1) ↔ (p < i ∨ rv k p < i) := by omega
          simp only [e]
    · rw [if_neg hlt, ih p hp]
      by_cases h1 : p = i
      · subst h1
        by_cases h2 : rv k p = p
        · rw [h2]; simp
        · have h3 : rv k p < p := by omega
          simp [h3]
      · by_cases h2 : rv k p = i
        · have h3 : p = rv k i := by rw [← h2, rv_rv k p hp]
          have h4 : p < i := by omega
          simp [h4]
          intro h5
          omega
        · have e : (p < i + 1 ∨ rv k p < i + 1) ↔ (p < i ∨ rv k p < i) := by omega
          simp only [e]

/-- The bit reversal's list. -/
theorem revL_at {α : Type} (z : α) (xs : List α) (k : Nat) (hk : k ≤ 64) (h : xs.length = 2 ^ k) (p : Nat) (hp : p < 2 ^ k) : (revL z xs)[p]? = xs[rv k p]? := by
  unfold revL
  rw [h, revN_fst z xs k hk h _ (Nat.le_refl _) p hp, if_pos (.inl hp)]
end Go.Proofs.Ygctab
