/-
  PLAIN: Gaussian integers, and how far one lies from zero.
-/
namespace Go.Proofs.Ygctab
set_option linter.unusedVariables false

structure GI where
  re : Int
  im : Int
namespace GI
def add (a b : GI) : GI := ⟨a.re + b.re, a.im + b.im⟩
def sub (a b : GI) : GI := ⟨a.re - b.re, a.im - b.im⟩
def mul (a b : GI) : GI := ⟨a.re * b.re - a.im * b.im, a.re * b.im + a.im * b.re⟩
def sc (n : Int) (a : GI) : GI := ⟨n * a.re, n * a.im⟩
def neg (a : GI) : GI := ⟨-a.re, -a.im⟩
def conj (a : GI) : GI := ⟨a.re, -a.im⟩
def zero : GI := ⟨0, 0⟩
theorem ext' {a b : GI} (h1 : a.re = b.re) (h2 : a.im = b.im) : a = b := by cases a; cases b; simp_all
end GI

/-- z lies within r of zero. -/
def Bd (z : GI) (r : Nat) : Prop := z.re * z.re + z.im * z.im ≤ (r : Int) * r

theorem sq_le {x y : Int} (hy : 0 ≤ y) (h : x * x ≤ y * y) : x ≤ y := by
  rcases Int.lt_or_le y x with h1 | h1
  · have h2 : y * y ≤ y * x := Int.mul_le_mul_of_nonneg_left (Int.le_of_lt h1) hy
    have h3 : y * x < x * x := Int.mul_lt_mul_of_pos_right h1 (by omega)
    omega
  · exact h1
theorem sq_nonneg (x : Int) : 0 ≤ x * x := by
  rcases Int.le_total 0 x with h | h
  · exact Int.mul_nonneg h h
  · have := Int.mul_nonneg (show 0 ≤ -x by omega) (show 0 ≤ -x by omega)
    rwa [Int.neg_mul_neg] at this
theorem Bd.zero (r : Nat) : Bd GI.zero r := by
  have := sq_nonneg (r : Int)
  show (0 : Int) * 0 + 0 * 0 ≤ _
  omega
theorem Bd.mono {z : GI} {r s : Nat} (h : Bd z r) (hrs : r ≤ s) : Bd z s := by
  have h1 : (r : Int) * r ≤ (s : Int) * s := by
    rw [← Int.natCast_mul, ← Int.natCast_mul]
    exact Int.ofNat_le.2 (Nat.mul_le_mul hrs hrs)
  unfold Bd at *
  omega
theorem Bd.add {z w : GI} {r s : Nat} (h : Bd z r) (k : Bd w s) : Bd (z.add w) (r + s) := by
  obtain ⟨a, b⟩ := z
  obtain ⟨c, d⟩ := w
  unfold Bd at *
  simp only [GI.add] at *
  have hr : (0 : Int) ≤ (r : Int) := by omega
  have hs : (0 : Int) ≤ (s : Int) := by omega
  have h1 : (a * c + b * d) * (a * c + b * d) ≤ ((r : Int) * s) * ((r : Int) * s) := by
    have e1 : (a * c + b * d) * (a * c + b * d) + (a * d - b * c) * (a * d - b * c) = (a * a + b * b) * (c * c + d * d) := by grind
    have e2 := sq_nonneg (a * d - b * c)
    have e3 : (a * a + b * b) * (c * c + d * d) ≤ ((r : Int) * r) * ((s : Int) * s) :=
      Int.le_trans (Int.mul_le_mul_of_nonneg_right h (by have := sq_nonneg c; have := sq_nonneg d; omega)) (Int.mul_le_mul_of_nonneg_left k (sq_nonneg _))
    have e4 : ((r : Int) * r) * ((s : Int) * s) = ((r : Int) * s) * ((r : Int) * s) := by grind
    omega
  have h2 := sq_le (Int.mul_nonneg hr hs) h1
  have e5 : (a + c) * (a + c) + (b + d) * (b + d) = (a * a + b * b) + (c * c + d * d) + 2 * (a * c + b * d) := by grind
  have e6 : ((r + s : Nat) : Int) * ((r + s : Nat) : Int) = (r : Int) * r + (s : Int) * s + 2 * ((r : Int) * s) := by
    rw [Int.natCast_add]; grind
  omega
theorem Bd.mul {z w : GI} {r s : Nat} (h : Bd z r) (k : Bd w s) : Bd (z.mul w) (r * s) := by
  obtain ⟨a, b⟩ := z
  obtain ⟨c, d⟩ := w
  unfold Bd at *
  simp only [GI.mul] at *
  have e1 : (a * c - b * d) * (a * c - b * d) + (a * d + b * c) * (a * d + b * c) = (a * a + b * b) * (c * c + d * d) := by grind
  have e3 : (a * a + b * b) * (c * c + d * d) ≤ ((r : Int) * r) * ((s : Int) * s) :=
    Int.le_trans (Int.mul_le_mul_of_nonneg_right h (by have := sq_nonneg c; have := sq_nonneg d; omega)) (Int.mul_le_mul_of_nonneg_left k (sq_nonneg _))
  have e4 : ((r : Int) * r) * ((s : Int) * s) = ((r * s : Nat) : Int) * ((r * s : Nat) : Int) := by rw [Int.natCast_mul]; grind
  omega
theorem Bd.neg {z : GI} {r : Nat} (h : Bd z r) : Bd z.neg r := by
  unfold Bd at *
  simp only [GI.neg, Int.neg_mul_neg]
  exact h
theorem Bd.conj {z : GI} {r : Nat} (h : Bd z r) : Bd z.conj r := by
  unfold Bd at *
  simp only [GI.conj, Int.neg_mul_neg]
  exact h
theorem Bd.sub {z w : GI} {r s : Nat} (h : Bd z r) (k : Bd w s) : Bd (z.sub w) (r + s) := by
  have := h.add k.neg
  rwa [show z.add w.neg = z.sub w from GI.ext' (Int.sub_eq_add_neg ..).symm (Int.sub_eq_add_neg ..).symm] at this
theorem Bd.sc {z : GI} {r : Nat} (h : Bd z r) (n : Nat) : Bd (z.sc n) (n * r) := by
  unfold Bd at *
  simp only [GI.sc]
  have e1 : (n : Int) * z.re * (n * z.re) + (n : Int) * z.im * (n * z.im) = ((n : Int) * n) * (z.re * z.re + z.im * z.im) := by grind
  have e2 : ((n * r : Nat) : Int) * ((n * r : Nat) : Int) = ((n : Int) * n) * ((r : Int) * r) := by rw [Int.natCast_mul]; grind
  rw [e1, e2]
  exact Int.mul_le_mul_of_nonneg_left h (sq_nonneg _)
theorem Bd.unsc {z : GI} {n r : Nat} (hn : 0 < n) (h : Bd (z.sc n) (n * r)) : Bd z r := by
  unfold Bd at *
  simp only [GI.sc] at h
  have e1 : (n : Int) * z.re * (n * z.re) + (n : Int) * z.im * (n * z.im) = ((n : Int) * n) * (z.re * z.re + z.im * z.im) := by grind
  have e2 : ((n * r : Nat) : Int) * ((n * r : Nat) : Int) = ((n : Int) * n) * ((r : Int) * r) := by rw [Int.natCast_mul]; grind
  rw [e1, e2] at h
  exact Int.le_of_mul_le_mul_left h (Int.mul_pos (by omega) (by omega))
theorem Bd.comps {z : GI} {r s : Nat} (h1 : z.re.natAbs ≤ r) (h2 : z.im.natAbs ≤ s) : Bd z (r + s) := by
  unfold Bd
  have a : z.re * z.re ≤ (r : Int) * r := by
    rw [← Int.natAbs_mul_self (a := z.re), ← Int.natCast_mul]
    exact Int.ofNat_le.2 (Nat.mul_le_mul h1 h1)
  have b : z.im * z.im ≤ (s : Int) * s := by
    rw [← Int.natAbs_mul_self (a := z.im), ← Int.natCast_mul]
    exact Int.ofNat_le.2 (Nat.mul_le_mul h2 h2)
  have e6 : ((r + s : Nat) : Int) * ((r + s : Nat) : Int) = (r : Int) * r + (s : Int) * s + 2 * ((r : Int) * s) := by
    rw [Int.natCast_add]; grind
  have : 0 ≤ (r : Int) * s := Int.mul_nonneg (by omega) (by omega)
  omega
theorem Bd.re {z : GI} {r : Nat} (h : Bd z r) : z.re.natAbs ≤ r := by
  unfold Bd at h
  have h1 := sq_nonneg z.im
  have h2 : ((z.re.natAbs : Nat) : Int) * (z.re.natAbs : Nat) ≤ (r : Int) * r := by rw [← Int.natCast_mul, Int.natAbs_mul_self]; omega
  have := sq_le (by omega) h2
  omega
theorem Bd.im {z : GI} {r : Nat} (h : Bd z r) : z.im.natAbs ≤ r := by
  unfold Bd at h
  have h1 := sq_nonneg z.re
  have h2 : ((z.im.natAbs : Nat) : Int) * (z.im.natAbs : Nat) ≤ (r : Int) * r := by rw [← Int.natCast_mul, Int.natAbs_mul_self]; omega
  have := sq_le (by omega) h2
  omega

/-! ### sums -/
def gsm : Nat → (Nat → GI) → GI
  | 0, _ => GI.zero
  | n + 1, f => (gsm n f).add (f n)
theorem gsm_congr {n : Nat} {f g : Nat → GI} (h : ∀ i, i < n → f i = g i) : gsm n f = gsm n g := by
  induction n with
  | zero => rfl
  | succ n ih => rw [gsm, gsm, ih (fun i hi => h i (by omega)), h n (by omega)]
theorem Bd.gsm {n r : Nat} {f : Nat → GI} (h : ∀ i, i < n → Bd (f i) r) : Bd (gsm n f) (n * r) := by
  induction n with
  | zero => exact Bd.zero _
  | succ n ih =>
    rw [Nat.succ_mul]
    exact (ih fun i hi => h i (by omega)).add (h n (by omega))
theorem gsm_add (n : Nat) (f g : Nat → GI) : gsm n (fun i => (f i).add (g i)) = (gsm n f).add (gsm n g) := by
  induction n with
  | zero => rfl
  | succ n ih => simp only [Ygctab.gsm, ih]; apply GI.ext' <;> simp only [GI.add] <;> omega
theorem gsm_sub (n : Nat) (f g : Nat → GI) : gsm n (fun i => (f i).sub (g i)) = (gsm n f).sub (gsm n g) := by
  induction n with
  | zero => rfl
  | succ n ih => simp only [Ygctab.gsm, ih]; apply GI.ext' <;> simp only [GI.add, GI.sub] <;> omega
theorem gsm_mul (n : Nat) (c : GI) (f : Nat → GI) : gsm n (fun i => c.mul (f i)) = c.mul (gsm n f) := by
  induction n with
  | zero => apply GI.ext' <;> simp [Ygctab.gsm, GI.mul, GI.zero]
  | succ n ih => simp only [Ygctab.gsm, ih]; apply GI.ext' <;> simp only [GI.add, GI.mul] <;> grind
theorem gsm_sc (n : Nat) (c : Int) (f : Nat → GI) : gsm n (fun i => (f i).sc c) = (gsm n f).sc c := by
  induction n with
  | zero => apply GI.ext' <;> simp [Ygctab.gsm, GI.sc, GI.zero]
  | succ n ih => simp only [Ygctab.gsm, ih]; apply GI.ext' <;> simp only [GI.add, GI.sc] <;> grind
theorem gsm_zero (n : Nat) : gsm n (fun _ => GI.zero) = GI.zero := by
  induction n with
  | zero => rfl
  | succ n ih => rw [gsm, ih]; rfl
theorem gsm_double (n : Nat) (f : Nat → GI) : gsm (2 * n) f = (gsm n (fun i => f (2 * i))).add (gsm n (fun i => f (2 * i + 1))) := by
  induction n with
  | zero => rfl
  | succ n ih => rw [show 2 * (n + 1) = 2 * n + 1 + 1 by omega, gsm, gsm, ih, gsm, gsm]; apply GI.ext' <;> simp only [GI.add] <;> omega
theorem gsm_comm (n m : Nat) (f : Nat → Nat → GI) : gsm n (fun i => gsm m (fun j => f i j)) = gsm m (fun j => gsm n (fun i => f i j)) := by
  induction n with
  | zero => simp only [gsm]; exact (gsm_zero m).symm
  | succ n ih => simp only [gsm]; rw [ih, gsm_add]
theorem gsm_append (n m : Nat) (f : Nat → GI) : gsm (n + m) f = (gsm n f).add (gsm m (fun i => f (n + i))) := by
  induction m with
  | zero => apply GI.ext' <;> simp [gsm, GI.add, GI.zero]
  | succ m ih => rw [← Nat.add_assoc, gsm, ih, gsm]; apply GI.ext' <;> simp only [GI.add] <;> omega
theorem gsm_cancel (h c : Nat) (f : Nat → GI) (hf : ∀ p, f (p + h) = (f p).neg) : gsm (c * (2 * h)) f = GI.zero := by
  induction c with
  | zero => simp [gsm]
  | succ c ih =>
    rw [Nat.succ_mul, gsm_append, ih]
    have e : gsm (2 * h) (fun i => f (c * (2 * h) + i)) = (gsm h (fun i => f (c * (2 * h) + i))).add (gsm h (fun i => f (c * (2 * h) + (h + i)))) := by
      rw [Nat.two_mul h, gsm_append]
    have e2 : gsm h (fun i => f (c * (2 * h) + (h + i))) = (gsm h (fun i => f (c * (2 * h) + i))).sc (-1) := by
      rw [← gsm_sc]
      refine gsm_congr fun i _ => ?_
      have := hf (c * (2 * h) + i)
      rw [show c * (2 * h) + (h + i) = c * (2 * h) + i + h by omega, this]
      apply GI.ext' <;> simp only [GI.neg, GI.sc] <;> omega
    rw [e, e2]
    apply GI.ext' <;> simp only [GI.add, GI.sc, GI.zero] <;> omega
end Go.Proofs.Ygctab
