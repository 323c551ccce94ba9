/-
  How near the passes of package fft come to the sums that they stand for.
-/
import Derived.Test.YgctabFltF
import Derived.Test.YgctabRev2
namespace Go.Proofs.Ygctab
open Go.RowKit
set_option linter.unusedVariables false
set_option linter.unusedSimpArgs false
set_option exponentiation.threshold 5000

/-- 2^44: the errors are counted in parts of it. -/
def KU : Nat := 17592186044416

/-- What is known of a table of roots: w j near the j-th power of a root of order 2^k, in units of SU; s bounds them. -/
structure Wk (k : Nat) (w : Nat → GI) (s : Nat) : Prop where
  one : w 0 = ⟨(SU : Int), 0⟩
  half : ∀ j, w (j + 2 ^ (k - 1)) = (w j).neg
  mul : ∀ a b, Bd ((((w a).mul (w b)).sub ((w (a + b)).sc (SU : Int))).sc ((281474976710656 : Nat) : Int)) (SU * SU)
  bd : ∀ a, Bd (w a) s
  s1 : 1125899906842624 * s ≤ 1125899906842625 * SU
  s0 : SU ≤ s

/-- The sum over every 2^(k-t)-th entry, from r on. -/
def Dg (k : Nat) (w a : Nat → GI) (t r j : Nat) : GI := gsm (2 ^ t) fun i => (a (r + 2 ^ (k - t) * i)).mul (w (i * j * 2 ^ (k - t)))
/-- The other half of the next sum. -/
def Do (k : Nat) (w a : Nat → GI) (t r j : Nat) : GI := gsm (2 ^ t) fun i => (a (r + 2 ^ (k - t) * i)).mul (w (i * j * 2 ^ (k - t) + j * 2 ^ (k - (t + 1))))

theorem Wk.turn {k : Nat} {w : Nat → GI} {s : Nat} (h : Wk k w s) (hk : 1 ≤ k) (j c : Nat) : w (j + 2 ^ k * c) = w j := by
  have h1 : ∀ j, w (j + 2 ^ k) = w j := fun j => by
    rw [show j + 2 ^ k = j + 2 ^ (k - 1) + 2 ^ (k - 1) by rw [Nat.add_assoc, ← Nat.two_mul, ← Nat.pow_succ']; congr 2; omega, h.half, h.half]
    apply GI.ext' <;> simp only [GI.neg] <;> omega
  induction c with
  | zero => rfl
  | succ c ih => rw [Nat.mul_succ, ← Nat.add_assoc, h1, ih]

theorem Dg_split {k : Nat} (w a : Nat → GI) (t r j : Nat) (ht : t < k) : Dg k w a (t + 1) r j = (Dg k w a t r j).add (Do k w a t (r + 2 ^ (k - (t + 1))) j) := by
  unfold Dg Do
  have e : 2 ^ (k - t) = 2 * 2 ^ (k - (t + 1)) := by rw [show k - t = k - (t + 1) + 1 by omega, Nat.pow_succ]; omega
  rw [show 2 ^ (t + 1) = 2 * 2 ^ t by rw [Nat.pow_succ]; omega, gsm_double, e]
  generalize 2 ^ (k - (t + 1)) = s
  congr 1
  · exact gsm_congr fun i _ => by
      rw [show s * (2 * i) = 2 * s * i by ac_rfl, show 2 * i * j * s = i * j * (2 * s) by ac_rfl]
  · exact gsm_congr fun i _ => by
      rw [show r + s * (2 * i + 1) = r + s + 2 * s * i by rw [Nat.mul_add, Nat.mul_one, show s * (2 * i) = 2 * s * i by ac_rfl]; omega,
        show (2 * i + 1) * j * s = i * j * (2 * s) + j * s by rw [Nat.add_mul, Nat.add_mul, Nat.one_mul, show 2 * i * j * s = i * j * (2 * s) by ac_rfl]]
theorem Dg_far {k : Nat} {w : Nat → GI} {s : Nat} (h : Wk k w s) (hk : 1 ≤ k) (a : Nat → GI) (t r j : Nat) (ht : t < k) :
    Dg k w a (t + 1) r (j + 2 ^ t) = (Dg k w a t r j).sub (Do k w a t (r + 2 ^ (k - (t + 1))) j) := by
  rw [Dg_split w a t r _ ht]
  have e1 : Dg k w a t r (j + 2 ^ t) = Dg k w a t r j := by
    refine gsm_congr fun i _ => ?_
    congr 1
    rw [show i * (j + 2 ^ t) * 2 ^ (k - t) = i * j * 2 ^ (k - t) + 2 ^ k * i by
      rw [Nat.mul_add, Nat.add_mul]; congr 1
      rw [show i * 2 ^ t * 2 ^ (k - t) = 2 ^ t * 2 ^ (k - t) * i by ac_rfl, ← Nat.pow_add, show t + (k - t) = k by omega], h.turn hk]
  have e2 : Do k w a t (r + 2 ^ (k - (t + 1))) (j + 2 ^ t) = (Do k w a t (r + 2 ^ (k - (t + 1))) j).sc (-1) := by
    unfold Do
    rw [← gsm_sc]
    refine gsm_congr fun i _ => ?_
    rw [show i * (j + 2 ^ t) * 2 ^ (k - t) + (j + 2 ^ t) * 2 ^ (k - (t + 1)) = i * j * 2 ^ (k - t) + j * 2 ^ (k - (t + 1)) + 2 ^ (k - 1) + 2 ^ k * i by
      rw [Nat.mul_add, Nat.add_mul, Nat.add_mul, show i * 2 ^ t * 2 ^ (k - t) = 2 ^ t * 2 ^ (k - t) * i by ac_rfl, ← Nat.pow_add, ← Nat.pow_add, show t + (k - t) = k by omega, show t + (k - (t + 1)) = k - 1 by omega]; omega, h.turn hk, h.half]
    apply GI.ext' <;> simp only [GI.mul, GI.neg, GI.sc] <;> grind
  rw [e1, e2]
  apply GI.ext' <;> simp only [GI.add, GI.sub, GI.sc] <;> omega
theorem Dg_bd {k : Nat} {w : Nat → GI} {s : Nat} (h : Wk k w s) (a : Nat → GI) (A : Nat) (ha : ∀ i, Bd (a i) A) (t r j : Nat) : Bd (Dg k w a t r j) (2 ^ t * (A * s)) :=
  Bd.gsm fun i _ => (ha _).mul (h.bd _)
/-- The half times its root is near the other half. -/
theorem Do_near {k : Nat} {w : Nat → GI} {s : Nat} (h : Wk k w s) (a : Nat → GI) (A : Nat) (ha : ∀ i, Bd (a i) A) (t r j : Nat) :
    Bd ((((Dg k w a t r j).mul (w (j * 2 ^ (k - (t + 1))))).sub ((Do k w a t r j).sc (SU : Int))).sc ((281474976710656 : Nat) : Int)) (2 ^ t * (A * (SU * SU))) := by
  have e : (((Dg k w a t r j).mul (w (j * 2 ^ (k - (t + 1))))).sub ((Do k w a t r j).sc (SU : Int))).sc ((281474976710656 : Nat) : Int) =
      gsm (2 ^ t) fun i => (a (r + 2 ^ (k - t) * i)).mul ((((w (i * j * 2 ^ (k - t))).mul (w (j * 2 ^ (k - (t + 1))))).sub ((w (i * j * 2 ^ (k - t) + j * 2 ^ (k - (t + 1)))).sc (SU : Int))).sc ((281474976710656 : Nat) : Int)) := by
    unfold Dg Do
    generalize ((281474976710656 : Nat) : Int) = q
    rw [show ∀ z : GI, z.mul (w (j * 2 ^ (k - (t + 1)))) = (w (j * 2 ^ (k - (t + 1)))).mul z from fun z => GI.ext' (by simp only [GI.mul]; grind) (by simp only [GI.mul]; grind), ← gsm_mul, ← gsm_sc, ← gsm_sub, ← gsm_sc]
    refine gsm_congr fun i _ => ?_
    apply GI.ext' <;> simp only [GI.mul, GI.sub, GI.sc] <;> grind
  rw [e]
  exact Bd.gsm fun i _ => (ha _).mul (h.mul _ _)
end Go.Proofs.Ygctab
