import Derived.Test.YgctabFltF
namespace Go.Proofs.Ygctab
open Go.RowKit
set_option linter.unusedVariables false
set_option linter.unusedSimpArgs false
set_option exponentiation.threshold 5000

theorem twos_read : ∀ k : Nat, k < 12 → Ieee.double.read (floatOfInt .f64 ((2 ^ k : Nat) : Int)) = .number false (2 ^ 52) ((k : Int) - 52) ∧ cls (floatOfInt .f64 ((2 ^ k : Nat) : Int)) = some (floatOfInt .f64 ((2 ^ k : Nat) : Int)) := by decide +kernel

theorem cls_fin {p : Nat} (hp : Fin64 p) : cls p = some p := by
  unfold cls
  have : nanB p = false := by
    obtain ⟨e, -, hr, -⟩ := read_fin hp
    unfold nanB
    rw [hr]; rfl
  rw [this]; rfl

/-- A quotient by a power of two. -/
theorem quo_two (neg : Bool) (m e k D : Nat) (hm : m < 2 ^ 53) (hD : 53 ≤ D) (hb : m * 2 ^ e < 2 ^ 2097) :
    ∃ z, ((Ieee.Datum.number neg m ((e : Int) - 1074)).quotient D (.number false (2 ^ 52) ((k : Int) - 52))).map Ieee.double.write = some z ∧ Fin64 z ∧ ∃ v : Nat, fval z = sgnI neg * (v : Int) ∧ 9007199254740992 * ((v * 2 ^ k : Nat) - (m * 2 ^ e : Nat) : Int).natAbs ≤ m * 2 ^ e + 4503599627370496 * 2 ^ k := by
  have hN : (2 ^ 52 : Nat) ≠ 0 := by decide
  generalize hNN : (2 ^ 52 : Nat) = N at hN
  simp only [Ieee.Datum.quotient, if_neg hN, Option.map_some, Ieee.Format.write]
  subst hNN
  refine ⟨_, rfl, ?_⟩
  have hl2 : (2 ^ 52).log2 = 52 := by decide
  have hl : m.log2 ≤ 52 := by
    by_cases h0 : m = 0
    · subst h0; decide
    · have := (Nat.log2_lt (k := 53) h0).2 hm; omega
  rw [hl2]
  generalize hk : D + 52 - m.log2 = kk
  have hk1 : 53 ≤ kk := by omega
  have hx : (neg ^^ false) = neg := by cases neg <;> rfl
  obtain ⟨j, rfl⟩ : ∃ j, kk = 52 + j := ⟨kk - 52, by omega⟩
  have hd : m <<< (52 + j) = m * 2 ^ j * 2 ^ 52 := by rw [Nat.shiftLeft_eq, Nat.add_comm, Nat.pow_add, Nat.mul_assoc]
  rw [hx, hd, Nat.mul_mod_left, Nat.mul_div_cancel _ (by decide)]
  have e1 : 2 * (m * 2 ^ j) + ((0 : Nat) != 0).toNat = m * 2 ^ (j + 1) := by
    show 2 * (m * 2 ^ j) + 0 = _
    rw [Nat.pow_succ, Nat.add_zero, Nat.mul_comm 2, Nat.mul_assoc]
  rw [e1, show (e : Int) - 1074 - ((k : Int) - 52) - ((52 + j : Nat) : Int) - 1 = (e : Int) - 1074 - ((k + (j + 1) : Nat) : Int) by omega]
  have hp : 0 < 2 ^ (j + 1) := two_pos _
  have key : m * 2 ^ (j + 1) * 2 ^ e = m * 2 ^ e * 2 ^ (j + 1) := by ac_rfl
  obtain ⟨g1, v, g2, g3⟩ := near_val neg (m * 2 ^ (j + 1)) e (k + (j + 1)) (by
    rw [key, show 2 ^ (2097 + (k + (j + 1))) = 2 ^ 2097 * 2 ^ (j + 1) * 2 ^ k by rw [← Nat.pow_add, ← Nat.pow_add]; congr 1; omega]
    have h1 : m * 2 ^ e * 2 ^ (j + 1) < 2 ^ 2097 * 2 ^ (j + 1) := Nat.mul_lt_mul_of_pos_right hb hp
    exact Nat.lt_of_lt_of_le h1 (Nat.le_mul_of_pos_right _ (two_pos k)))
  refine ⟨g1, v, g2, ?_⟩
  rw [key, Nat.pow_add, ← Nat.mul_assoc v, ← Nat.mul_assoc 4503599627370496, ← Nat.add_mul, Int.natCast_mul (v * 2 ^ k), Int.natCast_mul (m * 2 ^ e), ← Int.sub_mul, Int.natAbs_mul, Int.natAbs_natCast, ← Nat.mul_assoc] at g3
  exact Nat.le_of_mul_le_mul_right g3 hp

theorem FV.quo {c : Option Nat} {v : Int} (h : FV c v) (k : Nat) (hk : k < 12) (hb : v.natAbs < 2 ^ 2097) : ∃ x, FV (opc .quo c (cls (floatOfInt .f64 ((2 ^ k : Nat) : Int)))) x ∧ 9007199254740992 * (x * ((2 ^ k : Nat) : Int) - v).natAbs ≤ v.natAbs + 4503599627370496 * 2 ^ k := by
  obtain ⟨p, rfl, hp, rfl⟩ := h
  obtain ⟨e, -, r1, v1⟩ := read_fin hp
  have habs : (fval p).natAbs = fman p * 2 ^ e := by
    rw [v1]
    generalize fman p * 2 ^ e = N
    cases fneg p <;> simp [sgnI]
  rw [habs] at hb ⊢
  obtain ⟨z, h1, h2, u, h3, h4⟩ := quo_two (fneg p) (fman p) e k (Ieee.double.fractionBits + 2) (fman_lt p) (by decide) hb
  obtain ⟨t1, t2⟩ := twos_read k hk
  rw [t2]
  refine ⟨_, ⟨z, ?_, h2, rfl⟩, ?_⟩
  · show ((Ieee.double.read p).quotient (Ieee.double.fractionBits + 2) (Ieee.double.read (floatOfInt .f64 ((2 ^ k : Nat) : Int)))).map Ieee.double.write = some z
    rw [r1, t1]
    exact h1
  · rw [h3, v1, Int.mul_assoc, ← Int.natCast_mul, sgn_abs]
    exact h4
end Go.Proofs.Ygctab
