import Derived.Test.YgctabDoorFltC
import Derived.OwnWalk
import Derived.Maps.AppendAt
namespace Go.Proofs.YgctabDoor
open Go.RowKit
set_option linter.unusedVariables false
set_option linter.unusedSimpArgs false
set_option exponentiation.threshold 3000

theorem cmp_scale (x y : Int) (k : Nat) : compare (x * ((2 ^ k : Nat) : Int)) (y * ((2 ^ k : Nat) : Int)) = compare x y := by
  have hp : 0 < ((2 ^ k : Nat) : Int) := by have := two_pos k; omega
  simp only [Int.compare_eq_ite_lt] <;> skip
  have h1 : x * ((2 ^ k : Nat) : Int) < y * ((2 ^ k : Nat) : Int) ↔ x < y := ⟨fun h => Int.lt_of_mul_lt_mul_right h (Int.le_of_lt hp), fun h => Int.mul_lt_mul_of_pos_right h hp⟩
  have h2 : y * ((2 ^ k : Nat) : Int) < x * ((2 ^ k : Nat) : Int) ↔ y < x := ⟨fun h => Int.lt_of_mul_lt_mul_right h (Int.le_of_lt hp), fun h => Int.mul_lt_mul_of_pos_right h hp⟩
  simp only [h1, h2]

theorem order_val {x y : Nat} (hx : Fin64 x) (hy : Fin64 y) : FloatKind.f64.format.order x y = some (compare (fval x) (fval y)) := by
  obtain ⟨e1, -, r1, v1⟩ := read_fin hx
  obtain ⟨e2, -, r2, v2⟩ := read_fin hy
  show (Ieee.double.read x).order (Ieee.double.read y) = _
  rw [r1, r2, v1, v2]
  unfold Ieee.Datum.order
  simp only
  have hb : min ((e1 : Int) - 1074) ((e2 : Int) - 1074) = ((min e1 e2 : Nat) : Int) - 1074 := by omega
  rw [hb]
  generalize hB : min e1 e2 = B at *
  rw [show ((e1 : Int) - 1074 - ((B : Int) - 1074)).toNat = e1 - B by omega, show ((e2 : Int) - 1074 - ((B : Int) - 1074)).toNat = e2 - B by omega, signed_eq, signed_eq]
  have hs : ∀ (s : Bool) (m e1 : Nat), B ≤ e1 → sgnI s * ((m * 2 ^ e1 : Nat) : Int) = sgnI s * ((m * 2 ^ (e1 - B) : Nat) : Int) * ((2 ^ B : Nat) : Int) := by
    intro s m e1 hle
    rw [Int.mul_assoc, ← Int.natCast_mul, Nat.mul_assoc, ← Nat.pow_add, show e1 - B + B = e1 by omega]
  rw [hs _ _ e1 (by omega), hs _ _ e2 (by omega), cmp_scale]

/-- Equal to zero, as Go's == finds it. -/
def isz (p : Nat) : Bool := FloatKind.f64.format.order p 0 == some .eq
theorem fin_zero : Fin64 0 := ⟨by decide, by decide⟩
theorem fval_zero : fval 0 = 0 := by
  unfold fval
  rw [show fman 0 = 0 by decide]
  simp only [Int.natCast_zero, Int.zero_mul, Int.mul_zero]
theorem isz_val {p : Nat} (h : Fin64 p) : isz p = decide (fval p = 0) := by
  unfold isz
  rw [order_val h fin_zero, fval_zero]
  by_cases hp : fval p = 0
  · rw [hp]; decide
  · rw [decide_eq_false hp]
    generalize fval p = v at *
    have : compare v 0 ≠ .eq := by
      intro hh
      exact hp (Int.compare_eq_eq.1 hh)
    cases hc : compare v 0
    · rfl
    · exact absurd hc this
    · rfl

end Go.Proofs.YgctabDoor
