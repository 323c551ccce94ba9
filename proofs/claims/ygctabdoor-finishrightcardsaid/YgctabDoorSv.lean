import Derived.Test.YgctabDoorAccT
namespace Go.Proofs.YgctabDoor
open Go.RowKit
set_option linter.unusedVariables false
set_option linter.unusedSimpArgs false
set_option exponentiation.threshold 6000

theorem half_eq : Half = 2 ^ 4351 := by
  unfold Half
  rw [W_eq]; decide
theorem w68_eq : W ^ 68 = 2 ^ 4352 := by rw [W_eq]; decide
/-- A number of that range is told by its remainder. -/
theorem sv_mod {z : Int} (h0 : -Half ≤ z) (h1 : z < Half) : sv (z % W ^ 68) = z := by
  have hh := half_two
  unfold sv
  by_cases hz : 0 ≤ z
  · rw [Int.emod_eq_of_lt hz (by omega), if_pos h1]
  · have e : z % W ^ 68 = z + W ^ 68 := by
      rw [← Int.add_emod_right, Int.emod_eq_of_lt (by omega) (by omega)]
    rw [e, if_neg (by omega)]
    omega
end Go.Proofs.YgctabDoor
