import Derived.Test.YgctabDoorAccG
import Derived.Test.YgctabDoorOrdP
namespace Go.Proofs.YgctabDoor
open Go.RowKit
set_option linter.unusedVariables false
set_option linter.unusedSimpArgs false
set_option exponentiation.threshold 6000

theorem bit_and (x : Int) (s : Nat) (h0 : 0 ≤ x) (h1 : x < 18446744073709551616) : bits .and .u64 (x / 2 ^ s) 1 = x / 2 ^ s % 2 := by
  obtain ⟨m, rfl⟩ : ∃ m : Nat, x = m := ⟨x.toNat, by omega⟩
  have e : (m : Int) / 2 ^ s = ((m / 2 ^ s : Nat) : Int) := by simp
  rw [e]
  have hd : m / 2 ^ s ≤ m := Nat.div_le_self _ _
  have := u64_and_nat (m / 2 ^ s) 1 (by omega) (by decide)
  rw [nat_mask1] at this
  rw [show (1 : Int) = ((1 : Nat) : Int) from rfl, this]
  omega

end Go.Proofs.YgctabDoor
