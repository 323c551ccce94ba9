import Derived.Test.YgctabDig2
namespace Go.Proofs.Ygctab
set_option linter.unusedVariables false

theorem dig_len_mono {u v : Nat} (h : u ≤ v) : (dig u).length ≤ (dig v).length := dig_length_le (Nat.lt_of_le_of_lt h (dig_lt v))
theorem dig_rest {zs : List Nat} (h : Digs zs) (m : Nat) (hm : (dig (bv zs)).length ≤ m) : zs[m]?.getD 0 = 0 := by
  have h1 := dig_pad h
  rw [h1, List.getElem?_append_right hm, List.getElem?_replicate]
  split <;> rfl

theorem kara_expand (u0 u1 v0 v1 P : Nat) : (u0 + P * u1) * (v0 + P * v1) = u0 * v0 + P * (u0 * v1 + u1 * v0) + P * P * (u1 * v1) := by grind
theorem kara_mid (u0 u1 v0 v1 : Nat) : (u0 + u1) * (v0 + v1) = u0 * v0 + (u0 * v1 + u1 * v0) + u1 * v1 := by grind
end Go.Proofs.Ygctab
