/-
  PLAIN: the roots of unity of package ntt, and the inverses that it takes.
-/
import Derived.Test.YgctabConv
import Derived.Test.YgctabNttP
namespace Go.Proofs.Ygctab
set_option linter.unusedVariables false

def sqN : Nat → Int → Int
  | 0, a => a
  | n + 1, a => sqN n (a * a % 998244353)
theorem sqN_cg (n : Nat) : ∀ a : Int, cg (sqN n a) (a ^ 2 ^ n) := by
  induction n with
  | zero => intro a; exact cg.of_eq (by rw [Nat.pow_zero, Int.pow_succ, Int.pow_zero, Int.one_mul]; rfl)
  | succ n ih =>
    intro a
    rw [sqN]
    refine (ih _).trans ?_
    have h := (cg.mod (a * a)).pow (2 ^ n)
    refine h.trans (cg.of_eq ?_)
    rw [show a * a = a ^ 2 by rw [Int.pow_succ, Int.pow_succ, Int.pow_zero, Int.one_mul], ← show a ^ (2 * 2 ^ n) = (a ^ 2) ^ 2 ^ n from Int.pow_mul, ← Nat.pow_succ']

theorem three_pow : (3 : Int) ^ 119 % 998244353 = 15311432 := by decide +kernel
theorem two_pow119 : (2 : Int) ^ 119 % 998244353 = 749268343 := by decide +kernel
theorem sq3 : sqN 22 15311432 = 998244352 := by decide +kernel
theorem sq2 : sqN 23 749268343 = 1 := by decide +kernel

theorem three_half (a : Int) (ha : a ^ 119 % 998244353 = 15311432) : cg (a ^ (119 * 2 ^ 22)) (-1) := by
  have h1 : cg (a ^ 119) 15311432 := by rw [← ha]; exact (cg.mod _).symm
  have h2 := h1.pow (2 ^ 22)
  rw [← show a ^ (119 * 2 ^ 22) = (a ^ 119) ^ 2 ^ 22 from Int.pow_mul] at h2
  refine h2.trans ((sqN_cg 22 15311432).symm.trans ?_)
  rw [sq3]
  exact ⟨1, by omega⟩
theorem two_full (a : Int) (ha : a ^ 119 % 998244353 = 749268343) : cg (a ^ (119 * 2 ^ 23)) 1 := by
  have h1 : cg (a ^ 119) 749268343 := by rw [← ha]; exact (cg.mod _).symm
  have h2 := h1.pow (2 ^ 23)
  rw [← show a ^ (119 * 2 ^ 23) = (a ^ 119) ^ 2 ^ 23 from Int.pow_mul] at h2
  refine h2.trans ((sqN_cg 23 749268343).symm.trans ?_)
  rw [sq2]
  exact cg.refl _

theorem exp_div (k : Nat) (hk : k ≤ 11) : 998244352 / 2 ^ k = 119 * 2 ^ (23 - k) := by
  have : 998244352 = 119 * 2 ^ (23 - k) * 2 ^ k := by
    rw [Nat.mul_assoc, ← Nat.pow_add, show 23 - k + k = 23 by omega]
  rw [this, Nat.mul_div_cancel _ (Nat.pow_pos (by decide))]

theorem root_gen (a : Int) (ha : a ^ 119 % 998244353 = 15311432) (k : Nat) (hk : 1 ≤ k) (hk' : k ≤ 11) (v : Int) (hv : cg v (a ^ (998244352 / 2 ^ k))) : cg (v ^ 2 ^ (k - 1)) (-1) := by
  rw [exp_div k hk'] at hv
  have h := hv.pow (2 ^ (k - 1))
  rw [← show a ^ (119 * 2 ^ (23 - k) * 2 ^ (k - 1)) = (a ^ (119 * 2 ^ (23 - k))) ^ 2 ^ (k - 1) from Int.pow_mul, Nat.mul_assoc, ← Nat.pow_add, show 23 - k + (k - 1) = 22 by omega] at h
  exact h.trans (three_half a ha)
theorem rootK_half (k : Nat) (hk : 1 ≤ k) (hk' : k ≤ 11) : cg (rootK k ^ 2 ^ (k - 1)) (-1) := root_gen 3 three_pow k hk hk' _ (cg.mod _)

theorem root_one {k : Nat} {v : Int} (hk : 1 ≤ k) (hv : cg (v ^ 2 ^ (k - 1)) (-1)) : cg (v ^ 2 ^ k) 1 := by
  have := hv.mul hv
  rw [← Int.pow_add, show 2 ^ (k - 1) + 2 ^ (k - 1) = 2 ^ k by rw [← Nat.two_mul, ← Nat.pow_succ']; congr 1; omega] at this
  exact this.trans (cg.of_eq (by omega))

theorem inv_gen (k E : Nat) (hE : E + 1 = 119 * 2 ^ (23 - k) * 2 ^ k) (v u : Int) (h1 : cg (v ^ 2 ^ k) 1) (hu : cg u (v ^ E)) : cg (v * u) 1 := by
  refine ((cg.refl v).mul hu).trans ?_
  rw [show v * v ^ E = v ^ (E + 1) by rw [Int.pow_succ, Int.mul_comm], hE, Nat.mul_comm, show v ^ (2 ^ k * (119 * 2 ^ (23 - k))) = (v ^ 2 ^ k) ^ (119 * 2 ^ (23 - k)) from Int.pow_mul]
  have := h1.pow (119 * 2 ^ (23 - k))
  rwa [Int.one_pow] at this
theorem exp_split (k : Nat) (hk : k ≤ 11) : 998244351 + 1 = 119 * 2 ^ (23 - k) * 2 ^ k := by
  rw [Nat.mul_assoc, ← Nat.pow_add, show 23 - k + k = 23 by omega]
theorem rootK_inv (k : Nat) (hk : 1 ≤ k) (hk' : k ≤ 11) : cg (rootK k * invP (rootK k)) 1 :=
  inv_gen k 998244351 (exp_split k hk') _ _ (root_one hk (rootK_half k hk hk')) (cg.mod _)

theorem two_inv_gen (a : Int) (ha : a ^ 119 % 998244353 = 749268343) (E : Nat) (hE : E + 1 = 119 * 2 ^ 23) (k : Nat) (N u : Int) (hN : N = a ^ k) (hu : cg u (N ^ E)) : cg (u * N) 1 := by
  refine (hu.mul (cg.refl N)).trans ?_
  rw [← Int.pow_succ, Nat.succ_eq_add_one, hE, hN, ← show a ^ (k * (119 * 2 ^ 23)) = (a ^ k) ^ (119 * 2 ^ 23) from Int.pow_mul, Nat.mul_comm, show a ^ (119 * 2 ^ 23 * k) = (a ^ (119 * 2 ^ 23)) ^ k from Int.pow_mul]
  have := (two_full a ha).pow k
  rwa [Int.one_pow] at this
theorem twoK_inv (k : Nat) : cg (invP ((2 ^ k : Nat) : Int) * ((2 ^ k : Nat) : Int)) 1 :=
  two_inv_gen 2 two_pow119 998244351 (by decide) k _ _ (by simp) (cg.mod _)

/-- The root's own root for the way back. -/
theorem inv_half (k : Nat) (hk : 1 ≤ k) {v u : Int} (hv : cg (v ^ 2 ^ (k - 1)) (-1)) (hu : cg (v * u) 1) : cg (u ^ 2 ^ (k - 1)) (-1) := by
  have h1 : cg ((v * u) ^ 2 ^ (k - 1)) 1 := by have := hu.pow (2 ^ (k - 1)); rwa [Int.one_pow] at this
  rw [Int.mul_pow] at h1
  have h2 := (hv.symm.mul (cg.refl (u ^ 2 ^ (k - 1)))).trans h1
  obtain ⟨c, hc⟩ := h2
  exact ⟨-c, by omega⟩
end Go.Proofs.Ygctab
