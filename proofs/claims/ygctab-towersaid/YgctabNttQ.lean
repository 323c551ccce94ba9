/-
  PLAIN: Forward, Forward, product, Inverse of package ntt are the convolution.
-/
import Derived.Test.YgctabRoots
import Derived.Test.YgctabConv2
import Derived.Test.YgctabElems
namespace Go.Proofs.Ygctab
set_option linter.unusedVariables false

/-- The products point by point. -/
def mulL (n : Nat) (F G : List Int) : List Int := (List.range n).map fun i => F[i]?.getD 0 * G[i]?.getD 0 % 998244353
theorem mulL_length (n : Nat) (F G : List Int) : (mulL n F G).length = n := by simp [mulL]
theorem mulL_at {n : Nat} (F G : List Int) {i : Nat} (h : i < n) : (mulL n F G)[i]? = some (F[i]?.getD 0 * G[i]?.getD 0 % 998244353) := by
  simp [mulL, List.getElem?_map, List.getElem?_range h]
theorem mulL_in1 (n : Nat) (F G : List Int) : In1 (mulL n F G) := by
  intro x hx
  simp only [mulL, List.mem_map] at hx
  obtain ⟨i, _, rfl⟩ := hx
  omega
theorem mix_set {F Z : List Int} {n i : Nat} {z : Int} (hF : F.length = n) (hZ : Z.length = n) (h : i < n) (hz : Z[i]? = some z) : (Z.take i ++ F.drop i).set i z = Z.take (i + 1) ++ F.drop (i + 1) := by
  have hl : (Z.take i).length = i := by simp; omega
  rw [List.set_append, if_neg (by omega), hl, Nat.sub_self, List.drop_eq_getElem_cons (by omega), List.set_cons_zero, List.take_add_one, hz]
  simp
theorem mix_at {F Z : List Int} {n i : Nat} (hF : F.length = n) (hZ : Z.length = n) (h : i < n) : (Z.take i ++ F.drop i)[i]?.getD 0 = F[i]?.getD 0 := by
  have hl : (Z.take i).length = i := by simp; omega
  rw [List.getElem?_append_right (by omega), hl, Nat.sub_self, List.getElem?_drop, Nat.add_zero]
theorem scaleL_at (f : Int) (xs : List Int) {i : Nat} (h : i < xs.length) : (scaleL f xs)[i]?.getD 0 = xs[i]?.getD 0 * f % 998244353 := by
  simp [scaleL, List.getElem?_eq_getElem h]

theorem ntt_conv (k : Nat) (hk : 1 ≤ k) (hk' : k ≤ 11) (xs ys : List Nat) (hx : Digs xs) (hy : Digs ys) (hxl : xs.length ≤ 512) (hyl : ys.length ≤ 512) (hx1 : 1 ≤ xs.length) (hy1 : 1 ≤ ys.length)
    (n : Nat) (hn : n = 2 ^ k) (hln : xs.length + ys.length ≤ n + 1) (m : Nat) (hm : m < xs.length + ys.length - 1) :
    (inverseL k (mulL n (forwardL k (elL n xs)) (forwardL k (elL n ys))))[m]?.getD 0 = (((convL xs ys)[m]?.getD 0 : Nat) : Int) := by
  have hmn : m < n := by omega
  have hv := rootK_half k hk hk'
  have huv := rootK_inv k hk hk'
  have hu := inv_half k hk hv huv
  have hni := twoK_inv k
  have l1 : (elL n xs).length = 2 ^ k := by rw [elL_length (by omega), hn]
  have l2 : (elL n ys).length = 2 ^ k := by rw [elL_length (by omega), hn]
  have lz := mulL_length n (forwardL k (elL n xs)) (forwardL k (elL n ys))
  have ax : ∀ i, ati (elL n xs) i = atn xs i := fun i => elL_getD n xs i
  have ay : ∀ i, ati (elL n ys) i = atn ys i := fun i => elL_getD n ys i
  obtain ⟨Z, hZ⟩ : ∃ Z, Z = mulL n (forwardL k (elL n xs)) (forwardL k (elL n ys)) := ⟨_, rfl⟩
  rw [← hZ] at lz ⊢
  have hz : ∀ p, p < n → cg (ati Z p) ((sm n fun i => atn xs i * rootK k ^ (i * p)) * (sm n fun l => atn ys l * rootK k ^ (l * p))) := by
    intro p hp
    have e : ati Z p = ati (forwardL k (elL n xs)) p * ati (forwardL k (elL n ys)) p % 998244353 := by
      unfold ati
      rw [hZ, mulL_at _ _ hp]
      rfl
    rw [e]
    refine (cg.mod _).trans ?_
    have f1 := transL_cg k (rootK k) (elL n xs) (by omega) hk l1 hv p (by omega)
    have f2 := transL_cg k (rootK k) (elL n ys) (by omega) hk l2 hv p (by omega)
    rw [← hn] at f1 f2
    rw [sm_congr (fun i _ => by rw [ax])] at f1
    rw [sm_congr (fun i _ => by rw [ay])] at f2
    exact f1.mul f2
  have g := transL_cg k (invP (rootK k)) Z (by omega) hk (by rw [lz, hn]) hu m (by omega)
  rw [← hn] at g
  have g2 : cg (sm n fun i => ati Z i * invP (rootK k) ^ (i * m)) (sm n fun p => (sm n fun i => atn xs i * rootK k ^ (i * p)) * (sm n fun l => atn ys l * rootK k ^ (l * p)) * invP (rootK k) ^ (p * m)) :=
    cg.sm fun p hp => (hz p hp).mul (cg.refl _)
  have c := conv_cg k (rootK k) (invP (rootK k)) (invP ((2 ^ k : Nat) : Int)) (atn xs) (atn ys) xs.length ys.length hk hv huv hni (fun i h => atn_zero h) (fun i h => atn_zero h) (by rw [← hn]; exact hln) m (by omega)
  rw [← hn] at c
  have lt : (transL k (invP (rootK k)) Z).length = n := by rw [transL_length, lz]
  have e1 : (inverseL k Z)[m]?.getD 0 = ati (transL k (invP (rootK k)) Z) m * invP (n : Int) % 998244353 := by
    unfold inverseL
    rw [scaleL_at _ _ (by rw [lt]; exact hmn), lz]
    rfl
  have key : cg ((inverseL k Z)[m]?.getD 0) (cv (atn xs) (atn ys) m) := by
    rw [e1]
    refine (cg.mod _).trans ?_
    rw [Int.mul_comm]
    exact ((cg.refl _).mul (g.trans g2)).trans c
  have b1 := cv_small hx hy hxl m
  have b2 := cv_nonneg xs ys m
  have e2 := key.eq (by rw [e1]; omega) (by rw [e1]; omega) b2 (by omega)
  rw [e2, convL_at xs ys hm, Int.toNat_of_nonneg b2]
end Go.Proofs.Ygctab
