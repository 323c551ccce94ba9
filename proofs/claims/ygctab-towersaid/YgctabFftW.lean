import Derived.Test.YgctabFftV
namespace Go.Proofs.Ygctab
open Go.RowKit
set_option linter.unusedVariables false
set_option linter.unusedSimpArgs false
set_option exponentiation.threshold 5000

theorem raw_near (k : Nat) (hk : 1 ≤ k) (hk' : k ≤ 10) (tab : List (Nat × Nat)) (htl : tab.length = 2 ^ (k - 1)) (ht : ∀ j, j < 2 ^ (k - 1) → clsC (zat tab j) = clsC (zat twM (j * 2 ^ (10 - k))))
    (xs ys : List Nat) (hx : Digs xs) (hy : Digs ys) (lx : xs.length ≤ 2 ^ k) (ly : ys.length ≤ 2 ^ k) (l5 : xs.length ≤ 512) (hl : xs.length + ys.length ≤ 2 ^ k + 1)
    (zs : List (Nat × Nat)) (hzl : zs.length = 2 ^ k)
    (hz : ∀ p, p < 2 ^ k → clsC (zat zs p) = mulX (stX k (fun i => clsC (zat tab i)) (fun i => clsC (zat (revL (0, 0) (ptL (2 ^ k) xs)) i)) k p) (stX k (fun i => clsC (zat tab i)) (fun i => clsC (zat (revL (0, 0) (ptL (2 ^ k) ys)) i)) k p))
    (m : Nat) (hm : m < 2 ^ k) :
    NearC (divX (floatOfInt .f64 ((2 ^ k : Nat) : Int)) (stX k (fun i => clsC (zat (conjL tab) i)) (fun i => clsC (zat (revL (0, 0) zs) i)) k m)) (cv (atn xs) (atn ys) m) := by
  have hSp := SU_pos
  have hT : ∀ j, j < 2 ^ (k - 1) → CV ((fun i => clsC (zat tab i)) j) (wK k j) := fun j hj => (tab_bits hk' ht hk hj).1
  have hT' : ∀ j, j < 2 ^ (k - 1) → CV ((fun i => clsC (zat (conjL tab) i)) j) ((fun j => (wK k j).conj) j) := fun j hj => by
    have h1 := (tab_bits hk' ht hk hj).2
    have e : zat (conjL tab) j = ((zat tab j).1, negF (zat tab j).2) := by
      have := conjL_at (zs := tab) (i := j) (by rw [htl]; exact hj)
      show ((conjL tab)[j]?).getD (0, 0) = _
      rw [this]; rfl
    show CV (clsC (zat (conjL tab) j)) (wK k j).conj
    rw [e]
    exact h1
  have lim1 : 36028797018963968 * SU ≤ 261122 * SU * (261122 * SU) := by
    rw [show 261122 * SU * (261122 * SU) = 68184698884 * SU * SU by grind]
    exact Nat.mul_le_mul_right _ (by
      have : (2 ^ 60 : Nat) ≤ SU := Nat.pow_le_pow_right (by decide) (by decide)
      omega)
  have lim2 : 261122 * SU * (261122 * SU) < 2 ^ 3100 := by unfold SU; decide +kernel
  have pts : ∀ p, ∃ z, (p < 2 ^ k → CV (clsC (zat zs p)) z ∧ Bd (((z.sc (SU : Int)).sub ((FT k (atn xs) p).mul (FT k (atn ys) p))).sc (KU : Int)) (1371300000000 * (SU * SU))) ∧ Bd z (68200000000 * SU) := by
    intro p
    by_cases hp : p < 2 ^ k
    · obtain ⟨X, cX, nX⟩ := forward_near hk hk' hT hx lx hp
      obtain ⟨Y, cY, nY⟩ := forward_near hk hk' hT hy ly hp
      have bX := FT_near_bd hk' (atn_abs hx) nX
      have bY := FT_near_bd hk' (atn_abs hy) nY
      obtain ⟨z, cz, nz⟩ := CV.mul cX cY bX bY lim1 lim2
      refine ⟨z, fun _ => ⟨?_, prod_near nX nY bY (FT_bd k hk' _ (atn_abs hx) p) nz⟩, prod_bd hSp bX bY nz⟩
      rw [hz p hp]
      exact cz
    · exact ⟨GI.zero, fun h => absurd h hp, Bd.zero _⟩
  obtain ⟨Z, hZ⟩ := Classical.axiomOfChoice pts
  obtain ⟨R, cR, nR⟩ := fft_near (X := fun i => clsC (zat (revL (0, 0) zs) i)) (wK_ok k hk hk').conj hk hk' (a := Z) (A' := 34100000000 * SU) (fun i => (hZ i).2.mono (by omega)) (by omega) (by unfold SU; decide +kernel) hT' (fun q hq => by
    show CV (clsC (zat (revL (0, 0) zs) q)) _
    rw [zat_rev (by omega) hzl hq]
    exact ((hZ (rv k q)).1 (rv_lt k q)).1) m hm
  have c1 := cv_small hx hy l5 m
  have c0 := cv_nonneg xs ys m
  refine div_near hk' (by omega) cR ?_
  refine conv_near k hk hk' (atn xs) (atn ys) xs.length ys.length (fun i h => atn_zero h) (fun i h => atn_zero h) (atn_abs hx) (atn_abs hy) hl m hm Z R (fun p hp => ((hZ p).1 hp).2) ?_
  refine nR.mono ?_
  rw [show 2 * (34100000000 * SU) * SU = 68200000000 * SU * SU by grind]
  exact Nat.mul_le_mul_right _ hk'
end Go.Proofs.Ygctab
