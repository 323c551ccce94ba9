import Derived.Test.YgctabFftT
namespace Go.Proofs.Ygctab
open Go.RowKit
set_option linter.unusedVariables false
set_option linter.unusedSimpArgs false
set_option exponentiation.threshold 5000

theorem FT_near_bd {k : Nat} (hk : k ≤ 10) {x : Nat → Int} (bx : ∀ i, (x i).natAbs ≤ 255) {p : Nat} {X : GI} (h : Bd ((X.sub (FT k x p)).sc (KU : Int)) (2621440 * SU)) : Bd X (261122 * SU) := by
  refine Bd.unsc (n := KU) (by decide) ?_
  have h1 := h.add ((FT_bd k hk x bx p).sc KU)
  rw [show ((X.sub (FT k x p)).sc (KU : Int)).add ((FT k x p).sc (KU : Int)) = X.sc (KU : Int) from GI.ext' (by simp only [GI.sub, GI.sc, GI.add]; grind) (by simp only [GI.sub, GI.sc, GI.add]; grind)] at h1
  refine h1.mono ?_
  unfold KU
  generalize SU = S
  omega

/-- The product of two near transforms. -/
theorem prod_near {S : Nat} {X Y Z F G : GI} (hX : Bd ((X.sub F).sc (KU : Int)) (2621440 * S)) (hY : Bd ((Y.sub G).sc (KU : Int)) (2621440 * S)) (bY : Bd Y (261122 * S)) (bF : Bd F (261121 * S))
    (hZ : Bd (((Z.sc (S : Int)).sub (X.mul Y)).sc ((562949953421312 : Nat) : Int)) (261122 * S * (261122 * S))) : Bd (((Z.sc (S : Int)).sub (F.mul G)).sc (KU : Int)) (1371300000000 * (S * S)) := by
  have h1 : Bd (((Z.sc (S : Int)).sub (X.mul Y)).sc (KU : Int)) (2200000000 * (S * S)) := Bd.cut 562949953421312 (c := 32) (by decide) (by decide) hZ (by
    rw [show 261122 * S * (261122 * S) = 68184698884 * (S * S) by grind]
    generalize S * S = u
    omega)
  have h2 := hX.mul bY
  have h3 := bF.mul hY
  have e : ((Z.sc (S : Int)).sub (F.mul G)).sc (KU : Int) = ((((Z.sc (S : Int)).sub (X.mul Y)).sc (KU : Int)).add (((X.sub F).sc (KU : Int)).mul Y)).add (F.mul ((Y.sub G).sc (KU : Int))) := by
    generalize (KU : Int) = q
    generalize (S : Int) = r
    apply GI.ext' <;> simp only [GI.mul, GI.sub, GI.sc, GI.add] <;> grind
  rw [e]
  refine ((h1.add h2).add h3).mono ?_
  rw [show 2621440 * S * (261122 * S) = 684515655680 * (S * S) by grind, show 261121 * S * (2621440 * S) = 684513034240 * (S * S) by grind]
  generalize S * S = u
  omega

/-- The size of the product. -/
theorem prod_bd {S : Nat} (hS : 0 < S) {X Y Z : GI} (bX : Bd X (261122 * S)) (bY : Bd Y (261122 * S)) (hZ : Bd (((Z.sc (S : Int)).sub (X.mul Y)).sc ((562949953421312 : Nat) : Int)) (261122 * S * (261122 * S))) : Bd Z (68200000000 * S) := by
  have h1 := hZ.add ((bX.mul bY).sc 562949953421312)
  rw [show (((Z.sc (S : Int)).sub (X.mul Y)).sc ((562949953421312 : Nat) : Int)).add ((X.mul Y).sc ((562949953421312 : Nat) : Int)) = Z.sc ((562949953421312 * S : Nat) : Int) by
    rw [Int.natCast_mul]
    generalize ((562949953421312 : Nat) : Int) = q
    generalize (S : Int) = r
    apply GI.ext' <;> simp only [GI.mul, GI.sub, GI.sc, GI.add] <;> grind] at h1
  refine Bd.unsc (n := 562949953421312 * S) (Nat.mul_pos (by decide) hS) (h1.mono ?_)
  rw [show 261122 * S * (261122 * S) = 68184698884 * (S * S) by grind, show 562949953421312 * S * (68200000000 * S) = 38393186823333478400000000 * (S * S) by grind]
  generalize S * S = u
  omega

theorem conv_near (k : Nat) (hk : 1 ≤ k) (hk' : k ≤ 10) (x y : Nat → Int) (la lb : Nat) (hx : ∀ i, la ≤ i → x i = 0) (hy : ∀ i, lb ≤ i → y i = 0) (bx : ∀ i, (x i).natAbs ≤ 255) (bY : ∀ i, (y i).natAbs ≤ 255) (hl : la + lb ≤ 2 ^ k + 1) (m : Nat) (hm : m < 2 ^ k)
    (Z : Nat → GI) (R : GI)
    (hZ : ∀ p, p < 2 ^ k → Bd ((((Z p).sc (SU : Int)).sub ((FT k x p).mul (FT k y p))).sc (KU : Int)) (1371300000000 * (SU * SU)))
    (hR : Bd (((R.sc (SU : Int)).sub (gsm (2 ^ k) fun p => (Z p).mul (wK k (p * m)).conj)).sc (KU : Int)) (10 * (2 ^ k * (68200000000 * SU * SU)))) :
    Bd ((R.sub ⟨((2 ^ k : Nat) : Int) * (SU : Int) * cv x y m, 0⟩).sc ((5 : Nat) : Int)) (2 ^ k * SU) := by
  have hSp := SU_pos
  have h3 := turned_near k hk hk' x y la lb hx hy bx bY hl m hm
  obtain ⟨n, hn⟩ : ∃ n, n = 2 ^ k := ⟨_, rfl⟩
  rw [← hn] at hZ hR h3 ⊢
  have u3 := Bd.cut (a := KU) (g := n * (17046000000 * (SU * SU * SU))) 281474976710656 (c := 16) (by decide) (by decide) h3 (by
    rw [show n * (261120 * 261120 * (4 * (SU * SU * SU))) = 272734617600 * (n * (SU * SU * SU)) by grind, show 16 * (n * (17046000000 * (SU * SU * SU))) = 272736000000 * (n * (SU * SU * SU)) by grind]
    generalize n * (SU * SU * SU) = u
    omega)
  have u1 := hR.sc SU
  have u2 : Bd (gsm n fun p => ((((Z p).sc (SU : Int)).sub ((FT k x p).mul (FT k y p))).sc (KU : Int)).mul (wK k (p * m)).conj) (n * (1371300000000 * (SU * SU) * s10)) := Bd.gsm fun p hp => (hZ p hp).mul (w10_bd _).conj
  have e : (R.sub ⟨(n : Int) * (SU : Int) * cv x y m, 0⟩).sc ((KU * (SU * SU) : Nat) : Int) =
      (((((R.sc (SU : Int)).sub (gsm n fun p => (Z p).mul (wK k (p * m)).conj)).sc (KU : Int)).sc (SU : Int)).add (gsm n fun p => ((((Z p).sc (SU : Int)).sub ((FT k x p).mul (FT k y p))).sc (KU : Int)).mul (wK k (p * m)).conj)).add
        (((gsm n fun p => ((FT k x p).mul (FT k y p)).mul (wK k (p * m)).conj).sub ⟨(n : Int) * (SU : Int) * cv x y m * ((SU : Int) * (SU : Int)), 0⟩).sc (KU : Int)) := by
    have e2 : (gsm n fun p => ((((Z p).sc (SU : Int)).sub ((FT k x p).mul (FT k y p))).sc (KU : Int)).mul (wK k (p * m)).conj) = (((gsm n fun p => (Z p).mul (wK k (p * m)).conj).sc (SU : Int)).sub (gsm n fun p => ((FT k x p).mul (FT k y p)).mul (wK k (p * m)).conj)).sc (KU : Int) := by
      rw [← gsm_sc, ← gsm_sub, ← gsm_sc]
      refine gsm_congr fun p _ => ?_
      generalize (KU : Int) = q
      generalize (SU : Int) = r
      apply GI.ext' <;> simp only [GI.mul, GI.sub, GI.sc, GI.conj] <;> grind
    rw [e2, Int.natCast_mul, Int.natCast_mul]
    generalize (gsm n fun p => (Z p).mul (wK k (p * m)).conj) = A
    generalize (gsm n fun p => ((FT k x p).mul (FT k y p)).mul (wK k (p * m)).conj) = B
    generalize (KU : Int) = q
    generalize (SU : Int) = r
    generalize (n : Int) = N
    apply GI.ext' <;> simp only [GI.sub, GI.sc, GI.add] <;> grind
  have tot := (u1.add u2).add u3
  rw [← e] at tot
  have hs : 1371300000000 * s10 ≤ 1371400000000 * SU := by unfold s10 SU; decide +kernel
  have b2 : n * (1371300000000 * (SU * SU) * s10) ≤ 1371400000000 * (n * (SU * SU * SU)) := by
    have := Nat.mul_le_mul_left (n * (SU * SU)) hs
    rwa [show n * (SU * SU) * (1371300000000 * s10) = n * (1371300000000 * (SU * SU) * s10) by ac_rfl, show n * (SU * SU) * (1371400000000 * SU) = 1371400000000 * (n * (SU * SU * SU)) by ac_rfl] at this
  refine Bd.unsc (n := KU * (SU * SU)) (Nat.mul_pos (by decide) (Nat.mul_pos hSp hSp)) ?_
  have t5 := tot.sc 5
  rw [sc_sc] at t5 ⊢
  rw [show ((5 : Nat) : Int) * ((KU * (SU * SU) : Nat) : Int) = ((KU * (SU * SU) : Nat) : Int) * ((5 : Nat) : Int) from Int.mul_comm _ _]
  refine t5.mono ?_
  rw [show SU * (10 * (n * (68200000000 * SU * SU))) = 682000000000 * (n * (SU * SU * SU)) by grind, show n * (17046000000 * (SU * SU * SU)) = 17046000000 * (n * (SU * SU * SU)) by ac_rfl, show KU * (SU * SU) * (n * SU) = KU * (n * (SU * SU * SU)) by ac_rfl]
  generalize n * (SU * SU * SU) = u at *
  generalize n * (1371300000000 * (SU * SU) * s10) = v at *
  unfold KU
  clear e tot t5 u1 u2 u3 h3 hZ hR hs
  omega
end Go.Proofs.Ygctab
