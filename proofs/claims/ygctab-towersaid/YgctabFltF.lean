import Derived.Test.YgctabFltE
import Derived.Test.YgctabGi
import Derived.Test.YgctabFftH
namespace Go.Proofs.Ygctab
open Go.RowKit
set_option linter.unusedVariables false
set_option linter.unusedSimpArgs false
set_option exponentiation.threshold 5000

/-- One, in units of 2^-1074. -/
def SU : Nat := 2 ^ 1074
theorem SU_pos : 0 < SU := two_pos _
/-- The class is a pair of finite doubles of these values. -/
def CV (c : Cx) (z : GI) : Prop := FV c.1 z.re ∧ FV c.2 z.im

theorem sc_sc (y : GI) (a b : Int) : (y.sc a).sc b = y.sc (a * b) := GI.ext' (by simp only [GI.sc]; grind) (by simp only [GI.sc]; grind)
theorem sc2 {y : GI} {n R : Nat} (h : Bd (y.sc ((n * 2 : Nat) : Int)) (R + R)) : Bd (y.sc n) R := by
  refine Bd.unsc (n := 2) (by decide) ?_
  rw [sc_sc, ← Int.natCast_mul]
  rwa [Nat.two_mul]
theorem natAbs_sc (n : Nat) (a : Int) : ((n : Int) * a).natAbs = n * a.natAbs := by rw [Int.natAbs_mul]; rfl

theorem CV.add {c d : Cx} {z w : GI} {R : Nat} (h : CV c z) (k : CV d w) (hR : Bd (z.add w) R) (hb : R < 2 ^ 2097) : ∃ x, CV (addX c d) x ∧ Bd ((x.sub (z.add w)).sc ((4503599627370496 : Nat) : Int)) R := by
  have b1 := hR.re
  have b2 := hR.im
  obtain ⟨x1, f1, e1⟩ := h.1.add k.1 (Nat.lt_of_le_of_lt b1 hb)
  obtain ⟨x2, f2, e2⟩ := h.2.add k.2 (Nat.lt_of_le_of_lt b2 hb)
  refine ⟨⟨x1, x2⟩, ⟨f1, f2⟩, sc2 (Bd.comps ?_ ?_)⟩
  · show (((4503599627370496 * 2 : Nat) : Int) * (x1 - (z.re + w.re))).natAbs ≤ R
    rw [natAbs_sc]
    exact Nat.le_trans e1 b1
  · show (((4503599627370496 * 2 : Nat) : Int) * (x2 - (z.im + w.im))).natAbs ≤ R
    rw [natAbs_sc]
    exact Nat.le_trans e2 b2
theorem CV.sub {c d : Cx} {z w : GI} {R : Nat} (h : CV c z) (k : CV d w) (hR : Bd (z.sub w) R) (hb : R < 2 ^ 2097) : ∃ x, CV (subX c d) x ∧ Bd ((x.sub (z.sub w)).sc ((4503599627370496 : Nat) : Int)) R := by
  have b1 := hR.re
  have b2 := hR.im
  obtain ⟨x1, f1, e1⟩ := h.1.sub k.1 (Nat.lt_of_le_of_lt b1 hb)
  obtain ⟨x2, f2, e2⟩ := h.2.sub k.2 (Nat.lt_of_le_of_lt b2 hb)
  refine ⟨⟨x1, x2⟩, ⟨f1, f2⟩, sc2 (Bd.comps ?_ ?_)⟩
  · show (((4503599627370496 * 2 : Nat) : Int) * (x1 - (z.re - w.re))).natAbs ≤ R
    rw [natAbs_sc]
    exact Nat.le_trans e1 b1
  · show (((4503599627370496 * 2 : Nat) : Int) * (x2 - (z.im - w.im))).natAbs ≤ R
    rw [natAbs_sc]
    exact Nat.le_trans e2 b2

theorem tp_half (S R : Nat) (p u : Int) (ep : 9007199254740992 * (p * (S : Int) - u).natAbs ≤ u.natAbs + 4503599627370496 * S) (b1 : u.natAbs ≤ R) (hS : 36028797018963968 * S ≤ R) : (p * (S : Int)).natAbs ≤ 2 * R := by
  generalize p * (S : Int) = P at *
  omega
theorem tp_arith (S R : Nat) (p q x u v : Int) (ep : 9007199254740992 * (p * (S : Int) - u).natAbs ≤ u.natAbs + 4503599627370496 * S) (eq : 9007199254740992 * (q * (S : Int) - v).natAbs ≤ v.natAbs + 4503599627370496 * S)
    (b1 : u.natAbs ≤ R) (b2 : v.natAbs ≤ R) (hS : 36028797018963968 * S ≤ R) (ex : 9007199254740992 * (x - (p - q)).natAbs ≤ (p - q).natAbs) : 9007199254740992 * (x * (S : Int) - (u - v)).natAbs ≤ 6 * R := by
  have ex2 : 9007199254740992 * ((x - (p - q)) * (S : Int)).natAbs ≤ ((p - q) * (S : Int)).natAbs := by
    rw [Int.natAbs_mul, Int.natAbs_mul, ← Nat.mul_assoc]
    exact Nat.mul_le_mul_right _ ex
  have e1 : x * (S : Int) - (u - v) = (x - (p - q)) * (S : Int) + (p * (S : Int) - u) - (q * (S : Int) - v) := by grind
  have e2 : (p - q) * (S : Int) = (p * (S : Int) - u) - (q * (S : Int) - v) + (u - v) := by grind
  rw [e2] at ex2
  rw [e1]
  generalize (x - (p - q)) * (S : Int) = D3 at *
  generalize p * (S : Int) - u = D1 at *
  generalize q * (S : Int) - v = D2 at *
  clear e1 e2 ex
  omega
theorem tp_small (S R : Nat) (hS : S = 2 ^ 1074) (hR : R < 2 ^ 3100) (y : Int) (hy : (y * (S : Int)).natAbs ≤ 4 * R) : y.natAbs < 2 ^ 2097 := by
  rw [Int.natAbs_mul, Int.natAbs_natCast] at hy
  rcases Nat.lt_or_ge y.natAbs (2 ^ 2097) with h | h
  · exact h
  · exfalso
    have h5 : 2 ^ 2097 * S ≤ y.natAbs * S := Nat.mul_le_mul_right _ h
    have h6 : 2 ^ 2097 * S = 2 ^ 71 * 2 ^ 3100 := by rw [hS, ← Nat.pow_add]
    have h7 : 4 * 2 ^ 3100 ≤ 2 ^ 71 * 2 ^ 3100 := Nat.mul_le_mul_right _ (by decide)
    generalize 2 ^ 3100 = X at *
    generalize 2 ^ 71 * X = Y at *
    generalize 2 ^ 2097 * S = Z at *
    generalize y.natAbs * S = V at *
    omega

/-- Two products, one taken from the other or added to it, all rounded. -/
theorem two_sub {c1 c2 c3 c4 : Option Nat} {a1 a2 a3 a4 : Int} {R : Nat} (h1 : FV c1 a1) (h2 : FV c2 a2) (h3 : FV c3 a3) (h4 : FV c4 a4)
    (b1 : (a1 * a2).natAbs ≤ R) (b2 : (a3 * a4).natAbs ≤ R) (hS : 36028797018963968 * SU ≤ R) (hR : R < 2 ^ 3100) :
    ∃ x, FV (opc .sub (opc .mul c1 c2) (opc .mul c3 c4)) x ∧ 9007199254740992 * (x * (SU : Int) - (a1 * a2 - a3 * a4)).natAbs ≤ 6 * R := by
  have hlt : R < 2 ^ (2097 + 1074) := Nat.lt_of_lt_of_le hR (Nat.pow_le_pow_right (by decide) (by decide))
  obtain ⟨p, fp, ep⟩ := h1.mul h2 (Nat.lt_of_le_of_lt b1 hlt)
  obtain ⟨q, fq, eq⟩ := h3.mul h4 (Nat.lt_of_le_of_lt b2 hlt)
  have hp := tp_half SU R p _ ep b1 hS
  have hq := tp_half SU R q _ eq b2 hS
  have hpq : ((p - q) * (SU : Int)).natAbs ≤ 4 * R := by
    rw [Int.sub_mul]
    generalize p * (SU : Int) = P at *
    generalize q * (SU : Int) = Q at *
    clear ep eq hS hR hlt
    omega
  obtain ⟨x, fx, ex⟩ := fp.sub fq (tp_small SU R rfl hR _ hpq)
  exact ⟨x, fx, tp_arith SU R p q x _ _ ep eq b1 b2 hS ex⟩
theorem two_add {c1 c2 c3 c4 : Option Nat} {a1 a2 a3 a4 : Int} {R : Nat} (h1 : FV c1 a1) (h2 : FV c2 a2) (h3 : FV c3 a3) (h4 : FV c4 a4)
    (b1 : (a1 * a2).natAbs ≤ R) (b2 : (a3 * a4).natAbs ≤ R) (hS : 36028797018963968 * SU ≤ R) (hR : R < 2 ^ 3100) :
    ∃ x, FV (opc .add (opc .mul c1 c2) (opc .mul c3 c4)) x ∧ 9007199254740992 * (x * (SU : Int) - (a1 * a2 + a3 * a4)).natAbs ≤ 6 * R := by
  have hlt : R < 2 ^ (2097 + 1074) := Nat.lt_of_lt_of_le hR (Nat.pow_le_pow_right (by decide) (by decide))
  obtain ⟨p, fp, ep⟩ := h1.mul h2 (Nat.lt_of_le_of_lt b1 hlt)
  obtain ⟨q, fq, eq⟩ := h3.mul h4 (Nat.lt_of_le_of_lt b2 hlt)
  have hp := tp_half SU R p _ ep b1 hS
  have hq := tp_half SU R q _ eq b2 hS
  have hpq : ((p + q) * (SU : Int)).natAbs ≤ 4 * R := by
    rw [Int.add_mul]
    generalize p * (SU : Int) = P at *
    generalize q * (SU : Int) = Q at *
    clear ep eq hS hR hlt
    omega
  obtain ⟨x, fx, ex⟩ := fp.add fq (tp_small SU R rfl hR _ hpq)
  refine ⟨x, fx, ?_⟩
  have := tp_arith SU R p (-q) x (a1 * a2) (-(a3 * a4)) ep (by rw [Int.neg_mul, Int.natAbs_neg (a3 * a4)]; rw [show -(q * (SU : Int)) - -(a3 * a4) = -(q * (SU : Int) - a3 * a4) by grind, Int.natAbs_neg]; exact eq) b1 (by rw [Int.natAbs_neg]; exact b2) hS (by rw [show p - -q = p + q by grind]; exact ex)
  rwa [show a1 * a2 - -(a3 * a4) = a1 * a2 + a3 * a4 by grind] at this

theorem abs_mul_le {a b : Int} {r s : Nat} (h : a.natAbs ≤ r) (k : b.natAbs ≤ s) : (a * b).natAbs ≤ r * s := by
  rw [Int.natAbs_mul]; exact Nat.mul_le_mul h k

/-- A product of two complex doubles, near the exact one. -/
theorem CV.mul {c d : Cx} {z w : GI} {r s : Nat} (h : CV c z) (k : CV d w) (hz : Bd z r) (hw : Bd w s) (hS : 36028797018963968 * SU ≤ r * s) (hR : r * s < 2 ^ 3100) :
    ∃ x, CV (mulX c d) x ∧ Bd (((x.sc (SU : Int)).sub (z.mul w)).sc ((562949953421312 : Nat) : Int)) (r * s) := by
  obtain ⟨x1, f1, e1⟩ := two_sub h.1 k.1 h.2 k.2 (abs_mul_le hz.re hw.re) (abs_mul_le hz.im hw.im) hS hR
  obtain ⟨x2, f2, e2⟩ := two_add h.1 k.2 h.2 k.1 (abs_mul_le hz.re hw.im) (abs_mul_le hz.im hw.re) hS hR
  refine ⟨⟨x1, x2⟩, ⟨f1, f2⟩, ?_⟩
  have key : Bd (((GI.mk x1 x2).sc (SU : Int)).sub (z.mul w) |>.sc ((562949953421312 * 16 : Nat) : Int)) (16 * (r * s)) := by
    refine (Bd.comps (r := 6 * (r * s)) (s := 6 * (r * s)) ?_ ?_).mono (by omega)
    · show (((562949953421312 * 16 : Nat) : Int) * ((SU : Int) * x1 - (z.re * w.re - z.im * w.im))).natAbs ≤ _
      rw [natAbs_sc, Int.mul_comm (SU : Int)]
      exact e1
    · show (((562949953421312 * 16 : Nat) : Int) * ((SU : Int) * x2 - (z.re * w.im + z.im * w.re))).natAbs ≤ _
      rw [natAbs_sc, Int.mul_comm (SU : Int)]
      exact e2
  refine Bd.unsc (n := 16) (by decide) ?_
  generalize ((GI.mk x1 x2).sc (SU : Int)).sub (z.mul w) = y at *
  rwa [sc_sc, ← Int.natCast_mul]
end Go.Proofs.Ygctab
