import Derived.Test.YgctabDoorMul2
import Derived.Test.YgctabDoorFinI
import Derived.Test.YgctabDoorGrowLaw
namespace Go.Proofs.YgctabDoor
open Go.RowKit
set_option linter.unusedVariables false
set_option linter.unusedSimpArgs false
set_option exponentiation.threshold 6000

def ftZ (a b : Nat) : Nat := fsub (fadd a b) a
def ftE (a b : Nat) : Nat := fsub b (ftZ a b)
/-- FastTwoSum is exact where the second is not the greater. -/
theorem fts_spec {a b : Nat} (ha : Fin64 a) (hb : Fin64 b) (ba : (fval a).natAbs ≤ capM) (hle : (fval b).natAbs ≤ (fval a).natAbs) :
    (floatBits .add .f64 a b = some (fadd a b) ∧ floatBits .sub .f64 (fadd a b) a = some (ftZ a b) ∧ floatBits .sub .f64 b (ftZ a b) = some (ftE a b)) ∧
    Fin64 (fadd a b) ∧ Fin64 (ftE a b) ∧ fval (fadd a b) = rnd (fval a + fval b) ∧ fval (ftE a b) = fval a + fval b - rnd (fval a + fval b) := by
  have hab : (fval a + fval b).natAbs ≤ 2 * capM := nb_add ba (Nat.le_trans hle ba) (by omega)
  have hp1 : 0 < capM := by rw [capM_eq]; exact Nat.pow_pos (by decide)
  obtain ⟨s1, s2, s3⟩ := add_val' ha hb (by omega)
  have hs : (fval (fadd a b)).natAbs ≤ 4 * capM := nb_rnd s3 hab (by omega)
  obtain ⟨z1, z2, z3⟩ := sub_val' s2 ha (by have := nb_sub hs ba (k := 5 * capM) (by omega); omega)
  rw [s3, rnd_exact (rep_fast (rep_fval a) (rep_fval b) hle)] at z3
  have hz : (fval (ftZ a b)).natAbs ≤ 5 * capM := by
    show (fval (fsub (fadd a b) a)).natAbs ≤ _
    rw [z3, ← s3]
    exact nb_sub hs ba (by omega)
  have hp0 : 0 < capM := by rw [capM_eq]; exact Nat.pow_pos (by decide)
  have hbz := nb_sub (Nat.le_trans hle ba) hz (k := 6 * capM) (by omega)
  obtain ⟨e1, e2, e3⟩ := sub_val' hb z2 (Nat.lt_of_le_of_lt hbz (by omega))
  have hval : fval b - fval (fsub (fadd a b) a) = fval a + fval b - rnd (fval a + fval b) := by rw [z3]; omega
  rw [hval, rnd_exact (rep_err (rep_fval a) (rep_fval b))] at e3
  exact ⟨⟨s1, z1, e1⟩, s2, e2, s3, e3⟩

def FTok (a b : Nat) : Prop := floatBits .add .f64 a b = some (fadd a b) ∧ floatBits .sub .f64 (fadd a b) a = some (ftZ a b) ∧ floatBits .sub .f64 b (ftZ a b) = some (ftE a b)

set_option maxRecDepth 100000 in
theorem fts_any (a b : Nat) (h : FTok a b) (w : World) : Calls Tabg.prog 17 #[.float .f64 a, .float .f64 b] w fun e w' => e = .returned (.tuple #[.float .f64 (fadd a b), .float .f64 (ftE a b)]) ∧ w = w' := by
  obtain ⟨h1, h2, h3⟩ := h
  have g1 := fun w : World => run_float_arith (P := Tabg.prog) w .add 34 .f64 _ _ _ h1
  have g2 := fun w : World => run_float_arith (P := Tabg.prog) w .sub 34 .f64 _ _ _ h2
  have g3 := fun w : World => run_float_arith (P := Tabg.prog) w .sub 34 .f64 _ _ _ h3
  go_enter Tabg.func17, Tabg.ntmps17
  go_wp2
  go_ret2
  exact ⟨rfl, rfl⟩

/-- The last step of Finish. -/
def fin2 (s e : Int) : List Int → Int
  | [] => s
  | q :: _ => if (e < 0 ∧ q < 0) ∨ (0 < e ∧ 0 < q) then (if rnd (s + 2 * e) - s = 2 * e then rnd (s + 2 * e) else s) else s
theorem finR_cons (hi p : Int) (rest : List Int) : finR hi (p :: rest) = if hi + p - rnd (hi + p) = 0 then finR (rnd (hi + p)) rest else fin2 (rnd (hi + p)) (hi + p - rnd (hi + p)) rest := by
  conv => lhs; unfold finR
  cases rest <;> rfl

theorem e_small {T : Int} (he : T - rnd T ≠ 0) : 2 * (T - rnd T).natAbs ≤ (rnd T).natAbs := by
  have hd0 : ed T.natAbs ≠ 0 := by
    intro h0
    apply he
    rw [rnd_of_dvd (z := T) (by unfold ulp; rw [h0]; simp)]
    omega
  have hlo := ed_ge hd0
  have herr := rnd_err T
  have hu : ulp T = 2 ^ ed T.natAbs := rfl
  have h1 : 2 ^ 52 ≤ rne T.natAbs (ed T.natAbs) := rne_ge (by rw [← Nat.pow_add]; exact hlo)
  have h2 : 2 ^ ed T.natAbs ≤ rndN T.natAbs := by
    unfold rndN
    have := Nat.mul_le_mul_right (2 ^ ed T.natAbs) (show 1 ≤ rne T.natAbs (ed T.natAbs) by omega)
    omega
  rw [rnd_abs]
  omega

/-- The partials below place i, the greatest first. -/
def below (ps : List Nat) (i : Nat) : List Int := (vals (ps.take i)).reverse
theorem below_succ {ps : List Nat} {i : Nat} (h : i < ps.length) : below ps (i + 1) = fval (ps[i]?.getD 0) :: below ps i := by
  unfold below
  rw [List.take_add_one, vals_append, List.reverse_append, List.getElem?_eq_getElem h]
  rfl
theorem below_zero (ps : List Nat) : below ps 0 = [] := rfl

/-- The sum is exact so far. -/
structure Ph1 (ps : List Nat) (T : Int) (i hi : Nat) : Prop where
  fin : Fin64 hi
  ne : fval hi ≠ 0
  dn : ∃ K, ((2 ^ K : Nat) : Int) ∣ fval hi ∧ Dn K (below ps i)
  bound : (fval hi).natAbs + magsI (below ps i) ≤ capM
  out : T = rnd (fval hi + sumI (below ps i))
/-- An error is left. -/
structure Ph2 (ps : List Nat) (T : Int) (i hi lo : Nat) : Prop where
  fin : Fin64 hi
  finl : Fin64 lo
  ne : fval lo ≠ 0
  small : 2 * (fval lo).natAbs ≤ (fval hi).natAbs
  bound : (fval hi).natAbs ≤ 4 * capM
  out : T = fin2 (fval hi) (fval lo) (below ps i)

theorem Ph1.step {ps : List Nat} {T : Int} {i hi : Nat} (hi' : i < ps.length) (hF : ∀ p ∈ ps, Fin64 p) (h : Ph1 ps T (i + 1) hi) :
    FTok hi (ps[i]?.getD 0) ∧ Fin64 (ftE hi (ps[i]?.getD 0)) ∧ ((fval (ftE hi (ps[i]?.getD 0)) = 0 ∧ Ph1 ps T i (fadd hi (ps[i]?.getD 0))) ∨ Ph2 ps T i (fadd hi (ps[i]?.getD 0)) (ftE hi (ps[i]?.getD 0))) := by
  obtain ⟨h1, h2, ⟨K, h3, h4⟩, h5, h6⟩ := h
  have hp : Fin64 (ps[i]?.getD 0) := by rw [List.getElem?_eq_getElem hi']; exact hF _ (List.getElem_mem hi')
  rw [below_succ hi'] at h4 h5 h6
  generalize ps[i]?.getD 0 = p at *
  have h4' := h4
  obtain ⟨g1, g2, L, g3, g4⟩ := h4'
  have hhi := dvd_natAbs_le h2 h3
  unfold magsI at h5
  obtain ⟨k1, k2, k3, k4, k5⟩ := fts_spec h1 hp (by omega) (by omega)
  refine ⟨k1, k3, ?_⟩
  have hLK : L ≤ K := by
    have hl := dvd_natAbs_le g1 g3
    have : 2 ^ L < 2 ^ K := by omega
    exact Nat.le_of_lt ((Nat.pow_lt_pow_iff_right (by decide)).1 this)
  have hT : ((2 ^ L : Nat) : Int) ∣ fval hi + fval p := Int.dvd_add (pow_dvd_trans hLK h3) g3
  have hout : T = finR (fval hi) (fval p :: below ps i) := by rw [h6, fin_right _ _ K (rep_fval hi) h2 h3 h4]
  rw [finR_cons] at hout
  by_cases he : fval hi + fval p - rnd (fval hi + fval p) = 0
  · left
    refine ⟨by rw [k5]; exact he, k2, by rw [k4]; omega, ⟨L, by rw [k4]; exact rnd_dvd hT, g4⟩, by rw [k4]; omega, ?_⟩
    rw [h6, k4]
    simp only [sumI]
    congr 1
    omega
  · right
    rw [if_neg he] at hout
    refine ⟨k2, k3, by rw [k5]; exact he, by rw [k4, k5]; exact e_small he, ?_, by rw [k4, k5]; exact hout⟩
    exact nb_rnd k4 (m := 2 * capM) (by omega) (by omega)

/-- The end, with an error left and one more number below. -/
theorem Ph2.last {ps : List Nat} {T : Int} {i hi lo : Nat} (hi' : i < ps.length) (hF : ∀ p ∈ ps, Fin64 p) (h : Ph2 ps T (i + 1) hi lo) :
    let q := ps[i]?.getD 0
    Fin64 q ∧ (((fval lo < 0 ∧ fval q < 0) ∨ (0 < fval lo ∧ 0 < fval q)) →
      floatBits .mul .f64 4611686018427387904 lo = some (ftwo lo) ∧ floatBits .add .f64 hi (ftwo lo) = some (fadd hi (ftwo lo)) ∧ floatBits .sub .f64 (fadd hi (ftwo lo)) hi = some (fsub (fadd hi (ftwo lo)) hi) ∧
      Fin64 (fsub (fadd hi (ftwo lo)) hi) ∧ Fin64 (ftwo lo) ∧ Fin64 (fadd hi (ftwo lo)) ∧
      (fval (fsub (fadd hi (ftwo lo)) hi) = fval (ftwo lo) → T = fval (fadd hi (ftwo lo))) ∧ (fval (fsub (fadd hi (ftwo lo)) hi) ≠ fval (ftwo lo) → T = fval hi)) ∧
    (¬ ((fval lo < 0 ∧ fval q < 0) ∨ (0 < fval lo ∧ 0 < fval q)) → T = fval hi) := by
  intro q
  obtain ⟨h1, h2, h3, h4, h5, h6⟩ := h
  have hq : Fin64 q := by show Fin64 (ps[i]?.getD 0); rw [List.getElem?_eq_getElem hi']; exact hF _ (List.getElem_mem hi')
  rw [below_succ hi'] at h6
  have hp0 : 0 < capM := by rw [capM_eq]; exact Nat.pow_pos (by decide)
  refine ⟨hq, fun hs => ?_, fun hs => ?_⟩
  · have h2lo : (2 * fval lo).natAbs ≤ 4 * capM := by rw [Int.natAbs_mul]; exact Nat.le_trans h4 h5
    obtain ⟨t1, t2, t3⟩ := two_val h2 h3 (by omega)
    have htb : (fval (ftwo lo)).natAbs ≤ 4 * capM := by rw [t3]; exact h2lo
    have hab : (fval hi + fval (ftwo lo)).natAbs ≤ 8 * capM := nb_add h5 htb (by omega)
    obtain ⟨r1, r2, r3⟩ := add_val' h1 t2 (by omega)
    have hrb : (fval (fadd hi (ftwo lo))).natAbs ≤ 16 * capM := nb_rnd r3 hab (by omega)
    have hdb := nb_sub hrb h5 (k := 20 * capM) (by omega)
    obtain ⟨d1, d2, d3⟩ := sub_val' r2 h1 (by omega)
    rw [r3, rnd_exact (rep_fast (rep_fval hi) (rep_fval (ftwo lo)) (by rw [t3, Int.natAbs_mul]; exact h4))] at d3
    refine ⟨t1, r1, d1, d2, t2, r2, ?_, ?_⟩
    · intro hd
      rw [h6, fin2, if_pos hs, r3, t3]
      rw [d3, t3] at hd
      rw [if_pos hd]
    · intro hd
      rw [h6, fin2, if_pos hs]
      rw [d3, t3] at hd
      rw [if_neg hd]
  · rw [h6, fin2, if_neg hs]
end Go.Proofs.YgctabDoor
