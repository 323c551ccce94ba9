import Derived.Test.YgctabFltB
namespace Go.Proofs.Ygctab
open Go.RowKit
set_option linter.unusedVariables false
set_option linter.unusedSimpArgs false
set_option exponentiation.threshold 3000

def fadd (x y : Nat) : Nat := (floatBits .add .f64 x y).getD 0
def fsub (x y : Nat) : Nat := (floatBits .sub .f64 x y).getD 0

/-- Bounds, kept shut. -/
@[irreducible] def capM : Nat := 2 ^ 2090
theorem capM_eq : capM = 2 ^ 2090 := by unfold capM; rfl
theorem cap_lt {n : Nat} (h : n < 128 * capM) : n < 2 ^ 2097 := by
  rw [capM_eq] at h
  exact Nat.lt_of_lt_of_le h (by decide)

theorem add_val' {x y : Nat} (hx : Fin64 x) (hy : Fin64 y) (h : (fval x + fval y).natAbs < 128 * capM) : floatBits .add .f64 x y = some (fadd x y) ∧ Fin64 (fadd x y) ∧ fval (fadd x y) = rnd (fval x + fval y) := by
  obtain ⟨z, h1, h2, h3⟩ := add_val hx hy (cap_lt h)
  unfold fadd
  rw [h1]
  exact ⟨rfl, h2, h3⟩
theorem sub_val' {x y : Nat} (hx : Fin64 x) (hy : Fin64 y) (h : (fval x - fval y).natAbs < 128 * capM) : floatBits .sub .f64 x y = some (fsub x y) ∧ Fin64 (fsub x y) ∧ fval (fsub x y) = rnd (fval x - fval y) := by
  obtain ⟨z, h1, h2, h3⟩ := sub_val hx hy (cap_lt h)
  unfold fsub
  rw [h1]
  exact ⟨rfl, h2, h3⟩

theorem rnd_abs_le (z : Int) : (rnd z).natAbs ≤ 2 * z.natAbs := by
  have := rnd_near z (f := 0) ⟨0, 0, by decide, by decide, by decide⟩
  omega

/-- The steps of TwoSum, on bits. -/
def tsS (a b : Nat) : Nat := fadd a b
def tsB (a b : Nat) : Nat := fsub (tsS a b) a
def tsA (a b : Nat) : Nat := fsub (tsS a b) (tsB a b)
def tsE (a b : Nat) : Nat := fadd (fsub a (tsA a b)) (fsub b (tsB a b))
/-- Every step has an answer. -/
structure TSok (a b : Nat) : Prop where
  o1 : floatBits .add .f64 a b = some (tsS a b)
  o2 : floatBits .sub .f64 (tsS a b) a = some (tsB a b)
  o3 : floatBits .sub .f64 (tsS a b) (tsB a b) = some (tsA a b)
  o4 : floatBits .sub .f64 b (tsB a b) = some (fsub b (tsB a b))
  o5 : floatBits .sub .f64 a (tsA a b) = some (fsub a (tsA a b))
  o6 : floatBits .add .f64 (fsub a (tsA a b)) (fsub b (tsB a b)) = some (tsE a b)

theorem nb_add {x y : Int} {m n k : Nat} (hx : x.natAbs ≤ m) (hy : y.natAbs ≤ n) (h : m + n ≤ k) : (x + y).natAbs ≤ k := by omega
theorem nb_sub {x y : Int} {m n k : Nat} (hx : x.natAbs ≤ m) (hy : y.natAbs ≤ n) (h : m + n ≤ k) : (x - y).natAbs ≤ k := by omega
theorem nb_rnd {z v : Int} {m k : Nat} (e : v = rnd z) (hz : z.natAbs ≤ m) (h : 2 * m ≤ k) : v.natAbs ≤ k := by
  have := rnd_abs_le z
  rw [e]
  omega

theorem twoSum_spec {a b : Nat} (ha : Fin64 a) (hb : Fin64 b) (ba : (fval a).natAbs ≤ capM) (bb : (fval b).natAbs ≤ capM) :
    TSok a b ∧ Fin64 (tsS a b) ∧ Fin64 (tsE a b) ∧ fval (tsS a b) = rnd (fval a + fval b) ∧ fval (tsE a b) = fval a + fval b - rnd (fval a + fval b) := by
  have hp0 : 0 < capM := by rw [capM_eq]; exact two_pos _
  have c1 : (fval a + fval b).natAbs ≤ 2 * capM := nb_add ba bb (by omega)
  obtain ⟨q1, f1, v1⟩ := add_val' ha hb (Nat.lt_of_le_of_lt c1 (by omega))
  have b1 : (fval (fadd a b)).natAbs ≤ 4 * capM := nb_rnd v1 c1 (by omega)
  have c2 : (fval (fadd a b) - fval a).natAbs ≤ 5 * capM := nb_sub b1 ba (by omega)
  obtain ⟨q2, f2, v2⟩ := sub_val' f1 ha (Nat.lt_of_le_of_lt c2 (by omega))
  have b2 : (fval (fsub (fadd a b) a)).natAbs ≤ 10 * capM := nb_rnd v2 c2 (by omega)
  have c3 : (fval (fadd a b) - fval (fsub (fadd a b) a)).natAbs ≤ 14 * capM := nb_sub b1 b2 (by omega)
  obtain ⟨q3, f3, v3⟩ := sub_val' f1 f2 (Nat.lt_of_le_of_lt c3 (by omega))
  have b3 : (fval (fsub (fadd a b) (fsub (fadd a b) a))).natAbs ≤ 28 * capM := nb_rnd v3 c3 (by omega)
  have c4 : (fval b - fval (fsub (fadd a b) a)).natAbs ≤ 11 * capM := nb_sub bb b2 (by omega)
  obtain ⟨q4, f4, v4⟩ := sub_val' hb f2 (Nat.lt_of_le_of_lt c4 (by omega))
  have b4 : (fval (fsub b (fsub (fadd a b) a))).natAbs ≤ 22 * capM := nb_rnd v4 c4 (by omega)
  have c5 : (fval a - fval (fsub (fadd a b) (fsub (fadd a b) a))).natAbs ≤ 29 * capM := nb_sub ba b3 (by omega)
  obtain ⟨q5, f5, v5⟩ := sub_val' ha f3 (Nat.lt_of_le_of_lt c5 (by omega))
  have b5 : (fval (fsub a (fsub (fadd a b) (fsub (fadd a b) a)))).natAbs ≤ 58 * capM := nb_rnd v5 c5 (by omega)
  have c6 := nb_add b5 b4 (Nat.le_refl _)
  obtain ⟨q6, f6, v6⟩ := add_val' f5 f4 (Nat.lt_of_le_of_lt c6 (by omega))
  have hx := twoSum_exact (rep_fval a) (rep_fval b)
  unfold tsErr at hx
  simp only [← v1] at hx ⊢
  rw [← v2, ← v3, ← v4, ← v5, ← v6] at hx
  exact ⟨⟨q1, q2, q3, q4, q5, q6⟩, f1, f6, rfl, hx⟩

theorem twoSum_any (a b : Nat) (h : TSok a b) (w : World) : Calls Tabg.prog 100 #[.float .f64 a, .float .f64 b] w fun e w' => e = .returned (.tuple #[.float .f64 (tsS a b), .float .f64 (tsE a b)]) ∧ w = w' := by
  obtain ⟨o1, o2, o3, o4, o5, o6⟩ := h
  generalize tsS a b = s at *
  generalize tsE a b = e at *
  generalize tsB a b = bb at *
  generalize tsA a b = aa at *
  generalize fsub b bb = db at *
  generalize fsub a aa = da at *
  have r1 := fun w => run_float_arith (P := Tabg.prog) w .add 28 .f64 a b s o1
  have r2 := fun w => run_float_arith (P := Tabg.prog) w .sub 28 .f64 s a bb o2
  have r3 := fun w => run_float_arith (P := Tabg.prog) w .sub 28 .f64 s bb aa o3
  have r4 := fun w => run_float_arith (P := Tabg.prog) w .sub 28 .f64 b bb db o4
  have r5 := fun w => run_float_arith (P := Tabg.prog) w .sub 28 .f64 a aa da o5
  have r6 := fun w => run_float_arith (P := Tabg.prog) w .add 28 .f64 da db e o6
  clear o1 o2 o3 o4 o5 o6
  go_enter Tabg.func100, Tabg.ntmps100
  go_wp2
  go_ret2
  exact ⟨rfl, rfl⟩
end Go.Proofs.Ygctab
