import Derived.Test.YgctabFltB
namespace Go.Proofs.Ygctab
open Go.RowKit
set_option linter.unusedVariables false
set_option linter.unusedSimpArgs false
set_option exponentiation.threshold 3000

/-- A NaN's bits. -/
def nanB (p : Nat) : Bool := (Ieee.double.read p).isNaN
/-- A double up to a NaN's bits. -/
def cls (p : Nat) : Option Nat := if nanB p then none else some p

theorem nanB_iff (p : Nat) : nanB p = decide (9218868437227405312 < p % 9223372036854775808) := by
  unfold nanB Ieee.Format.read
  simp only [dbl_sw, dbl_bin, dbl_inf]
  split
  · rename_i h
    rw [decide_eq_false (by omega)]; rfl
  · split
    · rename_i h1 h
      rw [decide_eq_false (by omega)]; rfl
    · split
      · rename_i h1 h2 h
        rw [decide_eq_false (by omega)]; rfl
      · rename_i h1 h2 h
        rw [decide_eq_true (by omega)]; rfl
theorem nanB_word {neg : Bool} {R : Nat} (h : R ≤ 9218868437227405312) : nanB (Ieee.double.word neg R) = false := by
  rw [nanB_iff]
  refine decide_eq_false ?_
  unfold Ieee.Format.word
  rw [dbl_sw]
  cases neg <;> simp <;> omega
theorem nanB_write {d : Ieee.Datum} (h : d.isNaN = false) : nanB (Ieee.double.write d) = false := by
  cases d with
  | number s m e =>
    show nanB (Ieee.double.nearest s m e) = false
    unfold Ieee.Format.nearest
    split
    · exact nanB_word (by decide)
    · simp only [dbl_inf]
      exact nanB_word (Nat.min_le_right _ _)
  | infinity s => exact nanB_word (by rw [dbl_inf]; exact Nat.le_refl _)
  | nan s f => simp [Ieee.Datum.isNaN] at h

theorem order_self (p : Nat) : FloatKind.f64.format.order p p = if nanB p then none else some .eq := by
  show (Ieee.double.read p).order (Ieee.double.read p) = _
  unfold nanB
  cases Ieee.double.read p with
  | number s m e =>
    simp only [Ieee.Datum.order, Ieee.Datum.isNaN]
    have : ∀ z : Int, compare z z = .eq := fun z => Int.compare_eq_eq.2 rfl
    simp [this]
  | infinity s => cases s <;> rfl
  | nan s f => rfl
theorem neq_self (p : Nat) : (FloatKind.f64.format.order p p != some .eq) = nanB p := by
  rw [order_self]
  cases nanB p <;> rfl

theorem sum_nan {a b d : Ieee.Datum} (h : a.sum b = some d) : a.isNaN = false ∧ b.isNaN = false ∧ d.isNaN = false := by
  cases a <;> cases b <;> simp [Ieee.Datum.sum] at h <;> first | (subst h; exact ⟨rfl, rfl, rfl⟩) | (obtain ⟨-, rfl⟩ := h; exact ⟨rfl, rfl, rfl⟩)
theorem product_nan {a b d : Ieee.Datum} (h : a.product b = some d) : a.isNaN = false ∧ b.isNaN = false ∧ d.isNaN = false := by
  cases a <;> cases b <;> simp [Ieee.Datum.product] at h <;> first | (subst h; exact ⟨rfl, rfl, rfl⟩) | (obtain ⟨-, rfl⟩ := h; exact ⟨rfl, rfl, rfl⟩)
theorem quotient_nan {k : Nat} {a b d : Ieee.Datum} (h : a.quotient k b = some d) : a.isNaN = false ∧ b.isNaN = false ∧ d.isNaN = false := by
  cases a with
  | nan s f => simp [Ieee.Datum.quotient] at h
  | infinity s =>
    cases b with
    | nan t f => simp [Ieee.Datum.quotient] at h
    | infinity t => simp [Ieee.Datum.quotient] at h
    | number t n j => simp [Ieee.Datum.quotient] at h; subst h; exact ⟨rfl, rfl, rfl⟩
  | number s m i =>
    cases b with
    | nan t f => simp [Ieee.Datum.quotient] at h
    | infinity t => simp [Ieee.Datum.quotient] at h; subst h; exact ⟨rfl, rfl, rfl⟩
    | number t n j =>
      simp only [Ieee.Datum.quotient] at h
      split at h
      · split at h
        · cases h
        · cases h; exact ⟨rfl, rfl, rfl⟩
      · cases h; exact ⟨rfl, rfl, rfl⟩
theorem isNaN_opposite (d : Ieee.Datum) : d.opposite.isNaN = d.isNaN := by cases d <;> rfl

/-- An operation that answers: neither the operands nor the answer are NaNs. -/
theorem floatBits_nan {op : BinOp} {x y r : Nat} (h : floatBits op .f64 x y = some r) : nanB x = false ∧ nanB y = false ∧ nanB r = false := by
  unfold floatBits at h
  split at h
  · have h' : ((Ieee.double.read x).sum (Ieee.double.read y)).map Ieee.double.write = some r := h
    obtain ⟨d, hd, rfl⟩ := Option.map_eq_some_iff.1 h'
    obtain ⟨h1, h2, h3⟩ := sum_nan hd
    exact ⟨h1, h2, nanB_write h3⟩
  · have h' : ((Ieee.double.read x).sum (Ieee.double.read y).opposite).map Ieee.double.write = some r := h
    obtain ⟨d, hd, rfl⟩ := Option.map_eq_some_iff.1 h'
    obtain ⟨h1, h2, h3⟩ := sum_nan hd
    rw [isNaN_opposite] at h2
    exact ⟨h1, h2, nanB_write h3⟩
  · have h' : ((Ieee.double.read x).product (Ieee.double.read y)).map Ieee.double.write = some r := h
    obtain ⟨d, hd, rfl⟩ := Option.map_eq_some_iff.1 h'
    obtain ⟨h1, h2, h3⟩ := product_nan hd
    exact ⟨h1, h2, nanB_write h3⟩
  · have h' : ((Ieee.double.read x).quotient _ (Ieee.double.read y)).map Ieee.double.write = some r := h
    obtain ⟨d, hd, rfl⟩ := Option.map_eq_some_iff.1 h'
    obtain ⟨h1, h2, h3⟩ := quotient_nan hd
    exact ⟨h1, h2, nanB_write h3⟩
  · cases h

/-- The operation up to NaNs. -/
def opc (op : BinOp) : Option Nat → Option Nat → Option Nat
  | some x, some y => floatBits op .f64 x y
  | _, _ => none
/-- What the operation gives in that world, and how many draws it takes. -/
def fopR (op : BinOp) (x y : Nat) (w : World) : Nat := match floatBits op .f64 x y with
  | some r => r
  | none => (Question.nanBits .f64 x y).cut (w.tape w.drawn (.nanBits .f64 x y))
def fopK (op : BinOp) (x y : Nat) : Nat := if (floatBits op .f64 x y).isSome then 0 else 1
def arith (op : BinOp) : Prop := op = .add ∨ op = .sub ∨ op = .mul ∨ op = .quo

theorem nan_cut (x y t : Nat) : nanB ((Question.nanBits .f64 x y).cut t) = true := by
  rw [nanB_iff]
  refine decide_eq_true ?_
  simp only [Question.cut]
  have hb : t / 2 % (2 ^ 52 - 1) < 2 ^ 52 - 1 := Nat.mod_lt _ (by decide)
  generalize t / 2 % (2 ^ 52 - 1) = b at *
  rcases (show t % 2 = 0 ∨ t % 2 = 1 by omega) with h | h <;> rw [h] <;> omega
theorem cls_fop (op : BinOp) (x y : Nat) (w : World) : cls (fopR op x y w) = opc op (cls x) (cls y) := by
  unfold fopR cls
  cases h : floatBits op .f64 x y with
  | some r =>
    obtain ⟨h1, h2, h3⟩ := floatBits_nan h
    simp only [h1, h2, h3, Bool.false_eq_true, if_false, opc, h]
  | none =>
    simp only [nan_cut, if_true]
    cases hx : nanB x <;> cases hy : nanB y <;> simp [opc, h]
theorem run_fop {P : Program} {op : BinOp} (ho : arith op) (t : TypeId) (x y : Nat) (w : World) : (binOp op t (.float .f64 x) (.float .f64 y)).run P w = .ok (.float .f64 (fopR op x y w)) (w.drewN (fopK op x y)) := by
  unfold fopR fopK
  cases h : floatBits op .f64 x y with
  | some r =>
    simp only [Option.isSome_some, if_true]
    exact run_float_arith (P := P) w op t .f64 x y r h
  | none =>
    simp only [Option.isSome_none, Bool.false_eq_true, if_false]
    unfold floatBits at h
    rcases ho with rfl | rfl | rfl | rfl <;> simp only at h <;> simp [binOp, Op.floatArith, h, Question.forced] <;> rfl
end Go.Proofs.Ygctab
