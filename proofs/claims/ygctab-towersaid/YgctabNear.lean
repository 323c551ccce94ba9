import Derived.Test.YgctabFltH
namespace Go.Proofs.Ygctab
open Go.RowKit
set_option linter.unusedVariables false
set_option linter.unusedSimpArgs false
set_option exponentiation.threshold 5000

theorem rep_quarters (j : Int) (h : j.natAbs ≤ 16) : Rep (j * 2 ^ 1072) := ⟨j, 1072, by omega, by omega, rfl⟩
theorem SU4 : (SU : Int) = 4 * 2 ^ 1072 := by
  have : SU = 4 * 2 ^ 1072 := by unfold SU; decide +kernel
  rw [this, Int.natCast_mul, Int.natCast_pow]; rfl
/-- A difference, rounded, between quarters. -/
theorem sub_between {x y : Nat} (hx : Fin64 x) (hy : Fin64 y) (lo hi : Int) (hl : lo.natAbs ≤ 16) (hh : hi.natAbs ≤ 16) (h1 : lo * 2 ^ 1072 ≤ fval x - fval y) (h2 : fval x - fval y ≤ hi * 2 ^ 1072) :
    ∃ z, (∀ w : World, (binOp .sub 28 (.float .f64 x) (.float .f64 y)).run Tabg.prog w = .ok (.float .f64 z) w) ∧ Fin64 z ∧ lo * 2 ^ 1072 ≤ fval z ∧ fval z ≤ hi * 2 ^ 1072 := by
  have hb : (fval x - fval y).natAbs < 2 ^ 2097 := by
    have a1 : (lo * 2 ^ 1072).natAbs ≤ 16 * 2 ^ 1072 := by rw [Int.natAbs_mul, Int.natAbs_pow]; exact Nat.mul_le_mul_right _ hl
    have a2 : (hi * 2 ^ 1072).natAbs ≤ 16 * 2 ^ 1072 := by rw [Int.natAbs_mul, Int.natAbs_pow]; exact Nat.mul_le_mul_right _ hh
    have a3 : 16 * 2 ^ 1072 < 2 ^ 2097 := by decide +kernel
    have a4 : (fval x - fval y).natAbs ≤ 16 * 2 ^ 1072 := by
      generalize lo * 2 ^ 1072 = L at *
      generalize hi * 2 ^ 1072 = H at *
      generalize 16 * 2 ^ 1072 = C at *
      clear a3
      omega
    exact Nat.lt_of_le_of_lt a4 a3
  obtain ⟨z, e1, e2, e3⟩ := sub_val hx hy hb
  refine ⟨z, fun w => ?_, e2, ?_, ?_⟩
  · rw [run_fop (P := Tabg.prog) (op := .sub) (.inr (.inl rfl)) 28 x y w]
    unfold fopR fopK
    rw [e1]
    rfl
  · rw [e3]; exact le_rnd (rep_quarters lo hl) h1
  · rw [e3]; exact rnd_le (rep_quarters hi hh) h2

theorem conv_run {p : Nat} {n : Int} (hp : Fin64 p) (h : sgnI (fneg p) * (((fval p).natAbs / SU : Nat) : Int) = n) (hn : n.natAbs ≤ 33292800) (w : World) : (convert 28 2 (.float .f64 p)).run Tabg.prog w = .ok (.int .i64 n) w := by
  refine run_convert_float_int w 28 2 .f64 .i64 p n (by kernel_rfl) (by kernel_rfl) ?_
  unfold floatToIntVal
  have : (FloatKind.f64.decode p).toInt .zero = some n := by
    show (Ieee.double.read p).toInt .zero = some n
    rw [toInt_val hp, h]
  rw [this]
  have : IntKind.i64.min ≤ n ∧ n ≤ IntKind.i64.max := by
    constructor
    · show (-9223372036854775808 : Int) ≤ n; omega
    · show n ≤ (9223372036854775807 : Int); omega
  simp only [this, and_self, if_true]

theorem trunc_pos {p c : Nat} (h : (c : Int) * (SU : Int) ≤ fval p) (h2 : fval p < ((c : Int) + 1) * (SU : Int)) : sgnI (fneg p) * (((fval p).natAbs / SU : Nat) : Int) = c := by
  have hS := SU_pos
  have hnn : 0 ≤ fval p := Int.le_trans (Int.mul_nonneg (by omega) (by omega)) h
  have hd : (fval p).natAbs / SU = c := by
    have e : ((fval p).natAbs : Int) = fval p := by omega
    have a1 : c * SU ≤ (fval p).natAbs := by
      have : ((c * SU : Nat) : Int) ≤ ((fval p).natAbs : Int) := by rw [e, Int.natCast_mul]; exact h
      exact Int.ofNat_le.1 this
    have a2 : (fval p).natAbs < (c + 1) * SU := by
      have : ((fval p).natAbs : Int) < (((c + 1) * SU : Nat) : Int) := by rw [e, Int.natCast_mul, Int.natCast_add]; exact h2
      exact Int.ofNat_lt.1 this
    exact Nat.div_eq_of_lt_le (by rw [Nat.mul_comm]; rw [Nat.mul_comm] at a1; exact a1) a2
  rw [hd]
  by_cases hc : c = 0
  · subst hc; simp
  · have hs : fneg p = false := by
      cases hq : fneg p with
      | false => rfl
      | true =>
        exfalso
        unfold fval at h hnn
        rw [hq] at h
        simp at h
        have q1 : 0 ≤ (fman p : Int) * 2 ^ (fexp p + 1074).toNat := Int.mul_nonneg (by omega) (Int.pow_nonneg (by decide))
        have q2 : 0 < (c : Int) * (SU : Int) := Int.mul_pos (by omega) (by omega)
        omega
    rw [hs]; simp [sgnI]
theorem trunc_zero {p : Nat} (h : (fval p).natAbs < SU) : sgnI (fneg p) * (((fval p).natAbs / SU : Nat) : Int) = 0 := by
  rw [Nat.div_eq_of_lt h]; simp

/-- Nearest, where the truncation is the number itself. -/
theorem near_same {p : Nat} {c : Int} {z q : Nat} (C52 : FloatKind.f64.format.order p 4841369599423283200 = some .lt) (Cn52 : FloatKind.f64.format.order p 14064741636278059008 = some .gt)
    (hcv : ∀ w : World, (convert 28 2 (.float .f64 p)).run Tabg.prog w = .ok (.int .i64 c) w) (hfl : floatOfInt .f64 c = q) (hsb : ∀ w : World, (binOp .sub 28 (.float .f64 p) (.float .f64 q)).run Tabg.prog w = .ok (.float .f64 z) w)
    (h1 : FloatKind.f64.format.order z 4602678819172646912 = some .lt) (h2 : FloatKind.f64.format.order z 13826050856027422720 = some .gt) (CQ' : ∀ w, Calls Tabg.prog 170 #[.float .f64 z] w fun e w' => e = .returned (.bool true) ∧ w = w') (w : World) :
    Calls Tabg.prog 171 #[.float .f64 p] w fun e w' => e = .returned (.tuple #[.int .i64 c, .bool true]) ∧ w = w' := by
  have CQ : Hid (∀ w, Calls Tabg.prog 170 #[.float .f64 z] w fun e w' => e = .returned (.bool true) ∧ w = w') := CQ'
  clear CQ'
  go_enter Tabg.func171, Tabg.ntmps171
  go_wp2_with (fail)
  refine (CQ.out _).mono ?_
  rintro e w' ⟨rfl, rfl⟩
  go_wp2_with (fail)
  first | go_ret2 | go_ret
  exact ⟨rfl, rfl⟩

/-- Nearest, where the truncation is one less. -/
theorem near_next {p : Nat} {c t : Int} {z q z' q' : Nat} (ht : t + 1 = c) (hc0 : 0 ≤ t) (hc1 : t ≤ 33292800) (C52 : FloatKind.f64.format.order p 4841369599423283200 = some .lt) (Cn52 : FloatKind.f64.format.order p 14064741636278059008 = some .gt)
    (hcv : ∀ w : World, (convert 28 2 (.float .f64 p)).run Tabg.prog w = .ok (.int .i64 t) w) (hfl : floatOfInt .f64 t = q) (hsb : ∀ w : World, (binOp .sub 28 (.float .f64 p) (.float .f64 q)).run Tabg.prog w = .ok (.float .f64 z) w)
    (h1 : FloatKind.f64.format.order z 4602678819172646912 = some .gt) (h2 : FloatKind.f64.format.order z 13826050856027422720 = some .gt)
    (hfl' : floatOfInt .f64 c = q') (hsb' : ∀ w : World, (binOp .sub 28 (.float .f64 p) (.float .f64 q')).run Tabg.prog w = .ok (.float .f64 z') w)
    (CQ' : ∀ w, Calls Tabg.prog 170 #[.float .f64 z'] w fun e w' => e = .returned (.bool true) ∧ w = w') (w : World) :
    Calls Tabg.prog 171 #[.float .f64 p] w fun e w' => e = .returned (.tuple #[.int .i64 c, .bool true]) ∧ w = w' := by
  have CQ : Hid (∀ w, Calls Tabg.prog 170 #[.float .f64 z'] w fun e w' => e = .returned (.bool true) ∧ w = w') := CQ'
  clear CQ'
  go_enter Tabg.func171, Tabg.ntmps171
  go_wp2_with (fail)
  refine (CQ.out _).mono ?_
  rintro e w' ⟨rfl, rfl⟩
  go_wp2_with (fail)
  first | go_ret2 | go_ret
  exact ⟨rfl, rfl⟩

/-- Nearest of a double within a quarter of the whole number c. -/
theorem nearest_yes (p c : Nat) (hp : Fin64 p) (hc : c ≤ 33292800) (h : 4 * (fval p - (c : Int) * (SU : Int)).natAbs ≤ SU) (w : World) :
    Calls Tabg.prog 171 #[.float .f64 p] w fun e w' => e = .returned (.tuple #[.int .i64 (c : Int), .bool true]) ∧ w = w' := by
  have hS := SU_pos
  have h4 := SU4
  have hcS : (c : Int) * (SU : Int) ≤ 33292800 * (SU : Int) := Int.mul_le_mul_of_nonneg_right (by omega) (by omega)
  have hcS0 : 0 ≤ (c : Int) * (SU : Int) := Int.mul_nonneg (by omega) (by omega)
  have o1 := lt_ord hp c_52.1 (by rw [c_52.2]; omega)
  have o2 := gt_ord hp c_n52.1 (by rw [c_n52.2]; omega)
  obtain ⟨f1, f2⟩ := int_fv (c : Int) (by omega)
  have b1 : (-1) * 2 ^ 1072 ≤ fval p - fval (floatOfInt .f64 (c : Int)) := by rw [f2]; omega
  have b2 : fval p - fval (floatOfInt .f64 (c : Int)) ≤ 1 * 2 ^ 1072 := by rw [f2]; omega
  obtain ⟨z, e1, e2, e3, e4⟩ := sub_between hp f1 (-1) 1 (by decide) (by decide) b1 b2
  have CQ := quarter_yes z e2 (by omega)
  have same : sgnI (fneg p) * (((fval p).natAbs / SU : Nat) : Int) = (c : Int) → Calls Tabg.prog 171 #[.float .f64 p] w fun e w' => e = .returned (.tuple #[.int .i64 (c : Int), .bool true]) ∧ w = w' := fun ht =>
    near_same o1 o2 (conv_run hp ht (by omega)) rfl e1 (lt_ord e2 c_h.1 (by have := c_h.2; omega)) (gt_ord e2 c_nh.1 (by have := c_nh.2; omega)) CQ w
  by_cases hd : 0 ≤ fval p - (c : Int) * (SU : Int)
  · exact same (trunc_pos (by omega) (by rw [Int.add_mul, Int.one_mul]; omega))
  · by_cases h0 : c = 0
    · subst h0
      exact same (trunc_zero (by omega))
    · obtain ⟨t, rfl⟩ : ∃ t, c = t + 1 := ⟨c - 1, by omega⟩
      have e5 : ((t + 1 : Nat) : Int) * (SU : Int) = (t : Int) * (SU : Int) + (SU : Int) := by rw [Int.natCast_add, Int.add_mul]; simp
      obtain ⟨g1, g2⟩ := int_fv (t : Int) (by omega)
      have b3 : 3 * 2 ^ 1072 ≤ fval p - fval (floatOfInt .f64 (t : Int)) := by rw [g2]; omega
      have b4 : fval p - fval (floatOfInt .f64 (t : Int)) ≤ 4 * 2 ^ 1072 := by rw [g2]; omega
      obtain ⟨y, y1, y2, y3, y4⟩ := sub_between hp g1 3 4 (by decide) (by decide) b3 b4
      have ht : sgnI (fneg p) * (((fval p).natAbs / SU : Nat) : Int) = (t : Int) := trunc_pos (by omega) (by rw [Int.add_mul, Int.one_mul]; omega)
      exact near_next (t := (t : Int)) (by omega) (by omega) (by omega) o1 o2 (conv_run hp ht (by omega)) rfl y1 (gt_ord y2 c_h.1 (by have := c_h.2; omega)) (gt_ord y2 c_nh.1 (by have := c_nh.2; omega)) rfl e1 CQ w
end Go.Proofs.Ygctab
