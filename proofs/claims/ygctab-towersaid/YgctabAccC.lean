import Derived.Test.YgctabAccB
namespace Go.Proofs.Ygctab
open Go.RowKit
set_option linter.unusedVariables false

theorem frombits (p : Nat) (w : World) : (callFunc 80 #[.int .u64 p]).run Tabg.prog w = .ok (.value (.float .f64 p)) w := by
  rw [run_callFunc_extern Tabg.func80 (by kernel_rfl) (by kernel_rfl) (by kernel_rfl) (e := Extern.MathFloatBits.float64frombits) (by kernel_rfl)]
  rfl
theorem tobits (p : Nat) (w : World) : (callFunc 102 #[.float .f64 p]).run Tabg.prog w = .ok (.value (.int .u64 p)) w := by
  rw [run_callFunc_extern Tabg.func102 (by kernel_rfl) (by kernel_rfl) (by kernel_rfl) (e := Extern.MathFloatBits.float64bits) (by kernel_rfl)]
  rfl

theorem f64_any (p : Nat) (w : World) : Calls Tabg.prog 14 #[.int .u64 p] w fun e w' => e = .returned (.float .f64 p) ∧ w = w' := by
  go_enter Tabg.func14, Tabg.ntmps14
  go_wp2_with (simp only [frombits])
  go_ret
  exact ⟨rfl, rfl⟩
theorem b64_any (p : Nat) (w : World) : Calls Tabg.prog 44 #[.float .f64 p] w fun e w' => e = .returned (.int .u64 p) ∧ w = w' := by
  go_enter Tabg.func44, Tabg.ntmps44
  go_wp2_with (simp only [tobits])
  go_ret
  exact ⟨rfl, rfl⟩
theorem bits64_any (p : Nat) (w : World) : Calls Tabg.prog 140 #[.float .f64 p] w fun e w' => e = .returned (.int .u64 p) ∧ w = w' := by
  go_enter Tabg.func140, Tabg.ntmps140
  go_wp2_with (simp only [tobits])
  go_ret
  exact ⟨rfl, rfl⟩

/-! ### Split64 -/
def fld (p : Nat) : Nat := p / 4503599627370496 % 2048
def frc (p : Nat) : Nat := p % 4503599627370496
/-- The sign, the mantissa, the exponent, the class. -/
def splitF (p : Nat) : Bool × Nat × Int × Nat :=
  if fld p = 2047 then (if frc p = 0 then (decide (9223372036854775808 ≤ p), 0, 0, 2) else (false, 0, 0, 3))
  else if fld p = 0 then (if frc p = 0 then (decide (9223372036854775808 ≤ p), 0, 0, 0) else (decide (9223372036854775808 ≤ p), frc p, -1074, 1))
  else (decide (9223372036854775808 ≤ p), frc p + 4503599627370496, (fld p : Int) - 1075, 1)

set_option maxRecDepth 100000 in
set_option maxHeartbeats 800000 in
theorem split64_any (p : Nat) (hp : p < 18446744073709551616) (w : World) : Calls Tabg.prog 90 #[.float .f64 p] w fun e w' =>
    e = .returned (.tuple #[.bool (splitF p).1, .int .u64 (splitF p).2.1, .int .i16 (splitF p).2.2.1, .int .u8 (splitF p).2.2.2]) ∧ w = w' := by
  have hb := bits64_any p
  have b1 : bits .and .u64 ((p : Int) / 4503599627370496) 2047 = (fld p : Int) := by
    have := u64_and_nat (p / 4503599627370496) 2047 (by omega) (by decide)
    rw [nat_mask11] at this
    unfold fld
    rw [← this]; congr 1
  have b2 : bits .and .u64 (p : Int) 4503599627370495 = (frc p : Int) := by
    have := u64_and_nat p 4503599627370495 hp (by decide)
    rw [show p &&& 4503599627370495 = p % 4503599627370496 from Nat.and_two_pow_sub_one_eq_mod p 52] at this
    unfold frc
    rw [← this]; rfl
  have hf : fld p < 2048 := by unfold fld; omega
  have hr : frc p < 4503599627370496 := by unfold frc; omega
  have b3 : bits .or .u64 (frc p : Int) 4503599627370496 = ((frc p + 4503599627370496 : Nat) : Int) := by
    have := u64_or_nat (frc p) 4503599627370496 (by omega) (by decide)
    rw [Nat.or_comm, nat_join 52 4503599627370496 (frc p) (by decide) hr, Nat.add_comm] at this
    rw [← this]; rfl
  obtain ⟨sg, hsg⟩ : ∃ sg : Bool, sg = decide (9223372036854775808 ≤ p) := ⟨_, rfl⟩
  have h63 : (p : Int) / 9223372036854775808 = (if sg then 1 else 0) := by
    subst hsg
    by_cases hs : 9223372036854775808 ≤ p
    · rw [decide_eq_true hs]; simp; omega
    · rw [decide_eq_false hs]; simp; omega
  unfold splitF
  rw [← hsg]
  clear hsg
  generalize fld p = f at *
  generalize frc p = r at *
  have hfi : (f : Int) < 2048 := by omega
  have hf0 : (0 : Int) ≤ (f : Int) := by omega
  cases sg
  all_goals
    simp only [if_true, if_false, Bool.false_eq_true] at h63
    by_cases h1 : f = 2047
    · subst h1
      by_cases h2 : r = 0
      · subst h2
        go_enter Tabg.func90, Tabg.ntmps90
        go_wp2_with (go_at_call 140; refine (hb _).mono ?_; rintro e w' ⟨rfl, rfl⟩)
        refine bodyPost_ret (v := _) (by simp [results, Tabg.results90, go_sem]; rfl) rfl ⟨?_, rfl⟩
        rfl
      · have h2' : (((r : Int)) == 0) = false := by simp; omega
        go_enter Tabg.func90, Tabg.ntmps90
        go_wp2_with (go_at_call 140; refine (hb _).mono ?_; rintro e w' ⟨rfl, rfl⟩)
        refine bodyPost_ret (v := _) (by simp [results, Tabg.results90, go_sem]; rfl) rfl ⟨?_, rfl⟩
        simp
    · have h1' : (((f : Int)) == 2047) = false := by simp; omega
      by_cases h0 : f = 0
      · subst h0
        by_cases h2 : r = 0
        · subst h2
          go_enter Tabg.func90, Tabg.ntmps90
          go_wp2_with (go_at_call 140; refine (hb _).mono ?_; rintro e w' ⟨rfl, rfl⟩)
          refine bodyPost_ret (v := _) (by simp [results, Tabg.results90, go_sem]; rfl) rfl ⟨?_, rfl⟩
          rfl
        · have h2' : (((r : Int)) == 0) = false := by simp; omega
          go_enter Tabg.func90, Tabg.ntmps90
          go_wp2_with (go_at_call 140; refine (hb _).mono ?_; rintro e w' ⟨rfl, rfl⟩)
          refine bodyPost_ret (v := _) (by simp [results, Tabg.results90, go_sem]; rfl) rfl ⟨?_, rfl⟩
          simp
      · have h0' : (((f : Int)) == 0) = false := by simp; omega
        go_enter Tabg.func90, Tabg.ntmps90
        go_wp2_with (go_at_call 140; refine (hb _).mono ?_; rintro e w' ⟨rfl, rfl⟩)
        refine bodyPost_ret (v := _) (by simp [results, Tabg.results90, go_sem]; rfl) rfl ⟨?_, rfl⟩
        simp
end Go.Proofs.Ygctab
