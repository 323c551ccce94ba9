import Derived.Test.YgctabCheckC
namespace Go.Proofs.Ygctab
open Go.RowKit
set_option linter.unusedVariables false
set_option linter.unusedSimpArgs false
set_option exponentiation.threshold 6000

def growableB (N : Nat) (ps : List Nat) (x : Nat) : Bool := chkB N ps && (decide (N < 1024) && atMostB x 1000)

set_option maxRecDepth 100000 in
set_option maxHeartbeats 800000 in
theorem growable_any (a : Option Addr) (n c N x : Nat) (ps : List Nat) (w : World) (h : RdU w a n c ps) (hN : N < 65536) (hF : F64s ps) (hx : x < 18446744073709551616) :
    Calls Tabg.prog 37 #[.agg #[.slice a n c, .int .u16 N], .int .u64 x] w fun e w' => e = .returned (.bool (growableB N ps x)) ∧ Up w w' := by
  have cC := fun w' (u : Up w w') => check_any a n c N ps w' (h.up u) hN hF
  have cF := f64_any x
  have cM := atMost_any x hx 1000 (by omega) (by omega)
  have hNI : (N : Int) < 65536 := by omega
  have hN0 : (0 : Int) ≤ N := by omega
  unfold growableB
  have hBx := Own.new w 60 #[Value.slice a n c, Value.int IntKind.u16 N]
  generalize chkB N ps = ck at *
  generalize atMostB x 1000 = am at *
  cases ck
  · go_enter Tabg.func37, Tabg.ntmps37
    go_wp2_with (first | (go_at_call 41; refine (cC _ ((Up.refl w).alloc _)).mono ?_; rintro e w1 ⟨rfl, hu⟩) | (go_at_call 14; refine (cF _).mono ?_; rintro e w' ⟨rfl, rfl⟩) | (go_at_call 92; refine (cM _).mono ?_; rintro e w' ⟨rfl, rfl⟩))
    go_ret
    exact ⟨rfl, ((Up.refl w).alloc _).trans hu⟩
  · by_cases h1 : N < 1024
    · have h1I : (N : Int) < 1024 := by omega
      go_enter Tabg.func37, Tabg.ntmps37
      go_wp2_with (first | (go_at_call 41; refine (cC _ ((Up.refl w).alloc _)).mono ?_; rintro e w1 ⟨rfl, hu⟩; have cb1 := (hBx.up hu).cell 1) | (go_at_call 14; refine (cF _).mono ?_; rintro e w' ⟨rfl, rfl⟩) | (go_at_call 92; refine (cM _).mono ?_; rintro e w' ⟨rfl, rfl⟩))
      go_ret
      refine ⟨ret_bool ?_, ((Up.refl w).alloc _).trans hu⟩
      simp [h1]
    · have h1I : decide ((N : Int) < 1024) = false := decide_eq_false (by omega)
      go_enter Tabg.func37, Tabg.ntmps37
      go_wp2_with (first | (go_at_call 41; refine (cC _ ((Up.refl w).alloc _)).mono ?_; rintro e w1 ⟨rfl, hu⟩; have cb1 := (hBx.up hu).cell 1) | (go_at_call 14; refine (cF _).mono ?_; rintro e w' ⟨rfl, rfl⟩) | (go_at_call 92; refine (cM _).mono ?_; rintro e w' ⟨rfl, rfl⟩))
      go_ret
      refine ⟨ret_bool ?_, ((Up.refl w).alloc _).trans hu⟩
      simp [h1]
end Go.Proofs.Ygctab
