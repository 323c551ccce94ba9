import Derived.Test.YgctabDoorGrowB
namespace Go.Proofs.YgctabDoor
open Go.RowKit
set_option linter.unusedVariables false
set_option linter.unusedSimpArgs false
set_option exponentiation.threshold 3000

set_option maxRecDepth 100000 in
set_option maxHeartbeats 800000 in
theorem check_far (a : Option Addr) (n c N : Nat) (ps : List Nat) (w : World) (h : RdU w a n c ps) (hN : N < 65536) (hF : F64s ps) (hx : 1024 < N) :
    Calls Tabg.prog 4 #[.agg #[.slice a n c, .int .u16 N]] w fun e w' => e = .returned (.bool false) ∧ Up w w' := by
  go_enter Tabg.func4, Tabg.ntmps4
  go_wp2
  go_ret
  exact ⟨rfl, (Up.refl w).alloc _⟩

set_option maxRecDepth 100000 in
set_option maxHeartbeats 800000 in
theorem check_long (a : Option Addr) (n c N : Nat) (ps : List Nat) (w : World) (h : RdU w a n c ps) (hN : N ≤ 1024) (hF : F64s ps) (hx : 2098 < n) :
    Calls Tabg.prog 4 #[.agg #[.slice a n c, .int .u16 N]] w fun e w' => e = .returned (.bool false) ∧ Up w w' := by
  have hNI : (N : Int) ≤ 1024 := by omega
  have hxI : (2098 : Int) < n := by omega
  go_enter Tabg.func4, Tabg.ntmps4
  go_wp2
  go_ret
  exact ⟨rfl, (Up.refl w).alloc _⟩

set_option maxRecDepth 100000 in
set_option maxHeartbeats 800000 in
theorem check_apart (a : Option Addr) (n c N : Nat) (ps : List Nat) (w : World) (h : RdU w a n c ps) (hN : N ≤ 1024) (hF : F64s ps) (hx : n ≤ 2098) (ha : apartL (-5000) ps = false) :
    Calls Tabg.prog 4 #[.agg #[.slice a n c, .int .u16 N]] w fun e w' => e = .returned (.bool false) ∧ Up w w' := by
  have hNI : (N : Int) ≤ 1024 := by omega
  have hxI : (n : Int) ≤ 2098 := by omega
  have cP := fun w' (u : Up w w') => patterns0 a n c ps w' (h.up u) (by have := h.1; omega)
  go_enter Tabg.func4, Tabg.ntmps4
  go_wp2_with (first | (go_at_call 5; refine (cP _ ((Up.refl w).alloc _)).mono ?_; rintro e w' ⟨a', c', rfl, hrd, hu⟩) | (go_at_call 11; refine (apart_any a' n c' ps _ hrd (by unfold maxLen; omega) hF).mono ?_; rintro e w' ⟨rfl, rfl⟩))
  go_ret
  exact ⟨rfl, ((Up.refl w).alloc _).trans hu⟩
end Go.Proofs.YgctabDoor
