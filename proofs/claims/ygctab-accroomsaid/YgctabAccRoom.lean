import Derived.Test.YgctabAddStays
namespace Go.Proofs.Ygctab
open Go.RowKit
set_option linter.unusedVariables false
set_option linter.unusedSimpArgs false
set_option exponentiation.threshold 6000

set_option maxRecDepth 100000 in
set_option maxHeartbeats 1600000 in
theorem accRoom_out (xs : List Int) (n x y : Nat) (h : Row xs) (hn : n < 4294967296) (hx : x < 18446744073709551616) (hy : y < 18446744073709551616) (w : World)
    (ho : n = 4294967295 ∨ 1 < fcls x ∨ 1 < fcls y ∨ inB n (sv (num xs)) = false) :
    Calls Tabg.prog 7 #[accV xs, .int .u32 n, .int .u64 x, .int .u64 y] w fun e w' => e = .returned (.bool true) ∧ Up w w' := by
  have hA : Hid (AccAt (w.alloc (.cells (ints .u64 xs).toArray 40)) w.heap.size xs) := AccAt.box w h
  have hu : Hid (Up w (w.alloc (.cells (ints .u64 xs).toArray 40))) := (Up.refl w).alloc _
  have cX := f64_any x
  have cY := f64_any y
  have fX := finite_any x hx
  have fY := finite_any y hy
  have FX : Hid (∀ w, Calls Tabg.prog 25 #[.float .f64 x] w fun e w' => e = .returned (.bool (decide (fcls x ≤ 1))) ∧ w = w') := fX
  have FY : Hid (∀ w, Calls Tabg.prog 25 #[.float .f64 y] w fun e w' => e = .returned (.bool (decide (fcls y ≤ 1))) ∧ w = w') := fY
  have CX : Hid (∀ w, Calls Tabg.prog 14 #[.int .u64 x] w fun e w' => e = .returned (.float .f64 x) ∧ w = w') := cX
  have CY : Hid (∀ w, Calls Tabg.prog 14 #[.int .u64 y] w fun e w' => e = .returned (.float .f64 y) ∧ w = w') := cY
  clear cX cY fX fY h hx hy
  unfold accV
  go_enter Tabg.func7, Tabg.ntmps7
  go_wp2_with (fail)
  refine (accWithin_any w.heap.size n hn xs _ hA.out).mono ?_
  rintro e w1 ⟨rfl, hu1⟩
  have HA1 : Hid (AccAt w1 w.heap.size xs) := AccAt.up hA.out hu1
  have HU1 : Hid (Up w w1) := hu.out.trans hu1
  clear hA hu hu1
  go_wp2_with (fail)
  refine (within_any w.heap.size n hn xs _ HA1.out).mono ?_
  rintro e w2 ⟨rfl, hu2⟩
  have C3 : Hid (Calls Tabg.prog 24 #[.pointer (some ⟨w.heap.size, 0, none⟩), .int .u32 n] w2 fun e w' => e = .returned (.bool (inB n (sv (num xs)))) ∧ Up w2 w') := within_any w.heap.size n hn xs _ (AccAt.up HA1.out hu2)
  have HU2 : Hid (Up w w2) := HU1.out.trans hu2
  clear hu2 HA1 HU1
  have HO : Hid (n = 4294967295 ∨ 1 < fcls x ∨ 1 < fcls y ∨ inB n (sv (num xs)) = false) := ho
  clear ho
  generalize inB n (sv (num xs)) = g at *
  have hgg : (g != g) = false := by simp
  go_wp2_with (fail)
  refine (CX.out _).mono ?_
  rintro e w' ⟨rfl, rfl⟩
  go_wp2_with (fail)
  refine (CY.out _).mono ?_
  rintro e w' ⟨rfl, rfl⟩
  clear CX CY
  by_cases h1 : n = 4294967295
  · have h1' : (n : Int) = 4294967295 := by omega
    go_wp2_with (fail)
    go_ret
    exact ⟨rfl, HU2.out⟩
  · have h1' : ((n : Int) == 4294967295) = false := by simp; omega
    by_cases h2 : fcls x ≤ 1
    · have FX' := FX.out
      rw [decide_eq_true h2] at FX'
      have FX2 : Hid (∀ w, Calls Tabg.prog 25 #[.float .f64 x] w fun e w' => e = .returned (.bool true) ∧ w = w') := FX'
      clear FX FX'
      by_cases h3 : fcls y ≤ 1
      · have FY' := FY.out
        rw [decide_eq_true h3] at FY'
        have FY2 : Hid (∀ w, Calls Tabg.prog 25 #[.float .f64 y] w fun e w' => e = .returned (.bool true) ∧ w = w') := FY'
        clear FY FY'
        obtain rfl : g = false := by
          have := HO.out
          rcases this with h | h | h | h
          · exact absurd h h1
          · omega
          · omega
          · exact h
        clear HO h2 h3
        go_wp2_with (fail)
        refine (FX2.out _).mono ?_
        rintro e w' ⟨rfl, rfl⟩
        go_wp2_with (fail)
        refine (FY2.out _).mono ?_
        rintro e w' ⟨rfl, rfl⟩
        go_wp2_with (fail)
        refine Calls.mono C3.out ?_
        rintro e w3 ⟨rfl, hu3⟩
        have HU3 : Hid (Up w w3) := HU2.out.trans hu3
        clear hu3 C3 FX2 FY2 HU2
        go_wp2
        go_ret
        exact ⟨rfl, HU3.out⟩
      · have FY' := FY.out
        rw [decide_eq_false h3] at FY'
        have FY2 : Hid (∀ w, Calls Tabg.prog 25 #[.float .f64 y] w fun e w' => e = .returned (.bool false) ∧ w = w') := FY'
        clear FY FY' HO h2 h3 C3
        go_wp2_with (fail)
        refine (FX2.out _).mono ?_
        rintro e w' ⟨rfl, rfl⟩
        go_wp2_with (fail)
        refine (FY2.out _).mono ?_
        rintro e w' ⟨rfl, rfl⟩
        clear FX2 FY2
        go_wp2
        go_ret
        exact ⟨rfl, HU2.out⟩
    · have FX' := FX.out
      rw [decide_eq_false h2] at FX'
      have FX2 : Hid (∀ w, Calls Tabg.prog 25 #[.float .f64 x] w fun e w' => e = .returned (.bool false) ∧ w = w') := FX'
      clear FX FX' HO h2 FY C3
      go_wp2_with (fail)
      refine (FX2.out _).mono ?_
      rintro e w' ⟨rfl, rfl⟩
      clear FX2
      go_wp2
      go_ret
      exact ⟨rfl, HU2.out⟩

/-- The main case up to the checks: the values. -/
theorem inB_small {v : Int} (h : v.natAbs ≤ 2 ^ 4196) : inB 1 v = true := by
  rw [inB_iff]
  have e : ((1 : Nat) : Int) * 2 ^ 4196 = ((2 ^ 4196 : Nat) : Int) := by
    rw [Int.natCast_pow]
    simp only [Int.natCast_one, Int.one_mul]
    rfl
  rw [e]
  generalize (2 : Nat) ^ 4196 = A at *
  omega
theorem prod_small (x y : Nat) : (fval x * fval y).natAbs ≤ 2 ^ 4196 := by
  rw [Int.natAbs_mul]
  refine Nat.le_trans (Nat.mul_le_mul (Nat.le_of_lt (fval_lt x)) (Nat.le_of_lt (fval_lt y))) ?_
  rw [← Nat.pow_add]
  exact Nat.le_refl _
theorem float_small (x : Nat) : (fval x * 2 ^ 1074).natAbs ≤ 2 ^ 4196 := by
  rw [Int.natAbs_mul]
  have e : ((2 : Int) ^ 1074).natAbs = 2 ^ 1074 := by rw [Int.natAbs_pow]; rfl
  rw [e]
  refine Nat.le_trans (Nat.mul_le_mul_right _ (Nat.le_of_lt (fval_lt x))) ?_
  rw [← Nat.pow_add]
  exact Nat.pow_le_pow_right (by decide) (by decide)
theorem sv_in {n : Nat} (hn : n < 4294967296) {v : Int} (h : inB n v = true) : sv (v % W ^ 68) = v := by
  rw [inB_iff] at h
  have := room_half hn
  exact sv_mod (by omega) (by omega)
theorem inB_neg {n : Nat} {v : Int} (h : inB n v = true) : inB n (-v) = true := by
  rw [inB_iff] at *; omega
theorem inB_abs {n : Nat} {v : Int} (h : inB n v = true) : inB n (v.natAbs : Int) = true := by
  rw [inB_iff] at *; omega
theorem inB_room {n : Nat} (hn : n < 4294967296) : inB n ((n : Int) * 2 ^ 4196) = true := by
  rw [inB_iff]
  have := room_half hn
  omega
end Go.Proofs.Ygctab
