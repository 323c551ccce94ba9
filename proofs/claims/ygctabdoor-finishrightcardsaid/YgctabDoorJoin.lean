import Derived.Test.YgctabDoorTz
import Derived.Test.YgctabDoorFltC
namespace Go.Proofs.YgctabDoor
open Go.RowKit
set_option linter.unusedVariables false
set_option linter.unusedSimpArgs false
set_option exponentiation.threshold 6000

theorem bitLen_log {x : Nat} (h0 : x ≠ 0) (hx : x < 18446744073709551616) : Lib.bitLen x = x.log2 + 1 := by
  obtain ⟨h1, h2, h3⟩ := Lib.bitLenAux_bounds 64 x (by omega) h0
  have e : Lib.bitLen x = Lib.bitLenAux 64 x := rfl
  rw [e]
  have h4 : x.log2 = Lib.bitLenAux 64 x - 1 := (Nat.log2_eq_iff h0).2 ⟨h2, by rw [Nat.sub_add_cancel h1]; exact h3⟩
  omega

set_option maxRecDepth 100000 in
theorem len43 (x : Nat) (h0 : x ≠ 0) (hx : x < 18446744073709551616) (w : World) : Calls Tabg.prog 43 #[.int .u64 x] w fun e w' => e = .returned (.int .i64 ((x.log2 + 1 : Nat) : Int)) ∧ w = w' := by
  have c := Tabg.bits_Len64 (x : Int) w (by omega) (by omega)
  rw [Int.toNat_natCast, bitLen_log h0 hx] at c
  generalize x.log2 + 1 = l at *
  go_enter Tabg.func43, Tabg.ntmps43
  go_wp2_with (go_at_call 41; refine c.mono ?_; rintro e w' ⟨rfl, rfl⟩)
  go_ret
  exact ⟨rfl, rfl⟩
set_option maxRecDepth 100000 in
theorem len34 (x : Nat) (h0 : x ≠ 0) (hx : x < 18446744073709551616) (w : World) : Calls Tabg.prog 34 #[.int .u64 x] w fun e w' => e = .returned (.int .i64 ((x.log2 + 1 : Nat) : Int)) ∧ w = w' := by
  have c := Tabg.bits_Len64 (x : Int) w (by omega) (by omega)
  rw [Int.toNat_natCast, bitLen_log h0 hx] at c
  generalize x.log2 + 1 = l at *
  go_enter Tabg.func34, Tabg.ntmps34
  go_wp2_with (go_at_call 41; refine c.mono ?_; rintro e w' ⟨rfl, rfl⟩)
  go_ret
  exact ⟨rfl, rfl⟩
set_option maxRecDepth 100000 in
theorem zeros_any (x z k : Nat) (hx : x < 18446744073709551616) (he : x = 2 ^ z * (2 * k + 1)) (w : World) (hT : TabG w) : Calls Tabg.prog 42 #[.int .u64 x] w fun e w' => e = .returned (.int .i64 z) ∧ w = w' := by
  have c := tz_any x z k hx he w hT
  clear he
  go_enter Tabg.func42, Tabg.ntmps42
  go_wp2_with (go_at_call 45; refine c.mono ?_; rintro e w' ⟨rfl, rfl⟩)
  go_ret
  exact ⟨rfl, rfl⟩

set_option maxRecDepth 100000 in
set_option maxHeartbeats 1600000 in
/-- join, the small ones: no field. -/
theorem join_low (man z k L wd t v : Nat) (e : Int) (w : World) (hT : TabG w) (hman : man < 18446744073709551616) (he : man = 2 ^ z * (2 * k + 1)) (hL : man.log2 + 1 = L) (hL64 : L ≤ 64) (hw : L = z + wd) (hw53 : wd ≤ 53) (h1 : -1074 ≤ e) (h2 : e + L + 1022 ≤ 0)
    (ht : e + z + 1074 = (t : Int)) (hv : (2 * k + 1) * 2 ^ t = v) (hv2 : v < 4503599627370496) :
    Calls Tabg.prog 35 #[.int .u64 man, .int .i64 e, .int .i64 53, .int .i64 (-1074), .int .i64 1024] w fun r w' => r = .returned (.tuple #[.int .u64 v, .bool true]) ∧ w = w' := by
  have h0 : man ≠ 0 := by rw [he]; exact Nat.mul_ne_zero (Nat.ne_of_gt (two_pos z)) (by omega)
  have cz := zeros_any man z k hman he w hT
  have cl := len43 man h0 hman w
  rw [hL] at cl
  have hne : ((man : Int) == 0) = false := by rw [beq_eq_false_iff_ne]; omega
  have d1 : (man : Int) / 2 ^ z = ((2 * k + 1 : Nat) : Int) := by
    rw [he, show (2 : Int) ^ z = ((2 ^ z : Nat) : Int) by simp, ← Int.natCast_ediv, Nat.mul_div_cancel_left _ (two_pos z)]
  have a1 : IntKind.i64.wrap ((L : Int) - (z : Int)) = (wd : Int) := by rw [IntKind.wrap_i64]; omega
  obtain ⟨lo, hlo⟩ : ∃ lo : Int, lo = e + z := ⟨_, rfl⟩
  have a2 : IntKind.i64.wrap (e + (z : Int)) = lo := by rw [IntKind.wrap_i64]; omega
  obtain ⟨s, hs⟩ : ∃ s : Int, s = e + L := ⟨_, rfl⟩
  have a3 : IntKind.i64.wrap (lo + (wd : Int)) = s := by rw [IntKind.wrap_i64]; omega
  have a4 : IntKind.i64.wrap (s - 53) = s - 53 := by rw [IntKind.wrap_i64]; omega
  have a5 : IntKind.i64.wrap (s - 53 - -1074) = s + 1021 := by rw [IntKind.wrap_i64]; omega
  have a6 : IntKind.i64.wrap (s + 1021 + 1) = s + 1022 := by rw [IntKind.wrap_i64]; omega
  have a7 : IntKind.i64.wrap (lo - -1074) = (t : Int) := by rw [IntKind.wrap_i64]; omega
  have a5' : IntKind.i64.wrap (s - 53 + 1074) = s + 1021 := by rw [IntKind.wrap_i64]; omega
  have a7' : IntKind.i64.wrap (lo + 1074) = (t : Int) := by rw [IntKind.wrap_i64]; omega
  have n1 : ¬ (53 : Int) < (wd : Int) := by omega
  have n2 : ¬ lo < -1074 := by omega
  have n3 : ¬ (1024 : Int) < s := by omega
  have n4 : s + 1022 ≤ 0 := by omega
  have t0 : (0 : Int) ≤ (t : Int) := by omega
  have t64 : (t : Int) ≤ 64 := by omega
  have z0 : (0 : Int) ≤ (z : Int) := by omega
  have z64 : (z : Int) ≤ 64 := by omega
  have b1 : IntKind.u64.wrap (((2 * k + 1 : Nat) : Int) * 2 ^ t) = (v : Int) := by
    rw [IntKind.wrap_u64, show (2 : Int) ^ t = ((2 ^ t : Nat) : Int) by simp, ← Int.natCast_mul, hv]
    omega
  clear hv hv2 h2 ht hw hw53 h1 hL hL64 he h0 hman hlo hs
  generalize 2 * k + 1 = m at *
  go_enter Tabg.func35, Tabg.ntmps35
  go_wp2_with (first | (go_at_call 42; refine cz.mono ?_; rintro e w' ⟨rfl, rfl⟩) | (go_at_call 43; refine cl.mono ?_; rintro e w' ⟨rfl, rfl⟩))
  go_ret2
  exact ⟨rfl, rfl⟩

theorem andNot_top {M : Nat} (h1 : 4503599627370496 ≤ M) (h2 : M < 9007199254740992) : bits .andNot .u64 (M : Int) 4503599627370496 = ((M - 4503599627370496 : Nat) : Int) := by
  have := u64_andNot_nat M 4503599627370496 (by omega) (by decide)
  rw [show (4503599627370496 : Int) = ((4503599627370496 : Nat) : Int) from rfl, this]
  refine congrArg (fun n : Nat => (n : Int)) ?_
  obtain ⟨c, hc⟩ : ∃ c, M = 2 ^ 52 + c := ⟨M - 4503599627370496, by omega⟩
  have hc2 : c < 2 ^ 52 := by omega
  have e : M - 4503599627370496 = c := by omega
  rw [e]
  apply Nat.eq_of_testBit_eq
  intro i
  have e2 : (18446744073709551615 - 4503599627370496 : Nat) = 2 ^ 64 - (2 ^ 52 + 1) := by decide
  rw [Nat.testBit_and, e2, Nat.testBit_two_pow_sub_succ (by decide), Nat.testBit_two_pow, hc]
  have hm : (2 ^ 52 + c).testBit i = if i < 52 then c.testBit i else (1 : Nat).testBit (i - 52) := by
    have := Nat.testBit_two_pow_mul_add 1 hc2 i
    rwa [Nat.mul_one] at this
  rw [hm]
  by_cases hi : i < 52
  · rw [if_pos hi]
    have h3 : (52 : Nat) ≠ i := by omega
    have h4 : i < 64 := by omega
    simp [h3, h4]
  · rw [if_neg hi, Nat.testBit_lt_two_pow (Nat.lt_of_lt_of_le hc2 (Nat.pow_le_pow_right (by decide) (by omega)))]
    by_cases h5 : i = 52
    · subst h5; decide
    · obtain ⟨j, hj⟩ : ∃ j, i - 52 = j + 1 := ⟨i - 53, by omega⟩
      rw [hj, Nat.testBit_succ]
      simp
theorem or_field {f c : Nat} (hf : f < 2048) (hc : c < 4503599627370496) : bits .or .u64 ((f * 4503599627370496 : Nat) : Int) (c : Int) = ((f * 4503599627370496 + c : Nat) : Int) := by
  rw [u64_or_nat _ _ (by omega) (by omega)]
  have := Nat.two_pow_add_eq_or_of_lt (i := 52) (b := c) (by omega) f
  rw [Nat.mul_comm f, show (4503599627370496 : Nat) = 2 ^ 52 by decide, this]

set_option maxRecDepth 100000 in
set_option maxHeartbeats 1600000 in
/-- join, the others. -/
theorem join_high (man z k L wd f M : Nat) (e : Int) (w : World) (hT : TabG w) (hman : man < 18446744073709551616) (he : man = 2 ^ z * (2 * k + 1)) (hL : man.log2 + 1 = L) (hL64 : L ≤ 64) (hw : L = z + wd) (hw53 : wd ≤ 53) (h1 : -1074 ≤ e) (h2 : e + L ≤ 1024) (hf : e + L + 1022 = (f : Int)) (hf0 : 0 < f)
    (hM : (2 * k + 1) * 2 ^ (53 - wd) = M) (hM1 : 4503599627370496 ≤ M) (hM2 : M < 9007199254740992) :
    Calls Tabg.prog 35 #[.int .u64 man, .int .i64 e, .int .i64 53, .int .i64 (-1074), .int .i64 1024] w fun r w' => r = .returned (.tuple #[.int .u64 ((f * 4503599627370496 + (M - 4503599627370496) : Nat) : Int), .bool true]) ∧ Up w w' := by
  have h0 : man ≠ 0 := by rw [he]; exact Nat.mul_ne_zero (Nat.ne_of_gt (two_pos z)) (by omega)
  have cz := zeros_any man z k hman he w hT
  have cl := len43 man h0 hman w
  rw [hL] at cl
  have hne : ((man : Int) == 0) = false := by rw [beq_eq_false_iff_ne]; omega
  have d1 : (man : Int) / 2 ^ z = ((2 * k + 1 : Nat) : Int) := by
    rw [he, show (2 : Int) ^ z = ((2 ^ z : Nat) : Int) by simp, ← Int.natCast_ediv, Nat.mul_div_cancel_left _ (two_pos z)]
  have a1 : IntKind.i64.wrap ((L : Int) - (z : Int)) = (wd : Int) := by rw [IntKind.wrap_i64]; omega
  obtain ⟨lo, hlo⟩ : ∃ lo : Int, lo = e + z := ⟨_, rfl⟩
  have a2 : IntKind.i64.wrap (e + (z : Int)) = lo := by rw [IntKind.wrap_i64]; omega
  obtain ⟨s, hs⟩ : ∃ s : Int, s = e + L := ⟨_, rfl⟩
  have a3 : IntKind.i64.wrap (lo + (wd : Int)) = s := by rw [IntKind.wrap_i64]; omega
  have a4 : IntKind.i64.wrap (s - 53) = s - 53 := by rw [IntKind.wrap_i64]; omega
  have a5' : IntKind.i64.wrap (s - 53 + 1074) = s + 1021 := by rw [IntKind.wrap_i64]; omega
  have a5 : IntKind.i64.wrap (s - 53 - -1074) = s + 1021 := by rw [IntKind.wrap_i64]; omega
  have a6 : IntKind.i64.wrap (s + 1021 + 1) = (f : Int) := by rw [IntKind.wrap_i64]; omega
  obtain ⟨t, ht⟩ : ∃ t : Nat, t = 53 - wd := ⟨_, rfl⟩
  have a7 : IntKind.i64.wrap (53 - (wd : Int)) = (t : Int) := by rw [IntKind.wrap_i64]; omega
  have n1 : ¬ (53 : Int) < (wd : Int) := by omega
  have n2 : ¬ lo < -1074 := by omega
  have n3 : ¬ (1024 : Int) < s := by omega
  have n4 : decide ((f : Int) ≤ 0) = false := decide_eq_false (by omega)
  have n5 : f ≠ 0 := by omega
  have n6 : decide (f = 0) = false := decide_eq_false n5
  have t0 : (0 : Int) ≤ (t : Int) := by omega
  have t64 : (t : Int) ≤ 64 := by omega
  have z0 : (0 : Int) ≤ (z : Int) := by omega
  have z64 : (z : Int) ≤ 64 := by omega
  have b1 : IntKind.u64.wrap (((2 * k + 1 : Nat) : Int) * 2 ^ t) = (M : Int) := by
    rw [IntKind.wrap_u64, show (2 : Int) ^ t = ((2 ^ t : Nat) : Int) by simp, ← Int.natCast_mul, ht, hM]
    omega
  have b2 := andNot_top hM1 hM2
  have b3 : IntKind.u64.wrap ((f : Int)) = (f : Int) := by rw [IntKind.wrap_u64]; omega
  have b4 : IntKind.u64.wrap ((f : Int) * 4503599627370496) = ((f * 4503599627370496 : Nat) : Int) := by rw [IntKind.wrap_u64]; omega
  have b5 := or_field (f := f) (c := M - 4503599627370496) (by omega) (by omega)
  have f0 : (0 : Int) ≤ (f : Int) := by omega
  clear hM hM1 hM2 h2 ht hw hw53 h1 hL hL64 he h0 hman hlo hs hf hf0
  generalize 2 * k + 1 = m at *
  obtain ⟨g, hg⟩ : ∃ g : Nat, g = f * 4503599627370496 := ⟨_, rfl⟩
  rw [← hg] at b4 b5 ⊢
  obtain ⟨c, hc⟩ : ∃ c : Nat, c = M - 4503599627370496 := ⟨_, rfl⟩
  rw [← hc] at b2 b5 ⊢
  obtain ⟨R, hR⟩ : ∃ R : Nat, R = g + c := ⟨_, rfl⟩
  rw [← hR] at b5 ⊢
  clear hg hc hR
  go_enter Tabg.func35, Tabg.ntmps35
  go_wp2_with (first | (go_at_call 42; refine cz.mono ?_; rintro e w' ⟨rfl, rfl⟩) | (go_at_call 43; refine cl.mono ?_; rintro e w' ⟨rfl, rfl⟩))
  go_quiet (fail)
  go_wp2
  go_ret2
  exact ⟨rfl, (Up.refl _).drewN _⟩
end Go.Proofs.YgctabDoor
