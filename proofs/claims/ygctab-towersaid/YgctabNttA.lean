import Derived.Test.YgctabRows
import Derived.Test.YgctabMem
namespace Go.Proofs.Ygctab
open Go.RowKit
set_option linter.unusedVariables false



theorem nbelow (a : Int) (w : World) (h0 : 0 ≤ a) (h1 : a < 4294967296) :
    Calls Tabg.prog 114 #[.int .u32 a] w fun e w' => e = .returned (.int .u32 (a % 998244353)) ∧ w' = w := by
  by_cases h : a < 998244353
  · go_enter Tabg.func114, Tabg.ntmps114
    go_wp2
    go_ret
    exact ⟨ret_int (by omega), rfl⟩
  · go_enter Tabg.func114, Tabg.ntmps114
    go_wp2
    go_ret
    exact ⟨ret_int (by omega), rfl⟩

theorem addMod (a b : Int) (w : World) (h0 : 0 ≤ a) (h1 : a < 4294967296) (h2 : 0 ≤ b) (h3 : b < 4294967296) :
    Calls Tabg.prog 48 #[.int .u32 a, .int .u32 b] w fun e w' => e = .returned (.int .u32 ((a + b) % 998244353)) ∧ w' = w := by
  have ha : 0 ≤ a % 998244353 := by omega
  have ha' : a % 998244353 < 998244353 := by omega
  have hb : 0 ≤ b % 998244353 := by omega
  have hb' : b % 998244353 < 998244353 := by omega
  go_enter Tabg.func48, Tabg.ntmps48
  go_wp2_with (go_at_call 114; refine (nbelow _ _ (by assumption) (by assumption)).mono ?_; rintro e w' ⟨rfl, rfl⟩)
  · go_ret
    exact ⟨ret_int (by omega), rfl⟩
  · go_ret
    exact ⟨ret_int (by omega), rfl⟩

theorem subMod (a b : Int) (w : World) (h0 : 0 ≤ a) (h1 : a < 4294967296) (h2 : 0 ≤ b) (h3 : b < 4294967296) :
    Calls Tabg.prog 49 #[.int .u32 a, .int .u32 b] w fun e w' => e = .returned (.int .u32 ((a - b) % 998244353)) ∧ w' = w := by
  have ha : 0 ≤ a % 998244353 := by omega
  have ha' : a % 998244353 < 998244353 := by omega
  have hb : 0 ≤ b % 998244353 := by omega
  have hb' : b % 998244353 < 998244353 := by omega
  go_enter Tabg.func49, Tabg.ntmps49
  go_wp2_with (go_at_call 114; refine (nbelow _ _ (by assumption) (by assumption)).mono ?_; rintro e w' ⟨rfl, rfl⟩)
  · go_ret
    exact ⟨ret_int (by omega), rfl⟩
  · go_ret
    exact ⟨ret_int (by omega), rfl⟩

theorem mulMod (a b : Int) (w : World) (h0 : 0 ≤ a) (h1 : a < 4294967296) (h2 : 0 ≤ b) (h3 : b < 4294967296) :
    Calls Tabg.prog 50 #[.int .u32 a, .int .u32 b] w fun e w' => e = .returned (.int .u32 ((a * b) % 998244353)) ∧ w' = w := by
  have ha : 0 ≤ a % 998244353 := by omega
  have ha' : a % 998244353 < 998244353 := by omega
  have hb : 0 ≤ b % 998244353 := by omega
  have hb' : b % 998244353 < 998244353 := by omega
  have hm : 0 ≤ (a % 998244353) * (b % 998244353) := Int.mul_nonneg ha hb
  have hm' : (a % 998244353) * (b % 998244353) < 18446744073709551616 := by
    have := Int.mul_le_mul (Int.le_of_lt ha') (Int.le_of_lt hb') hb (by decide)
    omega
  have hr : 0 ≤ (a % 998244353) * (b % 998244353) % 998244353 := by omega
  have hr' : (a % 998244353) * (b % 998244353) % 998244353 < 998244353 := by omega
  go_enter Tabg.func50, Tabg.ntmps50
  go_wp2_with (go_at_call 114; refine (nbelow _ _ (by assumption) (by assumption)).mono ?_; rintro e w' ⟨rfl, rfl⟩)
  go_ret
  exact ⟨ret_int (by simp [Int.mul_emod]), rfl⟩

theorem and1_u32 (E : Int) (h : 0 ≤ E) (h' : E < 4294967296) : bits .and .u32 E 1 = E % 2 := by
  rw [u32_and E 1 h h' (by decide) (by decide)]
  show ((E.toNat &&& 1 : Nat) : Int) = _
  rw [nat_mask1]; omega

theorem emod_mul_pow (A R : Int) (n : Nat) (P : Int) : (R * (A % P) ^ n) % P = (R * A ^ n) % P := by
  induction n generalizing R with
  | zero => simp
  | succ n ih =>
    rw [Int.pow_succ, Int.pow_succ, ← Int.mul_assoc, Int.mul_right_comm, ih, Int.mul_right_comm, ← Int.mul_assoc]
    rw [Int.mul_emod (R * A ^ n) (A % P), Int.emod_emod_of_dvd _ (Int.dvd_refl P), ← Int.mul_emod]

theorem pow_step_odd {A E R P : Int} (hE : 0 < E) (ho : E % 2 = 1) : (R * A % P) * (A * A % P) ^ (E / 2).toNat % P = R * A ^ E.toNat % P := by
  rw [emod_mul_pow, Int.mul_emod, Int.emod_emod_of_dvd _ (Int.dvd_refl P), ← Int.mul_emod]
  have : E.toNat = 2 * (E / 2).toNat + 1 := by omega
  rw [this, Int.pow_succ, Int.pow_mul]
  congr 1
  rw [show A ^ 2 = A * A from by rw [Int.pow_succ, Int.pow_succ, Int.pow_zero, Int.one_mul]]
  ac_rfl
theorem pow_step_even {A E R P : Int} (hE : 0 < E) (ho : E % 2 = 0) : R * (A * A % P) ^ (E / 2).toNat % P = R * A ^ E.toNat % P := by
  rw [emod_mul_pow]
  have : E.toNat = 2 * (E / 2).toNat := by omega
  rw [this, Int.pow_mul]
  congr 1
  rw [show A ^ 2 = A * A from by rw [Int.pow_succ, Int.pow_succ, Int.pow_zero, Int.one_mul]]

theorem powMod (a e : Int) (w : World) (h0 : 0 ≤ a) (h1 : a < 4294967296) (h2 : 0 ≤ e) (h3 : e < 4294967296) :
    Calls Tabg.prog 51 #[.int .u32 a, .int .u32 e] w fun r w' => r = .returned (.int .u32 (a ^ e.toNat % 998244353)) ∧ w' = w := by
  have ha : 0 ≤ a % 998244353 := by omega
  have ha' : a % 998244353 < 998244353 := by omega
  go_enter Tabg.func51, Tabg.ntmps51
  go_wp2_with (go_at_call 114; refine (nbelow _ _ (by assumption) (by assumption)).mono ?_; rintro e w' ⟨rfl, rfl⟩)
  go_loop [0, 1, 5] (fun s t u => ∃ A E R : Int, s = .int .u32 A ∧ t = .int .u32 E ∧ u = .int .u32 R ∧ 0 ≤ A ∧ A < 998244353 ∧ 0 ≤ E ∧ E < 4294967296 ∧ 0 ≤ R ∧ R < 998244353 ∧ Hid (R * A ^ E.toNat % 998244353 = a ^ e.toNat % 998244353)) (fun _ t _ => (intOf t).toNat)
  case atStart => exact ⟨_, _, _, rfl, rfl, rfl, ha, ha', h2, h3, by decide, by decide, by have := emod_mul_pow a 1 e.toNat 998244353; rw [Int.one_mul, Int.one_mul] at this; show 1 * _ % _ = _; rw [Int.one_mul]; exact this⟩
  case round =>
    obtain ⟨A, E, R, rfl, rfl, rfl, hA, hA', hE, hE', hR, hR', HI⟩ := hrel
    have hb := and1_u32 E hE hE'
    go_wp2_with (go_at_call 50; refine (mulMod _ _ _ (by assumption) (by omega) (by assumption) (by omega)).mono ?_; rintro e w' ⟨rfl, rfl⟩)
    · have ho : E % 2 = 1 := by have h : (E % 2 != 0) = true := (by assumption); simp at h; omega
      go_round
      case rel => exact ⟨_, _, _, rfl, rfl, rfl, by omega, by omega, by omega, by omega, by omega, by omega, (pow_step_odd (by omega) ho).trans HI.out⟩
      case measure => simp [intOf]; omega
    · have ho : E % 2 = 0 := by have h : (E % 2 != 0) = false := (by assumption); simpa using h
      go_round
      case rel => exact ⟨_, _, _, rfl, rfl, rfl, by omega, by omega, by omega, by omega, by omega, by omega, (pow_step_even (by omega) ho).trans HI.out⟩
      case measure => simp [intOf]; omega
    · go_ret
      have hE0 : E.toNat = 0 := by omega
      have := HI.out
      rw [hE0, Int.pow_zero, Int.mul_one] at this
      exact ⟨ret_int (by rw [← this]; omega), rfl⟩

theorem invMod (a : Int) (w : World) (h0 : 0 ≤ a) (h1 : a < 4294967296) :
    Calls Tabg.prog 52 #[.int .u32 a] w fun r w' => r = .returned (.int .u32 (a ^ 998244351 % 998244353)) ∧ w' = w := by
  go_enter Tabg.func52, Tabg.ntmps52
  go_wp2_with (go_at_call 51; refine (powMod _ _ _ (by assumption) (by assumption) (by decide) (by decide)).mono ?_; rintro e w' ⟨rfl, rfl⟩)
  go_ret
  exact ⟨rfl, rfl⟩

def tms (w x : Int) : Int := x * w - x * (w * 4294967296 / 998244353) / 4294967296 * 998244353

theorem tms_key (a x : Int) : 4294967296 * tms a x = 998244353 * (x * (a * 4294967296 / 998244353) % 4294967296) + x * (a * 4294967296 % 998244353) := by
  unfold tms
  have e1 : a * 4294967296 = 998244353 * (a * 4294967296 / 998244353) + a * 4294967296 % 998244353 := by omega
  generalize a * 4294967296 / 998244353 = r at *
  generalize a * 4294967296 % 998244353 = s at *
  have e2 : x * (a * 4294967296) = x * (998244353 * r + s) := by rw [← e1]
  have e3 : x * (a * 4294967296) = x * a * 4294967296 := (Int.mul_assoc ..).symm
  have e4 : x * (998244353 * r + s) = 998244353 * (x * r) + x * s := by rw [Int.mul_add, Int.mul_left_comm]
  rw [e3, e4] at e2
  clear e3 e4
  generalize x * a = xa at *
  generalize x * r = xr at *
  generalize x * s = xs at *
  omega
theorem tms_range (a x : Int) (h0 : 0 ≤ a) (h1 : a < 998244353) (h2 : 0 ≤ x) (h3 : x < 4294967296) : 0 ≤ tms a x ∧ tms a x < 1996488706 := by
  have k := tms_key a x
  have s0 : 0 ≤ a * 4294967296 % 998244353 := by omega
  have s1 : a * 4294967296 % 998244353 < 998244353 := by omega
  generalize a * 4294967296 % 998244353 = s at *
  have m0 : 0 ≤ x * s := Int.mul_nonneg h2 s0
  have m1 : x * s ≤ 4294967295 * 998244352 := Int.mul_le_mul (by omega) (by omega) s0 (by decide)
  generalize x * s = xs at *
  generalize x * (a * 4294967296 / 998244353) = t at *
  omega
theorem tms_mod (a x : Int) : tms a x % 998244353 = x * a % 998244353 := by
  unfold tms
  generalize x * a = xa
  generalize x * (a * 4294967296 / 998244353) / 4294967296 = q
  omega

theorem fold (s : Int) (w : World) (h0 : 0 ≤ s) (h1 : s < 1996488706) :
    Calls Tabg.prog 119 #[.int .u32 s] w fun e w' => e = .returned (.int .u32 (s % 998244353)) ∧ w' = w := by
  by_cases h : s < 998244353
  · go_enter Tabg.func119, Tabg.ntmps119
    go_wp2
    go_ret
    exact ⟨ret_int (by omega), rfl⟩
  · go_enter Tabg.func119, Tabg.ntmps119
    go_wp2
    go_ret
    exact ⟨ret_int (by omega), rfl⟩

theorem factorOf (a : Int) (w : World) (h0 : 0 ≤ a) (h1 : a < 998244353) :
    Calls Tabg.prog 118 #[.int .u32 a] w fun e w' => e = .returned (.agg #[.int .u32 a, .int .u32 (a * 4294967296 / 998244353)]) ∧ ∃ c : Array Value, w' = w.alloc (.cells c 147) := by
  have k0 : 0 ≤ a * 4294967296 / 998244353 := by omega
  have k1 : a * 4294967296 / 998244353 < 4294967296 := by omega
  go_enter Tabg.func118, Tabg.ntmps118
  go_wp2
  simp [bodyPost, results, Tabg.results118, go_sem]
  exact ⟨_, rfl⟩

theorem times (a x : Int) (w : World) (h0 : 0 ≤ a) (h1 : a < 998244353) (h2 : 0 ≤ x) (h3 : x < 4294967296) :
    Calls Tabg.prog 120 #[.agg #[.int .u32 a, .int .u32 (a * 4294967296 / 998244353)], .int .u32 x] w fun e w' => e = .returned (.int .u32 (tms a x)) ∧ ∃ c : Array Value, w' = w.alloc (.cells c 147) := by
  have k0 : 0 ≤ a * 4294967296 / 998244353 := by omega
  have k1 : a * 4294967296 / 998244353 < 4294967296 := by omega
  have m0 : 0 ≤ x * (a * 4294967296 / 998244353) := Int.mul_nonneg h2 k0
  have m1 : x * (a * 4294967296 / 998244353) < 18446744073709551616 := by
    have := Int.mul_le_mul (Int.le_of_lt h3) (Int.le_of_lt k1) k0 (by decide)
    have : x * (a * 4294967296 / 998244353) ≤ 4294967295 * 4294967295 := Int.mul_le_mul (by omega) (by omega) k0 (by decide)
    omega
  have q1 : x * (a * 4294967296 / 998244353) / 4294967296 < 4294967296 := by omega
  have q0 : 0 ≤ x * (a * 4294967296 / 998244353) / 4294967296 := by omega
  have R := tms_range a x h0 h1 h2 h3
  have HT : Hid (tms a x = (x * a % 4294967296 - x * (a * 4294967296 / 998244353) / 4294967296 * 998244353 % 4294967296) % 4294967296) := by
    show _ = _
    have : tms a x = x * a - x * (a * 4294967296 / 998244353) / 4294967296 * 998244353 := rfl
    omega
  clear R
  go_enter Tabg.func120, Tabg.ntmps120
  go_wp2
  go_ret
  exact ⟨ret_int HT.out.symm, _, rfl⟩
end Go.Proofs.Ygctab
