import Derived.Test.YgctabDoorAccF
namespace Go.Proofs.YgctabDoor
open Go.RowKit
set_option linter.unusedVariables false
set_option linter.unusedSimpArgs false

/-- The lowest and the highest 1 among the first i bits; -1 where there is none. -/
def endsN (m : Nat) : Nat → Int × Int
  | 0 => (-1, -1)
  | i + 1 => if m / 2 ^ i % 2 = 1 then (if (endsN m i).1 < 0 then (i : Int) else (endsN m i).1, (i : Int)) else endsN m i
def lowB (m : Nat) : Int := (endsN m 64).1
def highB (m : Nat) : Int := (endsN m 64).2

theorem endsN_range (m : Nat) : ∀ i, -1 ≤ (endsN m i).1 ∧ (endsN m i).1 < i ∧ -1 ≤ (endsN m i).2 ∧ (endsN m i).2 < i
  | 0 => by simp [endsN]
  | i + 1 => by
    have ih := endsN_range m i
    unfold endsN
    split
    · split <;> simp <;> omega
    · omega
/-- What the two are, of the first i bits. -/
theorem endsN_spec (m : Nat) : ∀ i, (m % 2 ^ i = 0 ∧ endsN m i = (-1, -1)) ∨ ∃ l h : Nat, endsN m i = ((l : Int), (h : Int)) ∧ m % 2 ^ l = 0 ∧ m / 2 ^ l % 2 = 1 ∧ 2 ^ h ≤ m % 2 ^ i ∧ m % 2 ^ i < 2 ^ (h + 1)
  | 0 => .inl ⟨by simp [Nat.mod_one], rfl⟩
  | i + 1 => by
    have ih := endsN_spec m i
    have e : m % 2 ^ (i + 1) = m % 2 ^ i + 2 ^ i * (m / 2 ^ i % 2) := by rw [Nat.pow_succ, Nat.mod_mul]
    have hlt : m % 2 ^ i < 2 ^ i := Nat.mod_lt _ (Nat.pow_pos (by decide))
    unfold endsN
    by_cases hb : m / 2 ^ i % 2 = 1
    · rw [if_pos hb]
      right
      rw [hb, Nat.mul_one] at e
      rcases ih with ⟨h0, h1⟩ | ⟨l, h, h1, h2, h3, h4, h5⟩
      · refine ⟨i, i, by rw [h1]; rfl, h0, hb, by omega, by rw [e, Nat.pow_succ]; omega⟩
      · refine ⟨l, i, by rw [h1]; simp only [if_neg (show ¬ ((l : Int) < 0) by omega)], h2, h3, by omega, by rw [e, Nat.pow_succ]; omega⟩
    · rw [if_neg hb]
      have hb0 : m / 2 ^ i % 2 = 0 := by omega
      rw [hb0, Nat.mul_zero, Nat.add_zero] at e
      rw [e]
      exact ih

set_option maxRecDepth 100000 in
theorem ends_any (m : Nat) (hm : m < 18446744073709551616) (w : World) :
    Calls Tabg.prog 27 #[.int .u64 m] w fun e w' => e = .returned (.tuple #[.int .i64 (lowB m), .int .i64 (highB m)]) ∧ w = w' := by
  go_enter Tabg.func27, Tabg.ntmps27
  go_wp2
  go_loop [2, 3, 4] (fun s t u => ∃ i : Nat, u = .int .i64 i ∧ i ≤ 64 ∧ s = .int .i64 (endsN m i).1 ∧ t = .int .i64 (endsN m i).2) (fun _ _ u => 64 - (intOf u).toNat)
  case atStart => exact ⟨0, rfl, by omega, rfl, rfl⟩
  case round =>
    obtain ⟨i, rfl, hi, rfl, rfl⟩ := hrel
    by_cases hlt : i < 64
    · have hst : endsN m (i + 1) = if m / 2 ^ i % 2 = 1 then (if (endsN m i).1 < 0 then (i : Int) else (endsN m i).1, (i : Int)) else endsN m i := rfl
      have hr := endsN_range m i
      have HS : Hid (endsN m (i + 1) = if m / 2 ^ i % 2 = 1 then (if (endsN m i).1 < 0 then (i : Int) else (endsN m i).1, (i : Int)) else endsN m i) := hst
      clear hst
      obtain ⟨d, hd⟩ : ∃ d : Nat, d = m / 2 ^ i := ⟨_, rfl⟩
      have hdm : d ≤ m := by rw [hd]; exact Nat.div_le_self _ _
      have hdI : (m : Int) / 2 ^ i = (d : Int) := by rw [hd]; simp
      have b1 : bits .and .u64 (d : Int) 1 = ((d % 2 : Nat) : Int) := by
        have := u64_and_nat d 1 (by omega) (by decide)
        rw [nat_mask1] at this
        exact this
      have HD : Hid (d = m / 2 ^ i) := hd
      clear hd
      generalize hlo : (endsN m i).1 = lo at *
      generalize hhi : (endsN m i).2 = hi' at *
      have HE : Hid (endsN m i = (lo, hi')) := by show _ = _; rw [← hlo, ← hhi]
      clear hlo hhi
      have hi0 : (0 : Int) ≤ (i : Int) := by omega
      by_cases hb : d % 2 = 1
      · have hb' : ((d % 2 : Nat) : Int) = 1 := by omega
        rw [hb'] at b1
        have HN : Hid (endsN m (i + 1) = (if lo < 0 then (i : Int) else lo, (i : Int))) := by
          show _ = _
          rw [HS.out, HE.out, if_pos (by rw [← HD.out]; exact hb)]
        by_cases hl : lo < 0
        · go_wp2
          go_round
          case rel => exact ⟨i + 1, by go_num, by omega, by rw [HN.out, if_pos hl], by rw [HN.out]⟩
          case measure => simp [intOf]; omega
        · go_wp2
          go_round
          case rel => exact ⟨i + 1, by go_num, by omega, by rw [HN.out]; simp only []; rw [if_neg (by omega)], by rw [HN.out]⟩
          case measure => simp [intOf]; omega
      · have hb' : ((d % 2 : Nat) : Int) = 0 := by omega
        rw [hb'] at b1
        have HN : Hid (endsN m (i + 1) = (lo, hi')) := by
          show _ = _
          rw [HS.out, if_neg (by rw [← HD.out]; exact hb), HE.out]
        go_wp2
        go_round
        case rel => exact ⟨i + 1, by go_num, by omega, by rw [HN.out], by rw [HN.out]⟩
        case measure => simp [intOf]; omega
    · obtain rfl : i = 64 := by omega
      go_wp2
      go_ret2
      exact ⟨rfl, rfl⟩

/-! ### finite, atMost, apart -/
theorem split' (p : Nat) (hp : p < 18446744073709551616) : ∀ w, Calls Tabg.prog 26 #[.float .f64 p] w fun e w' => e = .returned (.tuple #[.bool (fneg p), .int .u64 (fman p), .int .i16 (fexp p), .int .u8 (fcls p)]) ∧ w = w' := split64_any p hp

end Go.Proofs.YgctabDoor
