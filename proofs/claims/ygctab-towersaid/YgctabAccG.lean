import Derived.Test.YgctabAccF
namespace Go.Proofs.Ygctab
open Go.RowKit
set_option linter.unusedVariables false
set_option linter.unusedSimpArgs false

/-- The lowest and the highest 1 among the first i bits; -1 where there is none. -/
def endsN (m : Nat) : Nat → Int × Int
  | 0 => (-1, -1)
  | i + 1 => if m / 2 ^ i % 2 = 1 then (if (endsN m i).1 < 0 then (i : Int) else (endsN m i).1, (i : Int)) else endsN m i
def lowB (m : Nat) : Int := (endsN m 64).1
def highB (m : Nat) : Int := (endsN m 64).2

theorem endsN_range (m : Nat) : ∀ i, -1 ≤ (endsN m i).1 ∧ (endsN m i).1 < i ∧ -1 ≤ (endsN m i).2 ∧ (endsN m i).2 < i
  | 0 => by simp [endsN]
  | i + 1 => by
    have ih := endsN_range m i
    unfold endsN
    split
    · split <;> simp <;> omega
    · omega
/-- What the two are, of the first i bits. -/
theorem endsN_spec (m : Nat) : ∀ i, (m % 2 ^ i = 0 ∧ endsN m i = (-1, -1)) ∨ ∃ l h : Nat, endsN m i = ((l : Int), (h : Int)) ∧ m % 2 ^ l = 0 ∧ m / 2 ^ l % 2 = 1 ∧ 2 ^ h ≤ m % 2 ^ i ∧ m % 2 ^ i < 2 ^ (h + 1)
  | 0 => .inl ⟨by simp [Nat.mod_one], rfl⟩
  | i + 1 => by
    have ih := endsN_spec m i
    have e : m % 2 ^ (i + 1) = m % 2 ^ i + 2 ^ i * (m / 2 ^ i % 2) := by rw [Nat.pow_succ, Nat.mod_mul]
    have hlt : m % 2 ^ i < 2 ^ i := Nat.mod_lt _ (Nat.pow_pos (by decide))
    unfold endsN
    by_cases hb : m / 2 ^ i % 2 = 1
    · rw [if_pos hb]
      right
      rw [hb, Nat.mul_one] at e
      rcases ih with ⟨h0, h1⟩ | ⟨l, h, h1, h2, h3, h4, h5⟩
      · refine ⟨i, i, by rw [h1]; rfl, h0, hb, by omega, by rw [e, Nat.pow_succ]; omega⟩
      · refine ⟨l, i, by rw [h1]; simp only [if_neg (show ¬ ((l : Int) < 0) by omega)], h2, h3, by omega, by rw [e, Nat.pow_succ]; omega⟩
    · rw [if_neg hb]
      have hb0 : m / 2 ^ i % 2 = 0 := by omega
      rw [hb0, Nat.mul_zero, Nat.add_zero] at e
      rw [e]
      exact ih

set_option maxRecDepth 100000 in
theorem ends_any (m : Nat) (hm : m < 18446744073709551616) (w : World) :
    Calls Tabg.prog 141 #[.int .u64 m] w fun e w' => e = .returned (.tuple #[.int .i64 (lowB m), .int .i64 (highB m)]) ∧ w = w' := by
  go_enter Tabg.func141, Tabg.ntmps141
  go_wp2
  go_loop [2, 3, 4] (fun s t u => ∃ i : Nat, u = .int .i64 i ∧ i ≤ 64 ∧ s = .int .i64 (endsN m i).1 ∧ t = .int .i64 (endsN m i).2) (fun _ _ u => 64 - (intOf u).toNat)
  case atStart => exact ⟨0, rfl, by omega, rfl, rfl⟩
  case round =>
    obtain ⟨i, rfl, hi, rfl, rfl⟩ := hrel
    by_cases hlt : i < 64
    · have hst : endsN m (i + 1) = if m / 2 ^ i % 2 = 1 then (if (endsN m i).1 < 0 then (i : Int) else (endsN m i).1, (i : Int)) else endsN m i := rfl
      have hr := endsN_range m i
      have HS : Hid (endsN m (i + 1) = if m / 2 ^ i % 2 = 1 then (if (endsN m i).1 < 0 then (i : Int) else (endsN m i).1, (i : Int)) else endsN m i) := hst
      clear hst
      obtain ⟨d, hd⟩ : ∃ d : Nat, d = m / 2 ^ i := ⟨_, rfl⟩
      have hdm : d ≤ m := by rw [hd]; exact Nat.div_le_self _ _
      have hdI : (m : Int) / 2 ^ i = (d : Int) := by rw [hd]; simp
      have b1 : bits .and .u64 (d : Int) 1 = ((d % 2 : Nat) : Int) := by
        have := u64_and_nat d 1 (by omega) (by decide)
        rw [nat_mask1] at this
        exact this
      have HD : Hid (d = m / 2 ^ i) := hd
      clear hd
      generalize hlo : (endsN m i).1 = lo at *
      generalize hhi : (endsN m i).2 = hi' at *
      have HE : Hid (endsN m i = (lo, hi')) := by show _ = _; rw [← hlo, ← hhi]
      clear hlo hhi
      have hi0 : (0 : Int) ≤ (i : Int) := by omega
      by_cases hb : d % 2 = 1
      · have hb' : ((d % 2 : Nat) : Int) = 1 := by omega
        rw [hb'] at b1
        have HN : Hid (endsN m (i + 1) = (if lo < 0 then (i : Int) else lo, (i : Int))) := by
          show _ = _
          rw [HS.out, HE.out, if_pos (by rw [← HD.out]; exact hb)]
        by_cases hl : lo < 0
        · go_wp2
          go_round
          case rel => exact ⟨i + 1, by go_num, by omega, by rw [HN.out, if_pos hl], by rw [HN.out]⟩
          case measure => simp [intOf]; omega
        · go_wp2
          go_round
          case rel => exact ⟨i + 1, by go_num, by omega, by rw [HN.out]; simp only []; rw [if_neg (by omega)], by rw [HN.out]⟩
          case measure => simp [intOf]; omega
      · have hb' : ((d % 2 : Nat) : Int) = 0 := by omega
        rw [hb'] at b1
        have HN : Hid (endsN m (i + 1) = (lo, hi')) := by
          show _ = _
          rw [HS.out, if_neg (by rw [← HD.out]; exact hb), HE.out]
        go_wp2
        go_round
        case rel => exact ⟨i + 1, by go_num, by omega, by rw [HN.out], by rw [HN.out]⟩
        case measure => simp [intOf]; omega
    · obtain rfl : i = 64 := by omega
      go_wp2
      go_ret2
      exact ⟨rfl, rfl⟩

/-! ### finite, atMost, apart -/
theorem split' (p : Nat) (hp : p < 18446744073709551616) : ∀ w, Calls Tabg.prog 90 #[.float .f64 p] w fun e w' => e = .returned (.tuple #[.bool (fneg p), .int .u64 (fman p), .int .i16 (fexp p), .int .u8 (fcls p)]) ∧ w = w' := split64_any p hp

theorem finite_any (p : Nat) (hp : p < 18446744073709551616) (w : World) : Calls Tabg.prog 25 #[.float .f64 p] w fun e w' => e = .returned (.bool (decide (fcls p ≤ 1))) ∧ w = w' := by
  have cS := split' p hp
  generalize fcls p = cl at *
  have e : decide (cl ≤ 1) = decide ((cl : Int) ≤ 1) := by rw [decide_eq_decide]; omega
  rw [e]
  clear e
  go_enter Tabg.func25, Tabg.ntmps25
  go_wp2_with (go_at_call 90; refine (cS _).mono ?_; rintro e w' ⟨rfl, rfl⟩)
  go_ret
  exact ⟨rfl, rfl⟩

/-- At most 2^e in magnitude, as the law finds it. -/
def atMostB (p : Nat) (e : Int) : Bool :=
  if fcls p = 1 then decide (fexp p + highB (fman p) < e) || (decide (fexp p + highB (fman p) = e) && decide (lowB (fman p) = highB (fman p))) else decide (fcls p = 0)

theorem atMost_any (p : Nat) (hp : p < 18446744073709551616) (e : Int) (he : -5000 ≤ e) (he' : e ≤ 5000) (w : World) : Calls Tabg.prog 92 #[.float .f64 p, .int .i64 e] w fun r w' => r = .returned (.bool (atMostB p e)) ∧ w = w' := by
  have cS := split' p hp
  have hx := fexp_range p
  have hm := fman_lt p
  have hr := endsN_range (fman p) 64
  have cE := ends_any (fman p) (by omega)
  have hr1 : -1 ≤ highB (fman p) := hr.2.2.1
  have hr2 : highB (fman p) < 64 := hr.2.2.2
  unfold atMostB
  clear hr
  generalize fcls p = cl at *
  generalize lowB (fman p) = lo at *
  generalize highB (fman p) = hi at *
  generalize fexp p = ex at *
  by_cases h1 : cl = 1
  · subst h1
    rw [if_pos rfl]
    by_cases h2 : ex + hi < e
    · go_enter Tabg.func92, Tabg.ntmps92
      go_wp2_with (first | (go_at_call 90; refine (cS _).mono ?_; rintro e w' ⟨rfl, rfl⟩) | (go_at_call 141; refine (cE _).mono ?_; rintro e w' ⟨rfl, rfl⟩))
      go_ret
      exact ⟨ret_bool (by simp [h2]), rfl⟩
    · by_cases h3 : ex + hi = e
      · by_cases h4 : lo = hi
        · subst h4
          go_enter Tabg.func92, Tabg.ntmps92
          go_wp2_with (first | (go_at_call 90; refine (cS _).mono ?_; rintro e w' ⟨rfl, rfl⟩) | (go_at_call 141; refine (cE _).mono ?_; rintro e w' ⟨rfl, rfl⟩))
          go_ret
          exact ⟨ret_bool (by simp [h3]), rfl⟩
        · have h4' : (lo == hi) = false := by simpa using h4
          go_enter Tabg.func92, Tabg.ntmps92
          go_wp2_with (first | (go_at_call 90; refine (cS _).mono ?_; rintro e w' ⟨rfl, rfl⟩) | (go_at_call 141; refine (cE _).mono ?_; rintro e w' ⟨rfl, rfl⟩))
          go_ret
          exact ⟨ret_bool (by simp [h3, h4]), rfl⟩
      · have h3' : (ex + hi == e) = false := by simpa using h3
        go_enter Tabg.func92, Tabg.ntmps92
        go_wp2_with (first | (go_at_call 90; refine (cS _).mono ?_; rintro e w' ⟨rfl, rfl⟩) | (go_at_call 141; refine (cE _).mono ?_; rintro e w' ⟨rfl, rfl⟩))
        go_ret
        exact ⟨ret_bool (by simp [h2, h3]), rfl⟩
  · rw [if_neg h1]
    have h1' : ((cl : Int) == 1) = false := by simp; omega
    have e0 : decide (cl = 0) = ((cl : Int) == 0) := by rw [Bool.eq_iff_iff]; simp
    rw [e0]
    clear e0
    go_enter Tabg.func92, Tabg.ntmps92
    go_wp2_with (first | (go_at_call 90; refine (cS _).mono ?_; rintro e w' ⟨rfl, rfl⟩) | (go_at_call 141; refine (cE _).mono ?_; rintro e w' ⟨rfl, rfl⟩))
    go_ret
    exact ⟨rfl, rfl⟩
end Go.Proofs.Ygctab
