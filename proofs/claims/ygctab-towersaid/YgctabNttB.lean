import Derived.Test.YgctabNttA
namespace Go.Proofs.Ygctab
open Go.RowKit
set_option linter.unusedVariables false

def belowB (zs : List Int) : Bool := zs.all (fun z => decide (z < 998244353))

theorem below_of {zs : List Int} {k : Nat} (h : belowB (zs.take k) = true) (hk : k < zs.length) (hz : zs[k] < 998244353) : belowB (zs.take (k + 1)) = true := by
  unfold belowB at *
  rw [List.take_succ_eq_append_getElem hk, List.all_append, h]
  simp [hz]
theorem not_below_of {zs : List Int} {k : Nat} (hk : k < zs.length) (hz : 998244353 ≤ zs[k]) : belowB zs = false := by
  unfold belowB
  rw [List.all_eq_false]
  exact ⟨zs[k], List.getElem_mem hk, by simp; omega⟩

theorem lbelow (a : Option Addr) (n c : Nat) (zs : List Int) (w : World) (h : RdI .u32 w a n zs) (hn : n ≤ maxLen) :
    Calls Tabg.prog 54 #[.slice a n c] w fun e w' => e = .returned (.bool (belowB zs)) ∧ w' = w := by
  unfold maxLen at hn
  obtain ⟨rfl, h⟩ := h
  go_enter Tabg.func54, Tabg.ntmps54
  go_wp2
  go_loop [3] (fun i => ∃ k : Nat, k ≤ zs.length ∧ i = .int .i64 k ∧ belowB (zs.take k) = true) (fun i => zs.length - (intOf i).toNat)
  case atStart => exact ⟨0, Nat.zero_le _, rfl, rfl⟩
  case round =>
    obtain ⟨k, hk, rfl, hb⟩ := hrel
    have HB : Hid (belowB (zs.take k) = true) := hb
    clear hb
    by_cases hlt : k < zs.length
    · obtain ⟨b, off, rfl, hc⟩ := h k hlt
      go_wp2
      · go_ret
        exact ⟨ret_bool (not_below_of hlt (by assumption)).symm, rfl⟩
      · go_round
        case rel => exact ⟨k + 1, by omega, by go_num, below_of HB.out hlt (by assumption)⟩
        case measure => simp [intOf]; omega
    · go_wp2
      go_ret
      exact ⟨ret_bool (by have := HB.out; rw [List.take_of_length_le (by omega)] at this; exact this.symm), rfl⟩

theorem nBelow (a : Option Addr) (n c : Nat) (zs : List Int) (w : World) (h : RdI .u32 w a n zs) (hn : n ≤ maxLen) :
    Calls Tabg.prog 55 #[.slice a n c] w fun e w' => e = .returned (.bool (belowB zs)) ∧ w' = w := by
  unfold maxLen at hn
  obtain ⟨rfl, h⟩ := h
  go_enter Tabg.func55, Tabg.ntmps55
  go_wp2
  go_loop [3] (fun i => ∃ k : Nat, k ≤ zs.length ∧ i = .int .i64 k ∧ belowB (zs.take k) = true) (fun i => zs.length - (intOf i).toNat)
  case atStart => exact ⟨0, Nat.zero_le _, rfl, rfl⟩
  case round =>
    obtain ⟨k, hk, rfl, hb⟩ := hrel
    have HB : Hid (belowB (zs.take k) = true) := hb
    clear hb
    by_cases hlt : k < zs.length
    · obtain ⟨b, off, rfl, hc⟩ := h k hlt
      go_wp2
      · go_ret
        exact ⟨ret_bool (not_below_of hlt (by assumption)).symm, rfl⟩
      · go_round
        case rel => exact ⟨k + 1, by omega, by go_num, below_of HB.out hlt (by assumption)⟩
        case measure => simp [intOf]; omega
    · go_wp2
      go_ret
      exact ⟨ret_bool (by have := HB.out; rw [List.take_of_length_le (by omega)] at this; exact this.symm), rfl⟩

theorem take_eq_of {α : Type} {xs ys : List α} {k : Nat} (hx : k < xs.length) (hy : k < ys.length) (h : xs.take k = ys.take k) (e : xs[k] = ys[k]) : xs.take (k + 1) = ys.take (k + 1) := by
  rw [List.take_succ_eq_append_getElem hx, List.take_succ_eq_append_getElem hy, h, e]
theorem ne_of_at {xs ys : List Int} {k : Nat} (hx : k < xs.length) (hy : k < ys.length) (e : xs[k] ≠ ys[k]) : (xs == ys) = false := by
  apply beq_eq_false_iff_ne.2
  rintro rfl
  exact e rfl

theorem sameElems (a a' : Option Addr) (n n' c c' : Nat) (xs ys : List Int) (w : World) (h : RdI .u32 w a n xs) (hn : n ≤ maxLen) (h' : RdI .u32 w a' n' ys) :
    Calls Tabg.prog 53 #[.slice a n c, .slice a' n' c'] w fun e w' => e = .returned (.bool (xs == ys)) ∧ ∃ m, w' = w.drewN m := by
  unfold maxLen at hn
  obtain ⟨rfl, h⟩ := h
  obtain ⟨rfl, h'⟩ := h'
  by_cases hL : xs.length = ys.length
  · go_enter Tabg.func53, Tabg.ntmps53
    go_wp2
    go_loopw [5] (fun i wr => ∃ k m : Nat, k ≤ xs.length ∧ i = .int .i64 k ∧ wr = w.drewN m ∧ xs.take k = ys.take k) (fun i _ => xs.length - (intOf i).toNat)
    case atStart => exact ⟨0, 0, Nat.zero_le _, rfl, rfl, rfl⟩
    case round =>
      obtain ⟨k, m, hk, rfl, rfl, hb⟩ := hrel
      have HB : Hid (xs.take k = ys.take k) := hb
      clear hb
      by_cases hlt : k < xs.length
      · obtain ⟨b, off, rfl, hc⟩ := h k hlt
        have hlt' : k < ys.length := by omega
        obtain ⟨b', off', rfl, hc'⟩ := h' k hlt'
        go_wp2
        go_quiet (fail)
        go_wp2
        · go_ret
          exact ⟨ret_bool (ne_of_at hlt hlt' (by have e : (xs[k] != ys[k]) = true := (by assumption); simpa using e)).symm, m + nq, World.drewN_drewN _ _ _⟩
        · go_roundw
          case rel => exact ⟨k + 1, _, by omega, by go_num, rfl, take_eq_of hlt hlt' HB.out (by have e : (xs[k] != ys[k]) = false := (by assumption); simpa using e)⟩
          case measure => simp [intOf]; omega
      · go_wp2
        go_ret
        refine ⟨ret_bool ?_, _, rfl⟩
        have := HB.out
        rw [List.take_of_length_le (by omega), List.take_of_length_le (by omega)] at this
        simp [this]
  · go_enter Tabg.func53, Tabg.ntmps53
    go_wp2
    go_ret
    refine ⟨ret_bool ?_, 0, rfl⟩
    symm
    apply beq_eq_false_iff_ne.2
    rintro rfl
    exact hL rfl

theorem pow_int (k : Nat) (h : k ≤ 62) : 0 < (2 : Int) ^ k ∧ (2 : Int) ^ k ≤ 4611686018427387904 := by
  have h1 : (2 : Nat) ^ k ≤ 2 ^ 62 := Nat.pow_le_pow_right (by decide) h
  have h2 : 0 < (2 : Nat) ^ k := Nat.pow_pos (by decide)
  have e : (2 : Int) ^ k = ((2 ^ k : Nat) : Int) := by simp
  rw [e]
  have : (2 : Nat) ^ 62 = 4611686018427387904 := by decide
  omega
theorem wrap_pow (k : Nat) (h : k ≤ 62) : wrap64 ((2 : Int) ^ k) = (2 : Int) ^ k := by have := pow_int k h; unfold wrap64; omega
theorem pow_cast (k : Nat) : ((2 ^ k : Nat) : Int) = (2 : Int) ^ k := by simp

theorem level (n : Nat) (w : World) (hn : n ≤ 9223372036854775807) :
    Calls Tabg.prog 115 #[.int .i64 n] w fun e w' => (∃ k : Nat, k ≤ 11 ∧ n = 2 ^ k ∧ e = .returned (.int .i64 k) ∧ w' = w) ∨ ((∀ k, k ≤ 11 → n ≠ 2 ^ k) ∧ e = .returned (.int .i64 (-1)) ∧ w' = w) := by
  go_enter Tabg.func115, Tabg.ntmps115
  go_wp2
  go_loop [3] (fun i => ∃ k : Nat, k ≤ 12 ∧ i = .int .i64 k ∧ ∀ j, j < k → n ≠ 2 ^ j) (fun i => 12 - (intOf i).toNat)
  case atStart => exact ⟨0, Nat.zero_le _, rfl, fun j hj => absurd hj (Nat.not_lt_zero _)⟩
  case round =>
    obtain ⟨k, hk, rfl, hb⟩ := hrel
    have HB : Hid (∀ j, j < k → n ≠ 2 ^ j) := hb
    clear hb
    by_cases hlt : k ≤ 11
    · have hwp := wrap_pow k (by omega)
      go_wp2
      · go_ret
        have e : ((n : Int) == 2 ^ k) = true := by assumption
        have e' : (n : Int) = 2 ^ k := by simpa using e
        rw [← pow_cast] at e'
        exact .inl ⟨k, hlt, by omega, rfl, rfl⟩
      · go_round
        case rel =>
          have e : ((n : Int) == 2 ^ k) = false := by assumption
          have e' : (n : Int) ≠ 2 ^ k := by simpa using e
          rw [← pow_cast] at e'
          refine ⟨k + 1, by omega, by go_num, fun j hj => ?_⟩
          rcases Nat.lt_or_ge j k with h | h
          · exact HB.out j h
          · obtain rfl : j = k := by omega
            omega
        case measure => simp [intOf]; omega
    · go_wp2
      go_ret
      exact .inr ⟨fun j hj => HB.out j (by omega), rfl, rfl⟩

theorem lcut (n : Nat) (w : World) (hn : n ≤ 9223372036854775807) :
    Calls Tabg.prog 47 #[.int .i64 n] w fun e w' => w' = w ∧ ((n = 0 ∧ e = .returned (.int .i64 (-1))) ∨ ∃ k : Nat, k ≤ 11 ∧ 2 ^ k ≤ n ∧ (k = 11 ∨ n < 2 ^ (k + 1)) ∧ e = .returned (.int .i64 k)) := by
  go_enter Tabg.func47, Tabg.ntmps47
  go_wp2
  go_loop [3] (fun i => ∃ k : Nat, k ≤ 12 ∧ i = .int .i64 ((k : Int) - 1) ∧ (k = 0 ∨ 2 ^ (k - 1) ≤ n)) (fun i => (11 - (intOf i)).toNat)
  case atStart => exact ⟨0, Nat.zero_le _, rfl, .inl rfl⟩
  case round =>
    obtain ⟨k, hk, rfl, hb⟩ := hrel
    have HB : Hid (k = 0 ∨ 2 ^ (k - 1) ≤ n) := hb
    clear hb
    by_cases hlt : k ≤ 11
    · have hwp := wrap_pow k (by omega)
      go_wp2
      · go_round
        case rel =>
          have e : (2 : Int) ^ k ≤ n := by assumption
          rw [← pow_cast] at e
          exact ⟨k + 1, by omega, by congr 1; omega, .inr (by simpa using by omega)⟩
        case measure => simp [intOf]; omega
      · go_ret
        have e : (n : Int) < 2 ^ k := by assumption
        rw [← pow_cast] at e
        refine ⟨rfl, ?_⟩
        rcases HB.out with h | h
        · subst h
          exact .inl ⟨by simp at e; omega, rfl⟩
        · by_cases h0 : k = 0
          · subst h0
            exact .inl ⟨by simp at e; omega, rfl⟩
          · exact .inr ⟨k - 1, by omega, h, .inr (by rw [Nat.sub_add_cancel (by omega)]; omega), ret_int (by omega)⟩
    · go_wp2
      go_ret
      refine ⟨rfl, .inr ⟨11, Nat.le_refl _, ?_, .inl rfl, ret_int (by omega)⟩⟩
      rcases HB.out with h | h
      · omega
      · have : k - 1 = 11 := by omega
        rwa [this] at h
end Go.Proofs.Ygctab
