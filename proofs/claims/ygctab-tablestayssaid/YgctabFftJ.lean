import Derived.Test.YgctabFftH
namespace Go.Proofs.Ygctab
open Go.RowKit
set_option linter.unusedVariables false
set_option linter.unusedSimpArgs false

set_option maxRecDepth 100000 in
/-- W comes back, and nothing turns. -/
theorem w_any (a : Option Addr) (h c : Nat) (m : Int) (zs : List (Nat × Nat)) (w : World) (hz : RdC w a h zs) (hh : h ≤ 4096) (hm : -1 ≤ m) (hm2 : m ≤ 8192) :
    Calls Tabg.prog 108 #[.slice a h c, .int .i64 m] w fun e w' => (∃ p q, e = .returned (.complex .f64 p q)) ∧ w = w' := by
  have r := fun p w => run_negF (P := Tabg.prog) p w
  have hhI : (h : Int) ≤ 4096 := by omega
  obtain ⟨hl, hat⟩ := hz
  by_cases h0 : h = 0 ∧ m = 0
  · obtain ⟨rfl, rfl⟩ := h0
    clear hat hl r hm hm2 hh hhI
    go_enter Tabg.func108, Tabg.ntmps108
    go_wp2
    go_ret
    exact ⟨⟨_, _, rfl⟩, rfl⟩
  · have w1 : IntKind.i64.wrap (2 * (h : Int)) = 2 * (h : Int) := by rw [IntKind.wrap_i64]; omega
    by_cases hneg : m < 0
    · obtain rfl : m = -1 := by omega
      clear hat w1 hl r h0 hneg hm hm2
      go_enter Tabg.func108, Tabg.ntmps108
      by_cases hz : h = 0
      · subst hz
        go_wp2
        go_ret
        exact ⟨⟨_, _, rfl⟩, rfl⟩
      · have hzI : decide ((h : Int) = 0) = false := decide_eq_false (by omega)
        have hzN : decide (h = 0) = false := decide_eq_false (by omega)
        go_wp2
        go_ret
        exact ⟨⟨_, _, rfl⟩, rfl⟩
    · obtain ⟨q, rfl⟩ : ∃ q : Nat, m = (q : Int) := ⟨m.toNat, by omega⟩
      have hno : (decide ((h : Int) = 0) && decide ((q : Int) = 0)) = false := by
        by_cases h1 : h = 0
        · rw [decide_eq_false (p := ((q : Int) = 0)) (by omega)]; simp
        · rw [decide_eq_false (p := ((h : Int) = 0)) (by omega)]; simp
      by_cases hge : 2 * h ≤ q
      · have hq1 : h = 0 → q ≠ 0 := by omega
        clear hat hl r h0 hneg hm hno
        go_enter Tabg.func108, Tabg.ntmps108
        by_cases hz : h = 0
        · subst hz
          have hq : decide ((q : Int) = 0) = false := decide_eq_false (by have := hq1 rfl; omega)
          have hq' : decide (q = 0) = false := decide_eq_false (by have := hq1 rfl; omega)
          have q1 : (1 : Int) ≤ (q : Int) := by have := hq1 rfl; omega
          clear hq1 hge w1 hh hhI
          go_wp2
          go_ret
          exact ⟨⟨_, _, rfl⟩, rfl⟩
        · have hzI : decide ((h : Int) = 0) = false := decide_eq_false (by omega)
          have hzN : decide (h = 0) = false := decide_eq_false (by omega)
          have hgI : 2 * (h : Int) ≤ (q : Int) := by omega
          clear hq1
          go_wp2
          go_ret
          exact ⟨⟨_, _, rfl⟩, rfl⟩
      · have hzI : decide ((h : Int) = 0) = false := decide_eq_false (by omega)
        have hzN : decide (h = 0) = false := decide_eq_false (by omega)
        have hgI : ¬ 2 * (h : Int) ≤ (q : Int) := by omega
        have hgd : decide (2 * (h : Int) ≤ (q : Int)) = false := decide_eq_false (by omega)
        have hgd' : decide (2 * h ≤ q) = false := decide_eq_false (by omega)
        by_cases hlt : q < h
        · obtain ⟨b, off, rfl, hc⟩ := hat q (by omega)
          have q0 : (0 : Int) ≤ (q : Int) := by omega
          have qm : (q : Int) < (h : Int) := by omega
          clear hat hl
          go_enter Tabg.func108, Tabg.ntmps108
          go_wp2
          go_ret
          exact ⟨⟨_, _, rfl⟩, rfl⟩
        · obtain ⟨p, hp⟩ : ∃ p, p = q - h := ⟨_, rfl⟩
          have w2 : IntKind.i64.wrap ((q : Int) - (h : Int)) = (p : Int) := by rw [IntKind.wrap_i64]; omega
          obtain ⟨b, off, rfl, hc⟩ := hat p (by omega)
          have p0 : (0 : Int) ≤ (p : Int) := by omega
          have pm : (p : Int) < (h : Int) := by omega
          have qd : decide ((q : Int) < (h : Int)) = false := decide_eq_false (by omega)
          have qd' : decide (q < h) = false := decide_eq_false (by omega)
          clear hat hl hp
          go_enter Tabg.func108, Tabg.ntmps108
          go_wp2
          go_ret
          exact ⟨⟨_, _, rfl⟩, rfl⟩

set_option maxRecDepth 100000 in
theorem bitsC_self (a b : Nat) (w : World) : Calls Tabg.prog 109 #[.complex .f64 a b, .int .u64 a, .int .u64 b] w fun e w' => e = .returned (.bool true) ∧ w = w' := by
  have CA : Hid (∀ w, Calls Tabg.prog 44 #[.float .f64 a] w fun e w' => e = .returned (.int .u64 a) ∧ w = w') := b64_any a
  have CB : Hid (∀ w, Calls Tabg.prog 44 #[.float .f64 b] w fun e w' => e = .returned (.int .u64 b) ∧ w = w') := b64_any b
  go_enter Tabg.func109, Tabg.ntmps109
  go_wp2_with (go_at_call 44; first | (refine (CA.out _).mono ?_; rintro e w' ⟨rfl, rfl⟩) | (refine (CB.out _).mono ?_; rintro e w' ⟨rfl, rfl⟩))
  go_ret
  exact ⟨rfl, rfl⟩
end Go.Proofs.Ygctab
