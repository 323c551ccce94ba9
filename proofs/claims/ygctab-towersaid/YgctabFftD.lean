import Derived.Test.YgctabFftC
namespace Go.Proofs.Ygctab
open Go.RowKit
set_option linter.unusedVariables false
set_option linter.unusedSimpArgs false

/-- level answers something below 12. -/
theorem flevel_some (n : Nat) (hn : n ≤ 4096) : ∃ l : Int, -1 ≤ l ∧ l ≤ 11 ∧ (∀ k : Nat, k ≤ 11 → n = 2 ^ k → l = (k : Int)) ∧ ((∀ k : Nat, k ≤ 11 → n ≠ 2 ^ k) → l = -1) ∧ ∀ w, Calls Tabg.prog 145 #[.int .i64 n] w fun e w' => e = .returned (.int .i64 l) ∧ w = w' := by
  by_cases h : ∃ k : Nat, k ≤ 11 ∧ n = 2 ^ k
  · obtain ⟨k, hk, e⟩ := h
    refine ⟨k, by omega, by omega, fun k' hk' e' => ?_, fun h => absurd e (h k hk), fun w => flevel_pow k n hk e w⟩
    rw [e] at e'
    have : k = k' := (Nat.pow_right_inj (by decide)).1 e'
    omega
  · refine ⟨-1, by omega, by omega, fun k hk e => absurd ⟨k, hk, e⟩ h, fun _ => rfl, fun w => (flevel n w (by omega)).mono ?_⟩
    rintro e w' (⟨k, k1, k2, -, -⟩ | ⟨k1, rfl, rfl⟩)
    · exact absurd ⟨k, k1, k2⟩ h
    · exact ⟨rfl, rfl⟩
theorem fits_any (n h : Nat) (hn : n ≤ 4096) (hh : h ≤ 4096) : ∃ f : Bool, (f = true ↔ FitP n h) ∧ ∀ w, Calls Tabg.prog 146 #[.int .i64 n, .int .i64 h] w fun e w' => e = .returned (.bool f) ∧ w = w' := by
  by_cases hf : FitP n h
  · refine ⟨true, by simp [hf], fun w => ?_⟩
    rcases hf with ⟨k, k1, k2, k3, k4⟩ | ⟨rfl, rfl⟩
    · exact fits_k k n h k1 k2 k3 k4 w
    · exact fits_one w
  · exact ⟨false, by simp [hf], fun w => fits_no n h hn hh hf w⟩

set_option maxRecDepth 100000 in
set_option maxHeartbeats 800000 in
/-- Stage that does nothing. -/
theorem stage_no (a a' : Option Addr) (n h c c' t : Nat) (w : World) (hn : n ≤ 2048) (hh : h ≤ 2048) (ht : t < 256) (hno : ¬ ∃ k : Nat, 1 ≤ k ∧ k ≤ 11 ∧ n = 2 ^ k ∧ n = 2 * h ∧ 1 ≤ t ∧ t ≤ k) :
    Calls Tabg.prog 104 #[.slice a n c, .slice a' h c', .int .u8 t] w fun e w' => e = .returned (.tuple #[]) ∧ w = w' := by
  obtain ⟨l, l1, l2, l3, l4, cl⟩ := flevel_some n (by omega)
  obtain ⟨f, hf, cf⟩ := fits_any n h (by omega) (by omega)
  have CL : Hid (∀ w, Calls Tabg.prog 145 #[.int .i64 n] w fun e w' => e = .returned (.int .i64 l) ∧ w = w') := cl
  have CF : Hid (∀ w, Calls Tabg.prog 146 #[.int .i64 n, .int .i64 h] w fun e w' => e = .returned (.bool f) ∧ w = w') := cf
  have t255 : (t : Int) ≤ 255 := by omega
  have t0 : (0 : Int) ≤ (t : Int) := by omega
  cases f
  · clear cl cf hf l3 l4 hno
    go_enter Tabg.func104, Tabg.ntmps104
    go_wp2_with (first | (go_at_call 145; refine (CL.out _).mono ?_; rintro e w' ⟨rfl, rfl⟩) | (go_at_call 146; refine (CF.out _).mono ?_; rintro e w' ⟨rfl, rfl⟩))
    refine bodyPost_ret (results_none rfl _ _ _) rfl ?_
    exact ⟨rfl, rfl⟩
  · have hF := hf.1 rfl
    by_cases h1 : t < 1
    · obtain rfl : t = 0 := by omega
      clear cl cf hf l3 l4 hno hF
      go_enter Tabg.func104, Tabg.ntmps104
      go_wp2_with (first | (go_at_call 145; refine (CL.out _).mono ?_; rintro e w' ⟨rfl, rfl⟩) | (go_at_call 146; refine (CF.out _).mono ?_; rintro e w' ⟨rfl, rfl⟩))
      refine bodyPost_ret (results_none rfl _ _ _) rfl ?_
      exact ⟨rfl, rfl⟩
    · have hlt : l < (t : Int) := by
        rcases hF with ⟨k, k1, k2, k3, k4⟩ | ⟨k1, k2⟩
        · have hl := l3 k k2 k3
          have : ¬ t ≤ k := fun hc => hno ⟨k, k1, k2, k3, k4, by omega, hc⟩
          omega
        · have hl := l3 0 (by decide) (by rw [k1])
          omega
      have hlt' : decide (l < (t : Int)) = true := decide_eq_true hlt
      have h1' : decide ((t : Int) < 1) = false := decide_eq_false (by omega)
      have h1'' : decide (t = 0) = false := decide_eq_false (by omega)
      have t1 : (1 : Int) ≤ (t : Int) := by omega
      clear cl cf hf l3 l4 hno hF h1
      go_enter Tabg.func104, Tabg.ntmps104
      go_wp2_with (first | (go_at_call 145; refine (CL.out _).mono ?_; rintro e w' ⟨rfl, rfl⟩) | (go_at_call 146; refine (CF.out _).mono ?_; rintro e w' ⟨rfl, rfl⟩))
      refine bodyPost_ret (results_none rfl _ _ _) rfl ?_
      exact ⟨rfl, rfl⟩
end Go.Proofs.Ygctab
