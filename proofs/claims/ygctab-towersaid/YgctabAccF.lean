import Derived.Test.YgctabAccE
namespace Go.Proofs.Ygctab
open Go.RowKit
set_option linter.unusedVariables false

def fneg (p : Nat) : Bool := (splitF p).1
def fman (p : Nat) : Nat := (splitF p).2.1
def fexp (p : Nat) : Int := (splitF p).2.2.1
def fcls (p : Nat) : Nat := (splitF p).2.2.2
/-- A finite float as a whole number of 2^-1074. -/
def fval (p : Nat) : Int := (if fneg p then -1 else 1) * ((fman p : Int) * 2 ^ (fexp p + 1074).toNat)

theorem fman_lt (p : Nat) : fman p < 9007199254740992 := by
  unfold fman splitF
  have : frc p < 4503599627370496 := by unfold frc; omega
  split
  · split <;> simp
  · split
    · split <;> simp <;> omega
    · simp; omega
theorem fexp_range (p : Nat) : -1074 ≤ fexp p ∧ fexp p ≤ 971 := by
  unfold fexp splitF
  have : fld p < 2048 := by unfold fld; omega
  split
  · split <;> simp
  · split
    · split <;> simp
    · simp; omega

set_option maxRecDepth 100000 in
set_option maxHeartbeats 800000 in
theorem addFloat_yes (b p : Nat) (hp : p < 18446744073709551616) (hc : fcls p ≤ 1) (xs : List Int) (w : World) (h : AccAt w b xs) :
    Calls Tabg.prog 27 #[.pointer (some ⟨b, 0, none⟩), .float .f64 p] w fun e w' => e = .returned (.bool true) ∧ Mod b w w' ∧ ∃ ys, AccAt w' b ys ∧ num ys = (num xs + fval p * 2 ^ 1074) % W ^ 68 := by
  have cS : ∀ w, Calls Tabg.prog 90 #[.float .f64 p] w fun e w' => e = .returned (.tuple #[.bool (fneg p), .int .u64 (fman p), .int .i16 (fexp p), .int .u8 (fcls p)]) ∧ w = w' := split64_any p hp
  have hm := fman_lt p
  have he := fexp_range p
  obtain ⟨i, hi⟩ : ∃ i : Nat, (i : Int) = fexp p + 2148 := ⟨(fexp p + 2148).toNat, by omega⟩
  have hil : i < 4160 := by omega
  have hcI : (fcls p : Int) ≤ 1 := by omega
  have hc0 : (0 : Int) ≤ (fcls p : Int) := by omega
  have hpow : (2 : Int) ^ i = 2 ^ (fexp p + 1074).toNat * 2 ^ 1074 := by
    rw [← Int.pow_add]; congr 1; omega
  have HV : Hid (fval p * 2 ^ 1074 = (if fneg p then -1 else 1) * ((fman p : Int) * 2 ^ i)) := by
    show _ = _
    rw [fval, hpow, Int.mul_assoc, Int.mul_assoc]
  have hie : fexp p + 2148 = (i : Int) := hi.symm
  clear hpow hi
  generalize fval p * 2 ^ 1074 = V at *
  cases hn : fneg p
  · rw [hn] at cS
    have HV' := HV.out
    rw [hn] at HV'
    simp only [Bool.false_eq_true, if_false, Int.one_mul] at HV'
    have cP := place_plus b 0 (fman p) i xs w h (by decide) (by omega) hil
    have eV : ((0 : Nat) : Int) * W + (fman p : Int) = (fman p : Int) := by simp
    rw [eV, ← HV'] at cP
    clear HV HV' eV hn
    generalize fman p = m at *
    generalize fexp p = ex at *
    generalize fcls p = cl at *
    go_enter Tabg.func27, Tabg.ntmps27
    go_wp2_with (first | (go_at_call 90; refine (cS _).mono ?_; rintro e w' ⟨rfl, rfl⟩) | (go_at_call 98; refine cP.mono ?_; rintro e w' ⟨rfl, hM, ys, hA, hN⟩))
    go_ret
    exact ⟨rfl, hM, ys, hA, hN⟩
  · rw [hn] at cS
    have HV' := HV.out
    rw [hn] at HV'
    simp only [if_true] at HV'
    have cP := place_minus b 0 (fman p) i xs w h (by decide) (by omega) hil
    have eV : num xs - (((0 : Nat) : Int) * W + (fman p : Int)) * 2 ^ i = num xs + V := by
      rw [HV', Int.neg_mul, Int.one_mul, show ((0 : Nat) : Int) * W + (fman p : Int) = (fman p : Int) by simp]; rfl
    rw [eV] at cP
    clear HV HV' eV hn
    generalize fman p = m at *
    generalize fexp p = ex at *
    generalize fcls p = cl at *
    go_enter Tabg.func27, Tabg.ntmps27
    go_wp2_with (first | (go_at_call 90; refine (cS _).mono ?_; rintro e w' ⟨rfl, rfl⟩) | (go_at_call 98; refine cP.mono ?_; rintro e w' ⟨rfl, hM, ys, hA, hN⟩))
    go_ret
    exact ⟨rfl, hM, ys, hA, hN⟩

set_option maxRecDepth 100000 in
set_option maxHeartbeats 800000 in
theorem addFloat_no (b p : Nat) (hp : p < 18446744073709551616) (hc : 1 < fcls p) (w : World) :
    Calls Tabg.prog 27 #[.pointer (some ⟨b, 0, none⟩), .float .f64 p] w fun e w' => e = .returned (.bool false) ∧ w = w' := by
  have cS : ∀ w, Calls Tabg.prog 90 #[.float .f64 p] w fun e w' => e = .returned (.tuple #[.bool (fneg p), .int .u64 (fman p), .int .i16 (fexp p), .int .u8 (fcls p)]) ∧ w = w' := split64_any p hp
  have hcI : (1 : Int) < (fcls p : Int) := by omega
  generalize fman p = m at *
  generalize fexp p = ex at *
  generalize fcls p = cl at *
  go_enter Tabg.func27, Tabg.ntmps27
  go_wp2_with (go_at_call 90; refine (cS _).mono ?_; rintro e w' ⟨rfl, rfl⟩)
  go_ret
  exact ⟨rfl, rfl⟩

/-! ### ends, atMost, finite: the law's own helpers -/
end Go.Proofs.Ygctab
