import Derived.Test.YgctabTowD
namespace Go.Proofs.Ygctab
open Go.RowKit
set_option linter.unusedVariables false
set_option linter.unusedSimpArgs false

set_option maxRecDepth 100000 in
theorem sameOut_yes (a a' : Option Addr) (n c c' : Nat) (os : List Int) (w : World) (h : RdI .i8 w a n os) (h' : RdI .i8 w a' n os) (hn : n ≤ 4611686018427387904) :
    Calls Tabg.prog 137 #[.slice a n c, .slice a' n c'] w fun e w' => e = .returned (.bool true) ∧ Up w w' := by
  have HA : Hid (∀ i, i < n → ∃ b off, a = some ⟨b, off, none⟩ ∧ w.cell? ⟨b, off + i, none⟩ = some (.int .i8 (os[i]?.getD 0))) := fun i hi => h.2 i (by rw [← h.1]; exact hi)
  have HB : Hid (∀ i, i < n → ∃ b off, a' = some ⟨b, off, none⟩ ∧ w.cell? ⟨b, off + i, none⟩ = some (.int .i8 (os[i]?.getD 0))) := fun i hi => h'.2 i (by rw [← h'.1]; exact hi)
  clear h h'
  go_enter Tabg.func137, Tabg.ntmps137
  go_wp2
  go_loopw [5] (fun u wr => ∃ i : Nat, u = .int .i64 i ∧ i ≤ n ∧ Hid (Up w wr)) (fun u _ => n - (intOf u).toNat)
  case atStart => exact ⟨0, rfl, by omega, Up.refl _⟩
  case round =>
    obtain ⟨i, rfl, hi, HU⟩ := hrel
    by_cases hlt : i < n
    · obtain ⟨b, off, rfl, hc⟩ := HA.out i hlt
      obtain ⟨b', off', rfl, hc'⟩ := HB.out i hlt
      replace hc := (HU.out).cell hc
      replace hc' := (HU.out).cell hc'
      generalize os[i]?.getD 0 = d at *
      clear HA HB
      have i0 : (0 : Int) ≤ (i : Int) := by omega
      have im : (i : Int) < (n : Int) := by omega
      go_wp2
      go_quiet (fail)
      go_wp2
      go_roundw
      case rel => exact ⟨i + 1, by go_num, by omega, (HU.out).drewN _⟩
      case measure => simp [intOf]; omega
    · obtain rfl : n = i := by omega
      clear HA HB
      go_wp2
      go_ret
      exact ⟨rfl, HU.out⟩
end Go.Proofs.Ygctab
