import Derived.Test.YgctabTowR
namespace Go.Proofs.Ygctab
open Go.RowKit
set_option linter.unusedVariables false
set_option linter.unusedSimpArgs false

set_option maxRecDepth 100000 in
set_option maxHeartbeats 1600000 in
theorem check_any {w0 w : World} {m : Nat} {ps : List (Nat × Nat)} {os : List Int} (h : MS w0 w m ps os) (hl : ps.length ≤ 16) (hd : ∀ p ∈ ps, (dig p.2).length ≤ 4096) :
    Calls Tabg.prog 157 #[.pointer (some ⟨m, 0, none⟩)] w fun e w' => e = .returned (.bool true) ∧ Up w w' := by
  obtain ⟨hU, vS, vO, hM⟩ := h
  obtain ⟨a, c, hvS, hc, ha', ha'', hcell⟩ := ownsRow_slice hM.st
  have hc0 : w.cell? ⟨m, 0, none⟩ = some vS := by rw [hM.own.cell]; rfl
  have CS : Hid (∀ w', Up w w' → ∀ i, i < ps.length → (pat ps i).2 ≠ 0 → Calls Tabg.prog 174 #[vS, .int .i64 i] w' fun e w'' => e = .returned (.bool false) ∧ Up w' w'') := fun w' hu i hi hv => shares_no (hM.up hu) (by omega) i hi hv (hd _ (pat_mem hi))
  subst hvS
  obtain ⟨N, hN⟩ : ∃ N, N = ps.length := ⟨_, rfl⟩
  have HC : Hid (∀ j, j < N → ∃ b, a = some ⟨b, 0, none⟩ ∧ w.cell? ⟨b, j, none⟩ = some (entC (pat ps j))) := fun j hj => by
    obtain ⟨b', e, h1, _⟩ := hcell j (by omega)
    refine ⟨b', e, ?_⟩
    rw [h1]
    unfold pat
    rw [List.getElem?_map, List.getElem?_eq_getElem (by omega : j < ps.length)]
    rfl
  have HN : Hid (∀ j, j < N → Calls Tabg.prog 63 #[entC (pat ps j)] w fun e w' => e = .returned (.bool true) ∧ w = w') := fun j hj => by
    have hn := (hM.ent _ (pat_mem (show j < ps.length by omega))).ns
    have hb := hd _ (pat_mem (show j < ps.length by omega))
    have := Normal_any _ _ (dig (pat ps j).2).length _ w hn.1 (by omega) (fun ha => ⟨hn.nilc ha, hn.nilc ha⟩)
    rw [hn.nrmB] at this
    exact this
  have HA : Hid (∀ j, ∃ A LL, entC (pat ps j) = .slice A LL LL ∧ ((pat ps j).2 = 0 → A = none ∧ LL = 0) ∧ ((pat ps j).2 ≠ 0 → ∃ x, A = some ⟨x, 0, none⟩)) := fun j => by
    refine ⟨_, _, rfl, fun h0 => ?_, fun h0 => ?_⟩
    · rw [h0, dig_zero]
      exact ⟨rfl, rfl⟩
    · rw [nrmA_pos _ h0]
      exact ⟨_, rfl⟩
  rw [← hN] at hl CS hc0 hc
  have NI : (N : Int) ≤ 16 := by omega
  have NID : decide ((16 : Int) < (N : Int)) = false := decide_eq_false (by omega)
  clear hM hU hcell ha' ha'' hN hd
  go_enter Tabg.func157, Tabg.ntmps157
  go_wp2
  go_loopw [3] (fun t wr => ∃ i : Nat, t = .int .i64 i ∧ i ≤ N ∧ w = wr) (fun t _ => N - (intOf t).toNat)
  case atStart => exact ⟨0, rfl, by omega, rfl⟩
  case round =>
    obtain ⟨i, rfl, hi, rfl⟩ := hrel
    by_cases hlt : i < N
    · obtain ⟨b, rfl, cj⟩ := HC.out i hlt
      have CN := HN.out i hlt
      obtain ⟨A, LL, eA, -⟩ := HA.out i
      rw [eA] at cj CN
      have CN' : Hid (Calls Tabg.prog 63 #[.slice A LL LL] w fun e w' => e = .returned (.bool true) ∧ w = w') := CN
      have i0 : (0 : Int) ≤ (i : Int) := by omega
      have iN : (i : Int) < (N : Int) := by omega
      clear HC HN HA CN CS eA
      go_wp2_with (fail)
      refine (CN'.out).mono ?_
      rintro e w1 ⟨rfl, rfl⟩
      go_wp2
      go_roundw
      case rel => exact ⟨i + 1, by go_num, by omega, by first | rfl | trivial⟩
      case measure => simp [intOf]; omega
    · obtain rfl : i = N := by omega
      clear HN
      go_wp2
      go_loopw [4] (fun t wr => ∃ j : Nat, t = .int .i64 j ∧ j ≤ i ∧ Hid (Up w wr)) (fun t _ => i - (intOf t).toNat)
      case atStart => exact ⟨0, rfl, by omega, Up.refl _⟩
      case round =>
        obtain ⟨j, rfl, hj, HU⟩ := hrel
        replace hc0 := (HU.out).cell hc0
        by_cases hlj : j < i
        · obtain ⟨b, rfl, cj⟩ := HC.out j hlj
          replace cj := (HU.out).cell cj
          obtain ⟨A, LL, eA, q1, q2⟩ := HA.out j
          rw [eA] at cj
          have j0 : (0 : Int) ≤ (j : Int) := by omega
          have jN : (j : Int) < (i : Int) := by omega
          by_cases hz : (pat ps j).2 = 0
          · obtain ⟨rfl, rfl⟩ := q1 hz
            clear HC HA CS q1 q2 eA
            go_wp2
            go_roundw
            case rel => exact ⟨j + 1, by go_num, by omega, HU.out⟩
            case measure => simp [intOf]; omega
          · obtain ⟨x, rfl⟩ := q2 hz
            have CC := CS.out wr HU.out j hlj hz
            have CC' : Hid (Calls Tabg.prog 174 #[.slice (some ⟨b, 0, none⟩) i c, .int .i64 j] wr fun e w'' => e = .returned (.bool false) ∧ Up wr w'') := CC
            clear HC HA CS q1 q2 eA CC
            go_wp2_with (fail)
            refine (CC'.out).mono ?_
            rintro e w1 ⟨rfl, hu1⟩
            have HU1 : Hid (Up w w1) := (HU.out).trans hu1
            clear hu1
            go_wp2
            go_roundw
            case rel => exact ⟨j + 1, by go_num, by omega, HU1.out⟩
            case measure => simp [intOf]; omega
        · obtain rfl : j = i := by omega
          clear HC HA CS
          go_wp2
          go_ret
          exact ⟨rfl, HU.out⟩
end Go.Proofs.Ygctab
