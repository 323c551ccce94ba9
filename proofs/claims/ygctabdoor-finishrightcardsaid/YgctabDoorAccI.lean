import Derived.Test.YgctabDoorAccH
namespace Go.Proofs.YgctabDoor
open Go.RowKit
set_option linter.unusedVariables false
set_option linter.unusedSimpArgs false

theorem rowI_getD (xs : List Nat) (i : Nat) : (nints xs)[i]?.getD 0 = ((xs[i]?.getD 0 : Nat) : Int) := nints_at xs i

/-- Words of a uint64 row. -/
def wds (ps : List Nat) : List Value := ps.map (fun p : Nat => Value.int .u64 (p : Int))
theorem wds_length (ps : List Nat) : (wds ps).length = ps.length := by simp [wds]
theorem wds_at {ps : List Nat} {i : Nat} (h : i < ps.length) : (wds ps)[i]? = some (.int .u64 ((ps[i]?.getD 0 : Nat) : Int)) := by simp [wds, List.getElem?_eq_getElem h]
theorem wds_set (ps : List Nat) (i x : Nat) : (wds ps).set i (.int .u64 (x : Int)) = wds (ps.set i x) := by simp [wds, List.map_set]
theorem wds_replicate (n : Nat) : List.replicate n (Value.int .u64 0) = wds (List.replicate n 0) := by simp [wds]
theorem Own.wd {w : World} {b : Nat} {T : TypeId} {ps : List Nat} (h : Own w b T (wds ps)) {i : Nat} (hi : i < ps.length) : w.cell? ⟨b, i, none⟩ = some (.int .u64 ((ps[i]?.getD 0 : Nat) : Int)) := by rw [h.cell, wds_at hi]

set_option maxRecDepth 100000 in
set_option maxHeartbeats 800000 in
/-- sameBits of floats and the patterns they are. -/
theorem sameBits_yes (a a' : Option Addr) (n c c' : Nat) (ps : List Nat) (w : World) (h : RdF w a n ps) (hn : n ≤ 4096)
    (h' : ∀ i, i < ps.length → ∃ b off, a' = some ⟨b, off, none⟩ ∧ w.cell? ⟨b, off + i, none⟩ = some (.int .u64 ((ps[i]?.getD 0 : Nat) : Int))) :
    Calls Tabg.prog 10 #[.slice a n c, .slice a' n c'] w fun e w' => e = .returned (.bool true) ∧ Up w w' := by
  obtain ⟨rfl, h⟩ := h
  have hcI : (ps.length : Int) ≤ 4096 := by omega
  go_enter Tabg.func10, Tabg.ntmps10
  go_wp2
  go_loopw [5] (fun t wr => ∃ i : Nat, t = .int .i64 i ∧ i ≤ ps.length ∧ Up w wr) (fun t _ => ps.length - (intOf t).toNat)
  case atStart => exact ⟨0, rfl, by omega, Up.refl w⟩
  case round =>
    obtain ⟨i, rfl, hi, hU⟩ := hrel
    by_cases hlt : i < ps.length
    · obtain ⟨b, off, rfl, hc⟩ := h i hlt
      obtain ⟨b', off', rfl, hc'⟩ := h' i hlt
      replace hc := hU.cell hc
      replace hc' := hU.cell hc'
      generalize ps[i]?.getD 0 = p at *
      have cF := b64_any p
      have hltI : (i : Int) < ps.length := by omega
      go_wp2
      go_region_held3 (fun w' => w'.cell? ⟨b, off + i, none⟩ = some (.float .f64 p) ∧ w'.cell? ⟨b', off' + i, none⟩ = some (.int .u64 (p : Int))) (simp [go_sem, *]) (first | (go_at_call 16; refine (cF _).mono ?_; rintro e w' ⟨rfl, rfl⟩))
      go_wp2
      go_roundw
      case rel => exact ⟨i + 1, by go_num, by omega, hU.drew⟩
      case measure => simp [intOf]; omega
    · go_wp2
      go_ret
      exact ⟨rfl, hU⟩
end Go.Proofs.YgctabDoor
