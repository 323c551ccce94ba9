import Derived.Test.YgctabAccH
namespace Go.Proofs.Ygctab
open Go.RowKit
set_option linter.unusedVariables false
set_option linter.unusedSimpArgs false

theorem rowI_getD (xs : List Nat) (i : Nat) : (nints xs)[i]?.getD 0 = ((xs[i]?.getD 0 : Nat) : Int) := nints_at xs i

/-- Words of a uint64 row. -/
def wds (ps : List Nat) : List Value := ps.map (fun p : Nat => Value.int .u64 (p : Int))
theorem wds_length (ps : List Nat) : (wds ps).length = ps.length := by simp [wds]
theorem wds_at {ps : List Nat} {i : Nat} (h : i < ps.length) : (wds ps)[i]? = some (.int .u64 ((ps[i]?.getD 0 : Nat) : Int)) := by simp [wds, List.getElem?_eq_getElem h]
theorem wds_set (ps : List Nat) (i x : Nat) : (wds ps).set i (.int .u64 (x : Int)) = wds (ps.set i x) := by simp [wds, List.map_set]
theorem wds_replicate (n : Nat) : List.replicate n (Value.int .u64 0) = wds (List.replicate n 0) := by simp [wds]
theorem Own.wd {w : World} {b : Nat} {T : TypeId} {ps : List Nat} (h : Own w b T (wds ps)) {i : Nat} (hi : i < ps.length) : w.cell? ⟨b, i, none⟩ = some (.int .u64 ((ps[i]?.getD 0 : Nat) : Int)) := by rw [h.cell, wds_at hi]

set_option maxRecDepth 100000 in
set_option maxHeartbeats 800000 in
theorem unread_any (a : Option Addr) (n c : Nat) (ps : List Nat) (w : World) (h : RdF w a n ps) (hn : n ≤ 4096) :
    Calls Tabg.prog 42 #[.slice a n c] w fun e w' => e = .returned (.slice (some ⟨w.heap.size, 0, none⟩) ps.length ps.length) ∧ Up w w' ∧ Own w' w.heap.size 26 (wds ps) := by
  obtain ⟨rfl, h⟩ := h
  have hmk := fun w => run_make_spare (P := Tabg.prog) 57 26 (.int .u64 0) 8 Tabg.underlying57 info26 rfl .i64 .i64 ps.length ps.length (by omega) (by omega) (by omega) w
  have hO := Own.made w 26 (.int .u64 0) ps.length
  rw [wds_replicate] at hO
  have hcI : (ps.length : Int) ≤ 4096 := by omega
  go_enter Tabg.func42, Tabg.ntmps42
  go_wp2
  go_loopw [4] (fun t wr => ∃ i : Nat, t = .int .i64 i ∧ i ≤ ps.length ∧ Up w wr ∧ Own wr w.heap.size 26 (wds (ps.take i ++ List.replicate (ps.length - i) 0))) (fun t _ => ps.length - (intOf t).toNat)
  case atStart => exact ⟨0, rfl, by omega, (Up.refl w).alloc _, hO⟩
  case round =>
    clear hO hmk
    obtain ⟨i, rfl, hi, hU, ho⟩ := hrel
    by_cases hlt : i < ps.length
    · obtain ⟨b, off, rfl, hc⟩ := h i hlt
      have c0 := hU.cell hc
      have hll : (ps.take i ++ List.replicate (ps.length - i) 0).length = ps.length := by simp; omega
      have c1 : wr.cell? ⟨w.heap.size, i, none⟩ = some (.int .u64 (((ps.take i ++ List.replicate (ps.length - i) 0)[i]?.getD 0 : Nat) : Int)) := ho.wd (by omega)
      have f1 := ho.free i
      have hst := fill_next ps 0 i ps.length hlt (by omega) (ps[i]?.getD 0) (by rw [List.getElem?_eq_getElem hlt]; rfl)
      have HS : Hid ((ps.take i ++ List.replicate (ps.length - i) 0).set i (ps[i]?.getD 0) = ps.take (i + 1) ++ List.replicate (ps.length - (i + 1)) 0) := hst
      clear hst hll
      generalize ps[i]?.getD 0 = p at *
      generalize (ps.take i ++ List.replicate (ps.length - i) 0)[i]?.getD 0 = old at *
      have cF := b64_any p
      go_wp2_with (go_at_call 44; refine (cF _).mono ?_; rintro e w' ⟨rfl, rfl⟩)
      go_roundw
      case rel =>
        refine ⟨i + 1, by go_num, by omega, hU.setCell (Nat.le_refl _) _, ?_⟩
        rw [← HS.out, ← wds_set]
        exact ho.set i _
      case measure => simp [intOf]; omega
    · go_wp2
      go_ret
      obtain rfl : i = ps.length := by omega
      refine ⟨rfl, hU, ?_⟩
      rw [List.take_of_length_le (Nat.le_refl _), Nat.sub_self, List.replicate_zero, List.append_nil] at ho
      exact ho

set_option maxRecDepth 100000 in
set_option maxHeartbeats 800000 in
/-- sameBits of floats and the patterns they are. -/
theorem sameBits_yes (a a' : Option Addr) (n c c' : Nat) (ps : List Nat) (w : World) (h : RdF w a n ps) (hn : n ≤ 4096)
    (h' : ∀ i, i < ps.length → ∃ b off, a' = some ⟨b, off, none⟩ ∧ w.cell? ⟨b, off + i, none⟩ = some (.int .u64 ((ps[i]?.getD 0 : Nat) : Int))) :
    Calls Tabg.prog 43 #[.slice a n c, .slice a' n c'] w fun e w' => e = .returned (.bool true) ∧ Up w w' := by
  obtain ⟨rfl, h⟩ := h
  have hcI : (ps.length : Int) ≤ 4096 := by omega
  go_enter Tabg.func43, Tabg.ntmps43
  go_wp2
  go_loopw [5] (fun t wr => ∃ i : Nat, t = .int .i64 i ∧ i ≤ ps.length ∧ Up w wr) (fun t _ => ps.length - (intOf t).toNat)
  case atStart => exact ⟨0, rfl, by omega, Up.refl w⟩
  case round =>
    obtain ⟨i, rfl, hi, hU⟩ := hrel
    by_cases hlt : i < ps.length
    · obtain ⟨b, off, rfl, hc⟩ := h i hlt
      obtain ⟨b', off', rfl, hc'⟩ := h' i hlt
      replace hc := hU.cell hc
      replace hc' := hU.cell hc'
      generalize ps[i]?.getD 0 = p at *
      have cF := b64_any p
      have hltI : (i : Int) < ps.length := by omega
      go_wp2
      go_region_held3 (fun w' => w'.cell? ⟨b, off + i, none⟩ = some (.float .f64 p) ∧ w'.cell? ⟨b', off' + i, none⟩ = some (.int .u64 (p : Int))) (simp [go_sem, *]) (first | (go_at_call 44; refine (cF _).mono ?_; rintro e w' ⟨rfl, rfl⟩))
      go_wp2
      go_roundw
      case rel => exact ⟨i + 1, by go_num, by omega, hU.drew⟩
      case measure => simp [intOf]; omega
    · go_wp2
      go_ret
      exact ⟨rfl, hU⟩
end Go.Proofs.Ygctab
