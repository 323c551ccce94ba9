import Derived.Test.YgctabCxB
import Derived.Test.YgctabGrowB
namespace Go.Proofs.Ygctab
open Go.RowKit
set_option linter.unusedVariables false
set_option linter.unusedSimpArgs false

@[go_sem] theorem run_store_cx {P : Program} {w : World} {a : Addr} {m : Mode} (p q : Nat) : (store a (.complex .f64 p q) m).run P w = stored P w a (.complex .f64 p q) m := run_store P w a _ m rfl

/-- Words in pairs. -/
def pairL (ps : List Nat) : List (Nat × Nat) := (List.range (ps.length / 2)).map fun i => (ps[2 * i]?.getD 0, ps[2 * i + 1]?.getD 0)
theorem pairL_length (ps : List Nat) : (pairL ps).length = ps.length / 2 := by simp [pairL]
theorem pairL_at {ps : List Nat} {i : Nat} (h : i < ps.length / 2) : (pairL ps)[i]? = some (ps[2 * i]?.getD 0, ps[2 * i + 1]?.getD 0) := by
  simp [pairL, List.getElem?_map, List.getElem?_range h]
theorem fill_cx (zs : List (Nat × Nat)) (i : Nat) (h : i < zs.length) (p q : Nat) (hz : zs[i]? = some (p, q)) :
    (zs.take i ++ List.replicate (zs.length - i) (0, 0)).set i (p, q) = zs.take (i + 1) ++ List.replicate (zs.length - (i + 1)) (0, 0) := by
  have hl : (zs.take i).length = i := by simp; omega
  rw [List.set_append, if_neg (by omega), hl, Nat.sub_self, show zs.length - i = (zs.length - (i + 1)) + 1 by omega, List.replicate_succ, List.set_cons_zero, List.take_add_one, hz]
  simp

set_option maxRecDepth 100000 in
set_option maxHeartbeats 1600000 in
theorem pairs_any (a : Option Addr) (n c : Nat) (ps : List Nat) (w : World) (h : RdU w a n c ps) (hn : n ≤ 35184372088832) :
    Calls Tabg.prog 45 #[.slice a n c] w fun e w' => e = .returned (.slice (some ⟨w.heap.size, 0, none⟩) (pairL ps).length (pairL ps).length) ∧ Up w w' ∧ Own w' w.heap.size 27 (cxs (pairL ps)) := by
  have hat := h.at
  have hnl := h.1
  obtain ⟨m, hm⟩ : ∃ m, m = ps.length / 2 := ⟨_, rfl⟩
  have hml := pairL_length ps
  rw [← hm] at hml
  have hmk := fun w => run_make_row' (P := Tabg.prog) 71 27 (.complex .f64 0 0) 16 Tabg.underlying71 (by kernel_rfl) rfl .i64 .i64 m (by omega) (by omega) w
  have hO := Own.made w 27 (.complex .f64 0 0) m
  rw [cxs_replicate] at hO
  have hdiv : (n : Int) / 2 = (m : Int) := by omega
  have HZ : Hid (∀ i, i < m → (pairL ps)[i]? = some (ps[2 * i]?.getD 0, ps[2 * i + 1]?.getD 0)) := fun i hi => pairL_at (by omega)
  have HL : Hid ((pairL ps).length = m) := hml
  have HO : Hid (Own (w.alloc (.cells (madeCells #[.complex .f64 0 0] m) 27)) w.heap.size 27 (cxs (List.replicate m (0, 0)))) := hO
  have hmI : (m : Int) ≤ 35184372088832 := by omega
  have HAT : Hid (∀ i, i < ps.length → ∃ b off, a = some ⟨b, off, none⟩ ∧ w.cell? ⟨b, off + i, none⟩ = some (.int .u64 ((ps[i]?.getD 0 : Nat) : Int))) := hat
  have HNL : Hid (n = ps.length ∧ 2 * m ≤ ps.length) := ⟨hnl, by omega⟩
  clear h hO hat hnl hm hml
  rw [HL.out]
  generalize hzs : pairL ps = zs at *
  clear hzs
  go_enter Tabg.func45, Tabg.ntmps45
  go_wp2
  go_loopw [4] (fun t wr => ∃ i : Nat, t = .int .i64 i ∧ i ≤ m ∧ Up w wr ∧ Hid (Own wr w.heap.size 27 (cxs (zs.take i ++ List.replicate (zs.length - i) (0, 0))))) (fun t _ => m - (intOf t).toNat)
  case atStart => exact ⟨0, rfl, by omega, (Up.refl w).alloc _, by show Own _ _ _ _; rw [List.take_zero, List.nil_append, HL.out]; exact HO.out⟩
  case round =>
    clear hmk HO
    obtain ⟨i, rfl, hi, hU, ho⟩ := hrel
    by_cases hlt : i < m
    · obtain ⟨b, off, rfl, hc0⟩ := HAT.out (2 * i) (by have := HNL.out; omega)
      obtain ⟨b', off', e', hc1⟩ := HAT.out (2 * i + 1) (by have := HNL.out; omega)
      cases e'
      replace hc0 := hU.cell hc0
      replace hc1 := hU.cell hc1
      have hst := fill_cx zs i (by rw [HL.out]; exact hlt) _ _ (HZ.out i hlt)
      have HS : Hid ((zs.take i ++ List.replicate (zs.length - i) (0, 0)).set i (ps[2 * i]?.getD 0, ps[2 * i + 1]?.getD 0) = zs.take (i + 1) ++ List.replicate (zs.length - (i + 1)) (0, 0)) := hst
      clear hst
      generalize ps[2 * i]?.getD 0 = p at *
      generalize ps[2 * i + 1]?.getD 0 = q at *
      have hll : (zs.take i ++ List.replicate (zs.length - i) ((0, 0) : Nat × Nat)).length = m := by simp; rw [HL.out]; omega
      have cz := Own.cx (ho.out) (i := i) (by rw [hll]; exact hlt)
      have fz := Own.free ho.out i
      generalize zat (zs.take i ++ List.replicate (zs.length - i) (0, 0)) i = old at *
      have w1 : IntKind.i64.wrap (2 * (i : Int)) = ((2 * i : Nat) : Int) := by rw [IntKind.wrap_i64]; omega
      have w2 : IntKind.i64.wrap (((2 * i : Nat) : Int) + 1) = ((2 * i + 1 : Nat) : Int) := by rw [IntKind.wrap_i64]; omega
      obtain ⟨j, hj⟩ : ∃ j, j = 2 * i := ⟨_, rfl⟩
      rw [← hj] at w1 w2 hc0 hc1
      obtain ⟨j1, hj1⟩ : ∃ j1, j1 = j + 1 := ⟨_, rfl⟩
      rw [← hj1] at w2 hc1
      have j0 : (0 : Int) ≤ (j : Int) := by omega
      have jn : (j : Int) < (n : Int) := by have := HNL.out; omega
      have k0 : (0 : Int) ≤ (j1 : Int) := by omega
      have kn : (j1 : Int) < (n : Int) := by have := HNL.out; omega
      have i0 : (0 : Int) ≤ (i : Int) := by omega
      have im : (i : Int) < (m : Int) := by omega
      clear hj hj1 hll
      go_wp2
      go_region_with (first | (go_at_call 14; refine (f64_any _ _).mono ?_; rintro e w' ⟨rfl, rfl⟩))
      all_goals go_wp2
      all_goals go_roundw
      all_goals first
        | (simp [intOf]; omega)
        | (refine ⟨i + 1, by go_num, by omega, (hU.setCell (Nat.le_refl _) _).drew, ?_⟩
           show Own _ _ _ _
           rw [← HS.out]
           exact Own.drew (Own.setCx ho.out i p q))
    · go_wp2
      go_ret
      obtain rfl : i = m := by omega
      refine ⟨rfl, hU, ?_⟩
      have h1 := ho.out
      rw [← HL.out, List.take_of_length_le (Nat.le_refl _), Nat.sub_self, List.replicate_zero, List.append_nil] at h1
      exact h1
end Go.Proofs.Ygctab
