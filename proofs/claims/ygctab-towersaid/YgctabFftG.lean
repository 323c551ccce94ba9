import Derived.Test.YgctabFftF
namespace Go.Proofs.Ygctab
open Go.RowKit
set_option linter.unusedVariables false
set_option linter.unusedSimpArgs false

/-- A double with its sign turned. -/
def negF (p : Nat) : Nat := Op.negFloat .f64 p
theorem run_negF {P : Program} (p : Nat) (w : World) : (Op.unary .neg (.float .f64 p)).run P w = .ok (.float .f64 (negF p)) w := by
  rfl
set_option maxRecDepth 100000 in
theorem conj_any (a b : Nat) (w : World) : Calls Tabg.prog 149 #[.complex .f64 a b] w fun e w' => e = .returned (.complex .f64 a (negF b)) ∧ w = w' := by
  have r := fun p w => run_negF (P := Tabg.prog) p w
  go_enter Tabg.func149, Tabg.ntmps149
  go_wp2
  go_ret
  exact ⟨rfl, rfl⟩

def conjL (zs : List (Nat × Nat)) : List (Nat × Nat) := zs.map fun z => (z.1, negF z.2)
theorem conjL_length (zs : List (Nat × Nat)) : (conjL zs).length = zs.length := by simp [conjL]
theorem conjL_at {zs : List (Nat × Nat)} {i : Nat} (h : i < zs.length) : (conjL zs)[i]? = some ((zat zs i).1, negF (zat zs i).2) := by
  simp [conjL, zat, List.getElem?_eq_getElem h]

set_option maxRecDepth 100000 in
set_option maxHeartbeats 1600000 in
theorem conjTable_any (a : Option Addr) (n c : Nat) (zs : List (Nat × Nat)) (w : World) (h : RdC w a n zs) (hn : n ≤ 4096) :
    Calls Tabg.prog 113 #[.slice a n c] w fun e w' => e = .returned (.slice (some ⟨w.heap.size, 0, none⟩) n n) ∧ Up w w' ∧ Own w' w.heap.size 27 (cxs (conjL zs)) := by
  obtain ⟨rfl, hat⟩ := h
  have hmk := fun w => run_make_row' (P := Tabg.prog) 71 27 (.complex .f64 0 0) 16 Tabg.underlying71 (by kernel_rfl) rfl .i64 .i64 zs.length (by omega) (by omega) w
  have hO := Own.made w 27 (.complex .f64 0 0) zs.length
  rw [cxs_replicate] at hO
  have r := fun p w => run_negF (P := Tabg.prog) p w
  have HZ : Hid (∀ i, i < zs.length → (conjL zs)[i]? = some ((zat zs i).1, negF (zat zs i).2)) := fun i hi => conjL_at hi
  have HL : Hid ((conjL zs).length = zs.length) := conjL_length zs
  have HO : Hid (Own (w.alloc (.cells (madeCells #[.complex .f64 0 0] zs.length) 27)) w.heap.size 27 (cxs (List.replicate zs.length (0, 0)))) := hO
  have hmI : (zs.length : Int) ≤ 4096 := by omega
  have HAT : Hid (∀ i, i < zs.length → ∃ b off, a = some ⟨b, off, none⟩ ∧ w.cell? ⟨b, off + i, none⟩ = some (.complex .f64 (zat zs i).1 (zat zs i).2)) := hat
  clear hO hat
  generalize hcs : conjL zs = cs at *
  clear hcs
  go_enter Tabg.func113, Tabg.ntmps113
  go_wp2
  go_loopw [4] (fun t wr => ∃ i : Nat, t = .int .i64 i ∧ i ≤ zs.length ∧ Up w wr ∧ Hid (Own wr w.heap.size 27 (cxs (cs.take i ++ List.replicate (cs.length - i) (0, 0))))) (fun t _ => zs.length - (intOf t).toNat)
  case atStart => exact ⟨0, rfl, by omega, (Up.refl w).alloc _, by show Own _ _ _ _; rw [List.take_zero, List.nil_append, HL.out]; exact HO.out⟩
  case round =>
    clear hmk HO
    obtain ⟨i, rfl, hi, hU, ho⟩ := hrel
    by_cases hlt : i < zs.length
    · obtain ⟨b, off, rfl, hc0⟩ := HAT.out i hlt
      replace hc0 := hU.cell hc0
      have hst := fill_cx cs i (by rw [HL.out]; exact hlt) _ _ (HZ.out i hlt)
      have HS : Hid ((cs.take i ++ List.replicate (cs.length - i) (0, 0)).set i ((zat zs i).1, negF (zat zs i).2) = cs.take (i + 1) ++ List.replicate (cs.length - (i + 1)) (0, 0)) := hst
      clear hst
      have hll : (cs.take i ++ List.replicate (cs.length - i) ((0, 0) : Nat × Nat)).length = zs.length := by simp; rw [HL.out]; omega
      have cz := Own.cx (ho.out) (i := i) (by rw [hll]; exact hlt)
      have fz := Own.free ho.out i
      generalize zat (cs.take i ++ List.replicate (cs.length - i) (0, 0)) i = old at *
      generalize zat zs i = z at *
      obtain ⟨z1, z2⟩ := z
      have i0 : (0 : Int) ≤ (i : Int) := by omega
      have im : (i : Int) < (zs.length : Int) := by omega
      clear hll
      go_wp2
      go_region
      all_goals go_wp2
      all_goals go_roundw
      all_goals first
        | (simp [intOf]; omega)
        | (refine ⟨i + 1, by go_num, by omega, ?_, ?_⟩
           · first | exact (hU.setCell (Nat.le_refl _) _).drew | exact hU.drew.setCell (Nat.le_refl _) _
           · show Own _ _ _ _
             rw [← HS.out]
             first | exact Own.drew (Own.setCx ho.out i _ _) | exact Own.setCx (Own.drew ho.out) i _ _)
    · go_wp2
      go_ret
      obtain rfl : i = zs.length := by omega
      refine ⟨rfl, hU, ?_⟩
      have h1 := ho.out
      rw [← HL.out, List.take_of_length_le (Nat.le_refl _), Nat.sub_self, List.replicate_zero, List.append_nil] at h1
      exact h1
end Go.Proofs.Ygctab
