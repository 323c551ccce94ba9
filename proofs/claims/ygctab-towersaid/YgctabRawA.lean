import Derived.Test.YgctabFftW
import Derived.Test.YgctabTwW
import Derived.Test.YgctabElems
namespace Go.Proofs.Ygctab
open Go.RowKit
set_option linter.unusedVariables false
set_option linter.unusedSimpArgs false

theorem ptL_take {n : Nat} {ds : List Nat} (h : ds.length ≤ n) : (ptL n ds).take ds.length ++ List.replicate ((ptL n ds).length - ds.length) (0, 0) = ptL n ds := by
  rw [ptL_length h]
  unfold ptL
  rw [List.take_append_of_le_length (by simp), List.take_of_length_le (by simp)]

set_option maxRecDepth 100000 in
set_option maxHeartbeats 800000 in
theorem points_any (a : Option Addr) (la c n : Nat) (ds : List Nat) (w : World) (h : RdB w a la ds) (hn : n ≤ 2048) (hl : la ≤ n) :
    Calls Tabg.prog 173 #[.slice a la c, .int .i64 n] w fun e w' => e = .returned (.slice (some ⟨w.heap.size, 0, none⟩) n n) ∧ Up w w' ∧ Own w' w.heap.size 27 (cxs (ptL n ds)) := by
  have hla := h.1
  have hmk := fun w => run_make_row' (P := Tabg.prog) 71 27 (.complex .f64 0 0) 16 Tabg.underlying71 (by kernel_rfl) rfl .i64 .i64 n (by omega) (by omega) w
  have hO := Own.made w 27 (.complex .f64 0 0) n
  rw [cxs_replicate] at hO
  have HO : Hid (Own (w.alloc (.cells (madeCells #[.complex .f64 0 0] n) 27)) w.heap.size 27 (cxs (List.replicate n (0, 0)))) := hO
  have HA : Hid (∀ i, i < la → ∃ b off, a = some ⟨b, off, none⟩ ∧ w.cell? ⟨b, off + i, none⟩ = some (.int .u8 ((ds[i]?.getD 0 : Nat) : Int))) := fun i hi => h.2.2 i (by omega)
  have HE : Hid ((ptL n ds).length = n ∧ (∀ i, i < la → (ptL n ds)[i]? = some (floatOfInt .f64 ((ds[i]?.getD 0 : Nat) : Int), 0)) ∧ (ptL n ds).take la ++ List.replicate ((ptL n ds).length - la) (0, 0) = ptL n ds) := ⟨ptL_length (by omega), fun i hi => ptL_at (by omega), by rw [hla]; exact ptL_take (by omega)⟩
  have HD : Hid (Digs ds) := h.2.1
  generalize ptL n ds = E at *
  have nI : (n : Int) ≤ 2048 := by omega
  have lI : (la : Int) ≤ (n : Int) := by omega
  clear h hO hla
  go_enter Tabg.func173, Tabg.ntmps173
  go_wp2_with (fail)
  go_loopw [6] (fun t wr => ∃ i : Nat, t = .int .i64 i ∧ i ≤ la ∧ Hid (Up w wr) ∧ Hid (Own wr w.heap.size 27 (cxs (E.take i ++ List.replicate (E.length - i) (0, 0))))) (fun t _ => la - (intOf t).toNat)
  case atStart => exact ⟨0, rfl, by omega, (Up.refl w).alloc _, by show Own _ _ _ _; rw [List.take_zero, List.nil_append, HE.out.1]; exact HO.out⟩
  case round =>
    obtain ⟨i, rfl, hi, HU, HW⟩ := hrel
    clear hmk HO
    by_cases hlt : i < la
    · obtain ⟨b, off, rfl, k1⟩ := HA.out i hlt
      replace k1 := (HU.out).cell k1
      have hll : (E.take i ++ List.replicate (E.length - i) (0, 0)).length = n := by simp; rw [HE.out.1]; omega
      have cz := Own.cx HW.out (i := i) (by rw [hll]; omega)
      have fz := Own.free HW.out i
      generalize zat (E.take i ++ List.replicate (E.length - i) (0, 0)) i = old at *
      have HS : Hid ((E.take i ++ List.replicate (E.length - i) (0, 0)).set i (floatOfInt .f64 ((ds[i]?.getD 0 : Nat) : Int), 0) = E.take (i + 1) ++ List.replicate (E.length - (i + 1)) (0, 0)) := fillG E (0, 0) i (by rw [HE.out.1]; omega) _ (HE.out.2.1 i hlt)
      generalize ds[i]?.getD 0 = p at *
      generalize hfl : floatOfInt .f64 (p : Int) = fl at *
      have i0 : (0 : Int) ≤ (i : Int) := by omega
      have im : (i : Int) < (la : Int) := by omega
      have iM : (i : Int) < (n : Int) := by omega
      clear HA hll
      go_wp2
      go_roundw
      case rel =>
        refine ⟨i + 1, by go_num, by omega, (HU.out).setCell (Nat.le_refl _) _, ?_⟩
        show Own _ _ _ _
        rw [← HS.out]
        exact Own.setCx HW.out i _ _
      case measure => simp [intOf]; omega
    · obtain rfl : la = i := by omega
      clear HA
      go_wp2
      go_ret
      refine ⟨rfl, HU.out, ?_⟩
      have := HW.out
      rw [HE.out.2.2] at this
      exact this
end Go.Proofs.Ygctab
