import Derived.Test.YgctabTowE
namespace Go.Proofs.Ygctab
open Go.RowKit
set_option linter.unusedVariables false
set_option linter.unusedSimpArgs false

theorem copied_nil (w : World) : Calls Tabg.prog 161 #[.slice none 0 0] w fun e w' => e = .returned (.slice none 0 0) ∧ w = w' := by
  have hn := nil87
  go_enter Tabg.func161, Tabg.ntmps161
  go_wp2
  go_ret
  exact ⟨rfl, rfl⟩

set_option maxRecDepth 100000 in
theorem copied_some (b off n c : Nat) (ds : List Nat) (w : World) (h : RdB w (some ⟨b, off, none⟩) n ds) (hn : n ≤ 4096) :
    Calls Tabg.prog 161 #[.slice (some ⟨b, off, none⟩) n c] w fun e w' => e = .returned (.slice (some ⟨w.heap.size, 0, none⟩) n n) ∧ Up w w' ∧ Own w' w.heap.size 5 (u8s ds) := by
  have hnl : ∀ w : World, (binOp .eql 87 (.slice (some ⟨b, off, none⟩) n c) (.slice none 0 0)).run Tabg.prog w = .ok (.bool false) w := fun w => Lib.run_eql_slice_nil (P := Tabg.prog) w 87 5 (some ⟨b, off, none⟩) n c 0 0 Tabg.underlying87
  have hmk := fun w => run_make_row' (P := Tabg.prog) 87 5 (.int .u8 0) 1 Tabg.underlying87 (by kernel_rfl) rfl .i64 .i64 n (by omega) (by omega) w
  have hO := Own.made w 5 (.int .u8 0) n
  have e0 : List.replicate n (Value.int .u8 0) = u8s (List.replicate n 0) := u8s_replicate n 0
  rw [e0] at hO
  have HO : Hid (Own (w.alloc (.cells (madeCells #[.int .u8 0] n) 5)) w.heap.size 5 (u8s (List.replicate n 0))) := hO
  have hl := h.1
  have HA : Hid (∀ i, i < n → w.cell? ⟨b, off + i, none⟩ = some (.int .u8 ((ds[i]?.getD 0 : Nat) : Int))) := fun i hi => by
    obtain ⟨b', off', e, hc⟩ := h.2.2 i (by omega)
    cases e
    exact hc
  have HD : Hid (Digs ds ∧ n = ds.length) := ⟨h.2.1, hl⟩
  have hnI : (n : Int) ≤ 4096 := by omega
  clear hO h e0 hl
  go_enter Tabg.func161, Tabg.ntmps161
  go_wp2_with (fail)
  go_loopw [4] (fun t wr => ∃ i : Nat, t = .int .i64 i ∧ i ≤ n ∧ Hid (Up w wr) ∧ Hid (Own wr w.heap.size 5 (u8s (ds.take i ++ List.replicate (ds.length - i) 0)))) (fun t _ => n - (intOf t).toNat)
  case atStart => exact ⟨0, rfl, by omega, (Up.refl w).alloc _, by show Own _ _ _ _; rw [List.take_zero, List.nil_append, ← HD.out.2]; exact HO.out⟩
  case round =>
    obtain ⟨i, rfl, hi, HU, HW⟩ := hrel
    clear hmk HO
    by_cases hlt : i < n
    · have k1 := HA.out i hlt
      replace k1 := (HU.out).cell k1
      have d1 := (HD.out.1).at i
      have hll : (ds.take i ++ List.replicate (ds.length - i) 0).length = n := by simp; rw [← HD.out.2]; omega
      have cz := Own.byt HW.out (i := i) (by rw [hll]; omega)
      have fz := Own.free HW.out i
      generalize (ds.take i ++ List.replicate (ds.length - i) 0)[i]?.getD 0 = old at *
      have HS : Hid ((ds.take i ++ List.replicate (ds.length - i) 0).set i (ds[i]?.getD 0) = ds.take (i + 1) ++ List.replicate (ds.length - (i + 1)) 0) := fillG ds 0 i (by rw [← HD.out.2]; omega) _ (by rw [List.getElem?_eq_getElem (by rw [← HD.out.2]; omega)]; rfl)
      generalize ds[i]?.getD 0 = p at *
      have pI : (p : Int) < 256 := by omega
      have p0 : (0 : Int) ≤ (p : Int) := by omega
      have i0 : (0 : Int) ≤ (i : Int) := by omega
      have im : (i : Int) < (n : Int) := by omega
      clear HA hll d1
      go_wp2
      go_roundw
      case rel =>
        refine ⟨i + 1, by go_num, by omega, (HU.out).setCell (Nat.le_refl _) _, ?_⟩
        show Own _ _ _ _
        rw [← HS.out]
        exact Own.setByt HW.out i _
      case measure => simp [intOf]; omega
    · obtain rfl : n = i := by omega
      clear HA
      go_wp2
      go_ret
      refine ⟨rfl, HU.out, ?_⟩
      have := HW.out
      rw [List.take_of_length_le (by rw [← HD.out.2]; exact Nat.le_refl _), ← HD.out.2, Nat.sub_self, List.replicate_zero, List.append_nil] at this
      exact this
end Go.Proofs.Ygctab
