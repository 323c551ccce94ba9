import Derived.Test.YgctabDoorFinF
namespace Go.Proofs.YgctabDoor
open Go.RowKit
set_option linter.unusedVariables false
set_option linter.unusedSimpArgs false
set_option exponentiation.threshold 6000

set_option maxRecDepth 100000 in
theorem finish_nil (a : Option Addr) (c : Nat) (w : World) : Calls Tabg.prog 8 #[.slice a 0 c] w fun e w' => e = .returned (.float .f64 0) ∧ w = w' := by
  go_enter Tabg.func8, Tabg.ntmps8
  go_wp2
  go_ret
  exact ⟨rfl, rfl⟩

theorem ord_lt {p : Nat} (h : Fin64 p) (h0 : fval p < 0) : FloatKind.f64.format.order p 0 = some .lt := by
  rw [order_val h fin_zero, fval_zero, Int.compare_eq_lt.2 h0]
theorem ord_gt {p : Nat} (h : Fin64 p) (h0 : 0 < fval p) : FloatKind.f64.format.order p 0 = some .gt := by
  rw [order_val h fin_zero, fval_zero, Int.compare_eq_gt.2 h0]

set_option maxRecDepth 100000 in
set_option maxHeartbeats 1600000 in
theorem finish_some (a : Option Addr) (n c : Nat) (ps : List Nat) (w : World) (T : Int) (h : RdF w a n ps) (hn : n ≤ 4096) (hn0 : 0 < n) (hF : ∀ p ∈ ps, Fin64 p) (hNZ : ∀ p ∈ ps, fval p ≠ 0) (h0 : Ph1 ps T (n - 1) (ps[n - 1]?.getD 0)) :
    Calls Tabg.prog 8 #[.slice a n c] w fun e w' => ∃ r, e = .returned (.float .f64 r) ∧ Fin64 r ∧ fval r = T ∧ w = w' := by
  obtain ⟨rfl, h⟩ := h
  obtain ⟨b, off, rfl, hc0⟩ := h (ps.length - 1) (by omega)
  have hc : Hid (∀ i, i < ps.length → w.cell? ⟨b, off + i, none⟩ = some (.float .f64 (ps[i]?.getD 0))) := by
    intro i hi
    obtain ⟨b', off', e, hc⟩ := h i hi
    cases e
    exact hc
  have HF : Hid (∀ p ∈ ps, Fin64 p) := hF
  have HNZ : Hid (∀ p ∈ ps, fval p ≠ 0) := hNZ
  have hcI : (ps.length : Int) ≤ 4096 := by omega
  have hlI : (0 : Int) < (ps.length : Int) := by omega
  have HP : Hid (Ph1 ps T (ps.length - 1) (ps[ps.length - 1]?.getD 0)) := h0
  obtain ⟨m, hm⟩ : ∃ m : Nat, m = ps.length - 1 := ⟨_, rfl⟩
  rw [← hm] at hc0 HP
  have hwm : IntKind.i64.wrap ((ps.length : Int) - 1) = (m : Int) := by rw [IntKind.wrap_i64]; omega
  have hlm : ps.length = m + 1 := by omega
  have hm0 : (0 : Int) ≤ (m : Int) := by omega
  have hml : (m : Int) < (ps.length : Int) := by omega
  have HL : Hid (ps.length = m + 1) := hlm
  have hne : ((ps.length : Int) == 0) = false := by
    rw [beq_eq_false_iff_ne]
    omega
  clear h hF h0 hm hlm hn0 hn hNZ
  generalize ps[m]?.getD 0 = p0 at *
  go_enter Tabg.func8, Tabg.ntmps8
  go_wp2
  go_loop [3, 4, 5] (fun t u v => ∃ i hi lo : Nat, t = .int .i64 i ∧ u = .float .f64 hi ∧ v = .float .f64 lo ∧ i < ps.length ∧ Hid (Fin64 lo) ∧ Hid ((isz lo = true ∧ Ph1 ps T i hi) ∨ (isz lo = false ∧ Ph2 ps T i hi lo))) (fun t _ _ => (intOf t).toNat)
  case atStart => exact ⟨m, p0, 0, rfl, rfl, rfl, by rw [HL.out]; omega, fin_zero, .inl ⟨by rw [isz_val fin_zero, fval_zero]; rfl, HP.out⟩⟩
  case round =>
    obtain ⟨i, hi, lo, rfl, rfl, rfl, hil, HFl, HS⟩ := hrel
    clear hwm hm0 hml hlI hc0 hne HP
    cases i with
    | zero =>
      have hout : Hid (Fin64 hi ∧ fval hi = T) := by
        rcases HS.out with ⟨-, h⟩ | ⟨-, h⟩
        · exact ⟨h.fin, by rw [h.out, below_zero, sumI, Int.add_zero, rnd_exact (rep_fval hi)]⟩
        · exact ⟨h.fin, by rw [h.out, below_zero]; rfl⟩
      clear HS HFl
      go_wp2
      go_ret
      exact ⟨hi, rfl, hout.out.1, hout.out.2, rfl⟩
    | succ i =>
      have hil' : i < ps.length := by omega
      have c0 : w.cell? ⟨b, off + i, none⟩ = some (.float .f64 (ps[i]?.getD 0)) := hc.out i hil'
      have hw1 : IntKind.i64.wrap (((i + 1 : Nat) : Int) - 1) = (i : Int) := by rw [IntKind.wrap_i64]; omega
      have hpos : (0 : Int) < ((i + 1 : Nat) : Int) := by omega
      have hi0 : (0 : Int) ≤ (i : Int) := by omega
      have hiL : (i : Int) < (ps.length : Int) := by omega
      cases hz : isz lo
      · -- an error is left: the end
        have h2 : Ph2 ps T (i + 1) hi lo := by
          rcases HS.out with ⟨h, -⟩ | ⟨-, h⟩
          · rw [hz] at h; cases h
          · exact h
        have hz' : (FloatKind.f64.format.order lo 0 == some .eq) = false := hz
        obtain ⟨q1, q2, q3⟩ := h2.last hil' HF.out
        have hlo := h2.ne
        have hfin := h2.fin
        have hfl := h2.finl
        have hqne : fval (ps[i]?.getD 0) ≠ 0 := HNZ.out _ (by rw [List.getElem?_eq_getElem hil']; exact List.getElem_mem hil')
        generalize ps[i]?.getD 0 = q at *
        have hq0 : fval q ≠ 0 := hqne
        by_cases hl : fval lo < 0
        · have o1 := ord_lt hfl hl
          by_cases hq : fval q < 0
          · have o2 := ord_lt q1 hq
            have hs : (fval lo < 0 ∧ fval q < 0) ∨ (0 < fval lo ∧ 0 < fval q) := .inl ⟨hl, hq⟩
            obtain ⟨t1, t2, t3, t4, t5, t6, t7, t8⟩ := q2 hs
            have r1 := fun w : World => run_float_arith (P := Tabg.prog) w .mul 34 .f64 _ _ _ t1
            have r2 := fun w : World => run_float_arith (P := Tabg.prog) w .add 34 .f64 _ _ _ t2
            have r3 := fun w : World => run_float_arith (P := Tabg.prog) w .sub 34 .f64 _ _ _ t3
            have hor := order_val t4 t5
            clear t1 t2 t3 q2 q3
            have HT6 : Hid (Fin64 (fadd hi (ftwo lo))) := t6
            have HFI : Hid (Fin64 hi) := hfin
            by_cases heq : fval (fsub (fadd hi (ftwo lo)) hi) = fval (ftwo lo)
            · have HT : Hid (fval (fadd hi (ftwo lo)) = T) := (t7 heq).symm
              have ho : (FloatKind.f64.format.order (fsub (fadd hi (ftwo lo)) hi) (ftwo lo) == some .eq) = true := by rw [hor, Int.compare_eq_eq.2 heq]; rfl
              clear t4 t5 t6 t7 t8 heq hor hs hfin hfl hlo h2 hz HS HFl
              generalize fsub (fadd hi (ftwo lo)) hi = dd at *
              generalize fadd hi (ftwo lo) = rr at *
              generalize ftwo lo = tt at *
              go_wp2
              go_ret
              exact ⟨rr, rfl, HT6.out, HT.out, rfl⟩
            · have HT : Hid (fval hi = T) := (t8 heq).symm
              have ho : (FloatKind.f64.format.order (fsub (fadd hi (ftwo lo)) hi) (ftwo lo) == some .eq) = false := by
                rw [hor]
                cases hcc : compare (fval (fsub (fadd hi (ftwo lo)) hi)) (fval (ftwo lo))
                · rfl
                · exact absurd (Int.compare_eq_eq.1 hcc) heq
                · rfl
              clear t4 t5 t6 t7 t8 heq hor hs hfin hfl hlo h2 hz HS HFl
              generalize fsub (fadd hi (ftwo lo)) hi = dd at *
              generalize fadd hi (ftwo lo) = rr at *
              generalize ftwo lo = tt at *
              go_wp2
              go_ret
              exact ⟨hi, rfl, HFI.out, HT.out, rfl⟩
          · have o2 := ord_gt q1 (by omega)
            have hl2 := hl
            have hns : ¬ ((fval lo < 0 ∧ fval q < 0) ∨ (0 < fval lo ∧ 0 < fval q)) := by omega
            have HT : Hid (fval hi = T) := (q3 hns).symm
            have HFI : Hid (Fin64 hi) := hfin
            clear q2 q3 hns hl2 hfin hfl hlo h2 hz HS HFl
            go_wp2
            go_ret
            exact ⟨hi, rfl, HFI.out, HT.out, rfl⟩
        · have o1 := ord_gt hfl (by omega)
          by_cases hq : fval q < 0
          · have o2 := ord_lt q1 hq
            have hns : ¬ ((fval lo < 0 ∧ fval q < 0) ∨ (0 < fval lo ∧ 0 < fval q)) := by omega
            have HT : Hid (fval hi = T) := (q3 hns).symm
            have HFI : Hid (Fin64 hi) := hfin
            clear q2 q3 hns hfin hfl hlo h2 hz HS HFl
            go_wp2
            go_ret
            exact ⟨hi, rfl, HFI.out, HT.out, rfl⟩
          · have o2 := ord_gt q1 (by omega)
            have hs : (fval lo < 0 ∧ fval q < 0) ∨ (0 < fval lo ∧ 0 < fval q) := .inr ⟨by omega, by omega⟩
            obtain ⟨t1, t2, t3, t4, t5, t6, t7, t8⟩ := q2 hs
            have r1 := fun w : World => run_float_arith (P := Tabg.prog) w .mul 34 .f64 _ _ _ t1
            have r2 := fun w : World => run_float_arith (P := Tabg.prog) w .add 34 .f64 _ _ _ t2
            have r3 := fun w : World => run_float_arith (P := Tabg.prog) w .sub 34 .f64 _ _ _ t3
            have hor := order_val t4 t5
            clear t1 t2 t3 q2 q3
            have HT6 : Hid (Fin64 (fadd hi (ftwo lo))) := t6
            have HFI : Hid (Fin64 hi) := hfin
            by_cases heq : fval (fsub (fadd hi (ftwo lo)) hi) = fval (ftwo lo)
            · have HT : Hid (fval (fadd hi (ftwo lo)) = T) := (t7 heq).symm
              have ho : (FloatKind.f64.format.order (fsub (fadd hi (ftwo lo)) hi) (ftwo lo) == some .eq) = true := by rw [hor, Int.compare_eq_eq.2 heq]; rfl
              clear t4 t5 t6 t7 t8 heq hor hs hfin hfl hlo h2 hz HS HFl
              generalize fsub (fadd hi (ftwo lo)) hi = dd at *
              generalize fadd hi (ftwo lo) = rr at *
              generalize ftwo lo = tt at *
              go_wp2
              go_ret
              exact ⟨rr, rfl, HT6.out, HT.out, rfl⟩
            · have HT : Hid (fval hi = T) := (t8 heq).symm
              have ho : (FloatKind.f64.format.order (fsub (fadd hi (ftwo lo)) hi) (ftwo lo) == some .eq) = false := by
                rw [hor]
                cases hcc : compare (fval (fsub (fadd hi (ftwo lo)) hi)) (fval (ftwo lo))
                · rfl
                · exact absurd (Int.compare_eq_eq.1 hcc) heq
                · rfl
              clear t4 t5 t6 t7 t8 heq hor hs hfin hfl hlo h2 hz HS HFl
              generalize fsub (fadd hi (ftwo lo)) hi = dd at *
              generalize fadd hi (ftwo lo) = rr at *
              generalize ftwo lo = tt at *
              go_wp2
              go_ret
              exact ⟨hi, rfl, HFI.out, HT.out, rfl⟩
      · have h1 : Ph1 ps T (i + 1) hi := by
          rcases HS.out with ⟨-, h⟩ | ⟨h, -⟩
          · exact h
          · rw [hz] at h; cases h
        have hz' : (FloatKind.f64.format.order lo 0 == some .eq) = true := hz
        obtain ⟨k1, k2, k3⟩ := h1.step hil' HF.out
        have HK : Hid (Fin64 (ftE hi (ps[i]?.getD 0)) ∧ ((fval (ftE hi (ps[i]?.getD 0)) = 0 ∧ Ph1 ps T i (fadd hi (ps[i]?.getD 0))) ∨ Ph2 ps T i (fadd hi (ps[i]?.getD 0)) (ftE hi (ps[i]?.getD 0)))) := ⟨k2, k3⟩
        have cT := fts_any hi (ps[i]?.getD 0) k1
        have CT : Hid (∀ w, Calls Tabg.prog 17 #[.float .f64 hi, .float .f64 (ps[i]?.getD 0)] w fun e w' => e = .returned (.tuple #[.float .f64 (fadd hi (ps[i]?.getD 0)), .float .f64 (ftE hi (ps[i]?.getD 0))]) ∧ w = w') := cT
        clear k1 k2 k3 cT h1 HS HFl hz
        generalize ps[i]?.getD 0 = q at *
        go_wp2_with (fail)
        refine (CT.out _).mono ?_
        rintro e w' ⟨rfl, rfl⟩
        go_wp2
        go_round
        case rel =>
          refine ⟨i, _, _, by go_num, rfl, rfl, hil', HK.out.1, ?_⟩
          rcases HK.out.2 with ⟨z1, z2⟩ | z2
          · exact .inl ⟨by rw [isz_val HK.out.1, z1]; rfl, z2⟩
          · exact .inr ⟨by rw [isz_val HK.out.1]; exact decide_eq_false z2.ne, z2⟩
        case measure => simp [intOf]
end Go.Proofs.YgctabDoor
