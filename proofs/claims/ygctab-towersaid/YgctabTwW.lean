import Derived.Test.YgctabTwP
import Derived.Test.YgctabFftI
namespace Go.Proofs.Ygctab
open Go.RowKit
set_option linter.unusedVariables false
set_option linter.unusedSimpArgs false

set_option maxRecDepth 100000 in
theorem base2 (w : World) : Calls Tabg.prog 176 #[.int .u8 2] w fun e w' => e = .returned (.complex .f64 0 13830554455654793216) ∧ w = w' := by
  go_enter Tabg.func176, Tabg.ntmps176
  go_wp2
  go_ret
  exact ⟨rfl, rfl⟩
set_option maxRecDepth 100000 in
theorem base3 (w : World) : Calls Tabg.prog 176 #[.int .u8 3] w fun e w' => e = .returned (.complex .f64 4604544271217802189 13827916308072577997) ∧ w = w' := by
  go_enter Tabg.func176, Tabg.ntmps176
  go_wp2
  go_ret
  exact ⟨rfl, rfl⟩
set_option maxRecDepth 100000 in
theorem base4 (w : World) : Calls Tabg.prog 176 #[.int .u8 4] w fun e w' => e = .returned (.complex .f64 4606496786581982534 13823937468626282851) ∧ w = w' := by
  go_enter Tabg.func176, Tabg.ntmps176
  go_wp2
  go_ret
  exact ⟨rfl, rfl⟩
set_option maxRecDepth 100000 in
theorem base5 (w : World) : Calls Tabg.prog 176 #[.int .u8 5] w fun e w' => e = .returned (.complex .f64 4607009347991985328 13819568926757594635) ∧ w = w' := by
  go_enter Tabg.func176, Tabg.ntmps176
  go_wp2
  go_ret
  exact ⟨rfl, rfl⟩
set_option maxRecDepth 100000 in
theorem base6 (w : World) : Calls Tabg.prog 176 #[.int .u8 6] w fun e w' => e = .returned (.complex .f64 4607139046673687846 13815099336824566828) ∧ w = w' := by
  go_enter Tabg.func176, Tabg.ntmps176
  go_wp2
  go_ret
  exact ⟨rfl, rfl⟩
set_option maxRecDepth 100000 in
theorem base7 (w : World) : Calls Tabg.prog 176 #[.int .u8 7] w fun e w' => e = .returned (.complex .f64 4607171569234046334 13810604255004710932) ∧ w = w' := by
  go_enter Tabg.func176, Tabg.ntmps176
  go_wp2
  go_ret
  exact ⟨rfl, rfl⟩
set_option maxRecDepth 100000 in
theorem base8 (w : World) : Calls Tabg.prog 176 #[.int .u8 8] w fun e w' => e = .returned (.complex .f64 4607179706000002317 13806102785791583870) ∧ w = w' := by
  go_enter Tabg.func176, Tabg.ntmps176
  go_wp2
  go_ret
  exact ⟨rfl, rfl⟩
set_option maxRecDepth 100000 in
theorem base9 (w : World) : Calls Tabg.prog 176 #[.int .u8 9] w fun e w' => e = .returned (.complex .f64 4607181740574479067 13801599718827935620) ∧ w = w' := by
  go_enter Tabg.func176, Tabg.ntmps176
  go_wp2
  go_ret
  exact ⟨rfl, rfl⟩
set_option maxRecDepth 100000 in
theorem base10 (w : World) : Calls Tabg.prog 176 #[.int .u8 10] w fun e w' => e = .returned (.complex .f64 4607182249242036882 13797096252370255985) ∧ w = w' := by
  go_enter Tabg.func176, Tabg.ntmps176
  go_wp2
  go_ret
  exact ⟨rfl, rfl⟩

theorem base_any (t : Nat) (h1 : 2 ≤ t) (h2 : t ≤ 10) (w : World) : Calls Tabg.prog 176 #[.int .u8 (t : Int)] w fun e w' => e = .returned (.complex .f64 (zat twB t).1 (zat twB t).2) ∧ w = w' := by
  match t, h1, h2 with
  | 2, _, _ => exact base2 w
  | 3, _, _ => exact base3 w
  | 4, _, _ => exact base4 w
  | 5, _, _ => exact base5 w
  | 6, _, _ => exact base6 w
  | 7, _, _ => exact base7 w
  | 8, _, _ => exact base8 w
  | 9, _, _ => exact base9 w
  | 10, _, _ => exact base10 w

/-- One entry of the table out of another. -/
theorem tw_step (k b j : Nat) (hk : k ≤ 10) (hb : b + 1 < k) (hj : j < 2 ^ b) : mulX (clsC (zat twM (j * 2 ^ (10 - k)))) (clsC (zat twB (k - b))) = clsC (zat twM ((2 ^ b + j) * 2 ^ (10 - k))) := by
  obtain ⟨c, hc⟩ : ∃ c, c = b + (10 - k) := ⟨_, rfl⟩
  have h := List.all_eq_true.1 tw_steps c (List.mem_range.2 (by omega))
  unfold stepB at h
  have hB : twB[10 - c]? = some (zat twB (k - b)) := by
    rw [show 10 - c = k - b by omega]
    have : twB.length = 12 := by decide +kernel
    unfold zat
    rw [List.getElem?_eq_getElem (by omega)]
    rfl
  rw [hB] at h
  have hl := tw_len.1
  have hp : 2 ^ b * 2 ^ (10 - k) = 2 ^ c := by rw [hc, Nat.pow_add]
  have hjs : j * 2 ^ (10 - k) < 2 ^ c := by rw [← hp]; exact Nat.mul_lt_mul_of_pos_right hj (Nat.pow_pos (by decide))
  have h2c : 2 ^ c + 2 ^ c ≤ 512 := by
    rw [← Nat.two_mul, ← Nat.pow_succ']
    exact Nat.le_trans (Nat.pow_le_pow_right (by decide) (show c + 1 ≤ 9 by omega)) (by decide)
  have hx : (twM.take (2 ^ c))[j * 2 ^ (10 - k)]? = some (zat twM (j * 2 ^ (10 - k))) := by
    rw [List.getElem?_take, if_pos hjs]
    unfold zat
    rw [List.getElem?_eq_getElem (by omega)]
    rfl
  obtain ⟨y, hy, hf⟩ := all2_at h hx
  rw [List.getElem?_drop] at hy
  have e : zat twM ((2 ^ b + j) * 2 ^ (10 - k)) = y := by
    unfold zat
    rw [Nat.add_mul, hp, hy]
    rfl
  rw [e]
  exact of_decide_eq_true hf

set_option maxRecDepth 100000 in
set_option maxHeartbeats 1600000 in
theorem table_any (k : Nat) (hk : 1 ≤ k) (hk' : k ≤ 10) (w : World) :
    Calls Tabg.prog 172 #[.int .u8 (k : Int)] w fun e w' => e = .returned (.slice (some ⟨w.heap.size, 0, none⟩) (2 ^ (k - 1)) (2 ^ (k - 1))) ∧ Up w w' ∧ ∃ tab, tab.length = 2 ^ (k - 1) ∧ Own w' w.heap.size 27 (cxs tab) ∧ ∀ j, j < 2 ^ (k - 1) → clsC (zat tab j) = clsC (zat twM (j * 2 ^ (10 - k))) := by
  obtain ⟨H, hH⟩ : ∃ H, H = 2 ^ (k - 1) := ⟨_, rfl⟩
  rw [← hH]
  obtain ⟨k1, hk1⟩ : ∃ k1, k = k1 + 1 := ⟨k - 1, by omega⟩
  have hH2 : H ≤ 512 := by rw [hH]; exact Nat.le_trans (Nat.pow_le_pow_right (by decide) (show k - 1 ≤ 9 by omega)) (by decide)
  have hH1 : 1 ≤ H := by rw [hH]; exact Nat.two_pow_pos _
  have eK : (k : Int) - 1 = (k1 : Int) := by omega
  have sH : IntKind.i64.wrap (2 ^ k1) = (H : Int) := by rw [← pow_cast, show k1 = k - 1 by omega, ← hH, IntKind.wrap_i64]; omega
  have hmk := fun w => run_make_row' (P := Tabg.prog) 71 27 (.complex .f64 0 0) 16 Tabg.underlying71 (by kernel_rfl) rfl .i64 .i64 H (by omega) (by omega) w
  have hO := Own.made w 27 (.complex .f64 0 0) H
  rw [cxs_replicate] at hO
  have HO : Hid (Own (w.alloc (.cells (madeCells #[.complex .f64 0 0] H) 27)) w.heap.size 27 (cxs (List.replicate H (0, 0)))) := hO
  have cz0 := Own.cx hO (i := 0) (by simp; omega)
  have fz0 := Own.free hO 0
  generalize zat (List.replicate H (0, 0)) 0 = z0 at *
  have CBa : Hid (∀ t : Nat, 2 ≤ t → t ≤ 10 → ∀ w, Calls Tabg.prog 176 #[.int .u8 (t : Int)] w fun e w' => e = .returned (.complex .f64 (zat twB t).1 (zat twB t).2) ∧ w = w') := base_any
  have HS : Hid (∀ b j, b + 1 < k → j < 2 ^ b → mulX (clsC (zat twM (j * 2 ^ (10 - k)))) (clsC (zat twB (k - b))) = clsC (zat twM ((2 ^ b + j) * 2 ^ (10 - k)))) := fun b j hb hj => tw_step k b j hk' hb hj
  have HM0 : Hid (clsC (4607182418800017408, 0) = clsC (zat twM 0)) := by show _ = _; decide +kernel
  have HK : Hid (k = k1 + 1 ∧ H = 2 ^ k1) := ⟨hk1, by rw [hH]; congr 1; omega⟩
  have kI : (k : Int) ≤ 10 := by omega
  have kI1 : (1 : Int) ≤ (k : Int) := by omega
  have k1I : (k1 : Int) ≤ 9 := by omega
  have k10 : (0 : Int) ≤ (k1 : Int) := by omega
  have HI : (H : Int) ≤ 512 := by omega
  have HI1 : (1 : Int) ≤ (H : Int) := by omega
  have g1 : decide ((k : Int) < 1) = false := decide_eq_false (by omega)
  have g2 : decide ((11 : Int) < (k : Int)) = false := decide_eq_false (by omega)
  have g3 : decide (k = 0) = false := decide_eq_false (by omega)
  generalize hTM : (fun j => clsC (zat twM (j * 2 ^ (10 - k)))) = TM at *
  have HTM : Hid (∀ j, TM j = clsC (zat twM (j * 2 ^ (10 - k)))) := fun j => by rw [← hTM]
  clear hH hk1 hTM
  go_enter Tabg.func172, Tabg.ntmps172
  go_wp2_with (fail)
  go_loopw [5] (fun t wr => ∃ (b : Nat) (cur : List (Nat × Nat)), t = .int .u8 b ∧ b ≤ k1 ∧ Hid (Up w wr) ∧ Hid (Own wr w.heap.size 27 (cxs cur)) ∧ Hid (cur.length = H ∧ ∀ j, j < 2 ^ b → clsC (zat cur j) = TM j)) (fun t _ => k1 - (intOf t).toNat)
  case atStart =>
    refine ⟨0, (List.replicate H (0, 0)).set 0 (4607182418800017408, 0), rfl, by omega, (Up.refl w).alloc _, ?_, ⟨by simp, fun j hj => ?_⟩⟩
    · have h1 := Own.new w 27 ((madeCells #[.complex .f64 0 0] H).setIfInBounds 0 (.complex .f64 4607182418800017408 0))
      rw [Array.toList_setIfInBounds, madeCells_one, cxs_replicate, cxs_set] at h1
      exact h1
    obtain rfl : j = 0 := by simpa using hj
    rw [zat_set _ (by simp; omega), if_pos rfl, HTM.out, Nat.zero_mul]
    exact HM0.out
  case round =>
    clear hmk HO cz0 fz0 HM0
    obtain ⟨b, cur, rfl, hb, HU, HW, HI⟩ := hrel
    by_cases hlt : b < k1
    · have CB : Hid (∀ w, Calls Tabg.prog 176 #[.int .u8 ((k - b : Nat) : Int)] w fun e w' => e = .returned (.complex .f64 (zat twB (k - b)).1 (zat twB (k - b)).2) ∧ w = w') := CBa.out (k - b) (by have := HK.out.1; omega) (by omega)
      obtain ⟨Bk, hBk⟩ : ∃ Bk, Bk = 2 ^ b := ⟨_, rfl⟩
      have hB2 : 2 * Bk ≤ H := by
        rw [HK.out.2, hBk, ← Nat.pow_succ']
        exact Nat.pow_le_pow_right (by decide) hlt
      have sB : IntKind.i64.wrap (2 ^ b) = (Bk : Int) := by rw [← pow_cast, ← hBk, IntKind.wrap_i64]; omega
      have HStep : Hid (∀ j, j < Bk → mulX (TM j) (clsC (zat twB (k - b))) = TM (Bk + j)) := fun j hj => by
        rw [HTM.out, HTM.out, hBk]
        exact HS.out b j (by have := HK.out.1; omega) (by rw [← hBk]; exact hj)
      have HBk : Hid (Bk = 2 ^ b) := hBk
      obtain ⟨kb, hkb⟩ : ∃ kb, kb = k - b := ⟨_, rfl⟩
      have ekb : (k : Int) - (b : Int) = (kb : Int) := by have := HK.out.1; omega
      have kbI : (kb : Int) ≤ 10 := by omega
      have kb0 : (0 : Int) ≤ (kb : Int) := by omega
      rw [← hkb] at CB HStep
      generalize zat twB kb = bs at *
      obtain ⟨bs1, bs2⟩ := bs
      have bI : (b : Int) ≤ 9 := by omega
      have b0 : (0 : Int) ≤ (b : Int) := by omega
      have gb : (b : Int) + 1 < (k : Int) := by have := HK.out.1; omega
      have BI : (Bk : Int) ≤ 256 := by omega
      clear hBk hkb CBa HS HTM
      go_wp2_with (fail)
      refine (CB.out _).mono ?_
      rintro e w' ⟨rfl, rfl⟩
      go_wp2_with (fail)
      rename_i wrO
      go_loopw [8] (fun t wr => ∃ (j : Nat) (cu : List (Nat × Nat)), t = .int .i64 j ∧ j ≤ Bk ∧ Hid (Up w wr) ∧ Hid (Own wr w.heap.size 27 (cxs cu)) ∧ Hid (cu.length = H ∧ ∀ i, i < Bk + j → clsC (zat cu i) = TM i)) (fun t _ => Bk - (intOf t).toNat)
      case atStart => exact ⟨0, cur, rfl, by omega, HU, HW, ⟨HI.out.1, fun i hi => HI.out.2 i (by rw [← HBk.out]; omega)⟩⟩
      case round =>
        clear HU HW HI
        obtain ⟨j, cu, rfl, hj, HU, HW, HI⟩ := hrel
        by_cases hltj : j < Bk
        · obtain ⟨p, hp⟩ : ∃ p, p = Bk + j := ⟨_, rfl⟩
          have ep : (Bk : Int) + (j : Int) = (p : Int) := by omega
          have c1 := Own.cx HW.out (i := j) (by rw [HI.out.1]; omega)
          have cz := Own.cx HW.out (i := p) (by rw [HI.out.1]; omega)
          have fz := Own.free HW.out p
          have HC : Hid (clsC (zat cu j) = TM j) := HI.out.2 j (by omega)
          generalize zat cu j = zj at *
          generalize zat cu p = zp at *
          obtain ⟨a1, a2⟩ := zj
          have CM : Hid (∀ w, Calls Tabg.prog 147 #[.complex .f64 a1 a2, .complex .f64 bs1 bs2] w fun e w' => ∃ p q, e = .returned (.complex .f64 p q) ∧ clsC (p, q) = mulX (clsC (a1, a2)) (clsC (bs1, bs2)) ∧ Up w w') := fun w => mul_any _ _ _ _ w
          have HP : Hid (p = Bk + j) := hp
          have j0 : (0 : Int) ≤ (j : Int) := by omega
          have jm : (j : Int) < (Bk : Int) := by omega
          have jH : (j : Int) < (H : Int) := by omega
          have p0 : (0 : Int) ≤ (p : Int) := by omega
          have pH : (p : Int) < (H : Int) := by omega
          clear hp CB
          go_wp2_with (fail)
          refine (CM.out _).mono ?_
          rintro e w5 ⟨x1, x2, rfl, hcl, hu5⟩
          have U5 : Hid (Up w w5) := (HU.out).trans hu5
          have W5 : Hid (Own w5 w.heap.size 27 (cxs cu)) := Own.up HW.out hu5
          have cz5 := hu5.cell cz
          have fz5 := Own.free W5.out p
          have HX : Hid (clsC (x1, x2) = TM p) := by show _ = _; rw [hcl, HC.out, HP.out]; exact HStep.out j hltj
          clear hcl hu5 cz fz c1 CM HC
          go_wp2_with (fail)
          go_roundw
          case rel =>
            refine ⟨j + 1, cu.set p (x1, x2), by go_num, by omega, (U5.out).setCell (Nat.le_refl _) _, Own.setCx W5.out p _ _, ⟨by rw [List.length_set]; exact HI.out.1, fun i hi => ?_⟩⟩
            have hpp := HP.out
            rw [zat_set _ (by rw [HI.out.1]; omega)]
            by_cases h : i = p
            · rw [if_pos h, h]; exact HX.out
            · rw [if_neg h]; exact HI.out.2 i (by omega)
          case measure => simp [intOf]; omega
        · obtain rfl : Bk = j := by omega
          go_wp2_with (fail)
          go_roundw
          case rel => exact ⟨b + 1, cu, by go_num, by omega, HU, HW, ⟨HI.out.1, fun i hi => HI.out.2 i (by rw [Nat.pow_succ, ← HBk.out] at hi; omega)⟩⟩
          case measure => simp [intOf]; omega
    · obtain rfl : b = k1 := by omega
      have gb : decide ((b : Int) + 1 < (k : Int)) = false := decide_eq_false (by have := HK.out.1; omega)
      have gb' : (k : Int) ≤ (b : Int) + 1 := by have := HK.out.1; omega
      go_wp2_with (fail)
      go_ret
      refine ⟨rfl, HU.out, cur, HI.out.1, HW.out, fun j hj => ?_⟩
      rw [← HTM.out]
      exact HI.out.2 j (by rw [← HK.out.2]; exact hj)
end Go.Proofs.Ygctab
