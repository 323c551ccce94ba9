import Derived.Test.YgctabNatC
namespace Go.Proofs.Ygctab
open Go.RowKit
set_option linter.unusedVariables false
set_option linter.unusedSimpArgs false

set_option maxRecDepth 100000 in
set_option maxHeartbeats 1600000 in
theorem add_any (a a' : Option Addr) (n n' c c' : Nat) (xs ys : List Nat) (w : World) (h : RdB w a n xs) (h' : RdB w a' n' ys) (hc : n ≤ c) (hc' : n' ≤ c') (hn : n ≤ 4096) (hn' : n' ≤ 4096) :
    Calls Tabg.prog 69 #[.slice a n c, .slice a' n' c'] w fun e w' => Res w w' e (bv xs + bv ys) := by
  have C1 : Hid (Calls Tabg.prog 122 #[.slice a n c] w fun e w' => e = .returned (.slice (nrmA a (bv xs)) (dig (bv xs)).length (dig (bv xs)).length) ∧ w = w') := trim_any a n c xs w h hc (by omega)
  have C2 : Hid (Calls Tabg.prog 122 #[.slice a' n' c'] w fun e w' => e = .returned (.slice (nrmA a' (bv ys)) (dig (bv ys)).length (dig (bv ys)).length) ∧ w = w') := trim_any a' n' c' ys w h' hc' (by omega)
  have N1 := h.nrm
  have N2 := h'.nrm
  have b1 : (dig (bv xs)).length ≤ 4096 := Nat.le_trans (dig_len h.2.1) (by rw [← h.1]; exact hn)
  have b2 : (dig (bv ys)).length ≤ 4096 := Nat.le_trans (dig_len h'.2.1) (by rw [← h'.1]; exact hn')
  have hu := bv_dig (bv xs)
  have hv := bv_dig (bv ys)
  generalize nrmA a (bv xs) = A at *
  generalize nrmA a' (bv ys) = A' at *
  generalize dig (bv xs) = X at *
  generalize dig (bv ys) = Y at *
  generalize bv xs = u at *
  generalize bv ys = v at *
  have HX : Hid (RdB w A X.length X) := N1
  have HY : Hid (RdB w A' Y.length Y) := N2
  have HB : Hid (bv X = u ∧ bv Y = v) := ⟨hu, hv⟩
  generalize hL : X.length = L at *
  generalize hL' : Y.length = L' at *
  have HL : Hid (X.length = L ∧ Y.length = L') := ⟨hL, hL'⟩
  have bI : (L : Int) ≤ 4096 := by omega
  have bI' : (L' : Int) ≤ 4096 := by omega
  clear h h' hc hc' hn hn' N1 N2 hu hv hL hL'
  rcases Nat.lt_or_ge L L' with hlt | hge
  · have g1 : (L : Int) < (L' : Int) := by omega
    have hmk := fun w => run_make_row' (P := Tabg.prog) 87 5 (.int .u8 0) 1 Tabg.underlying87 (by kernel_rfl) rfl .i64 .i64 (L' + 1) (by omega) (by omega) w
    have hO := Own.made w 5 (.int .u8 0) (L' + 1)
    have e0 : List.replicate (L' + 1) (Value.int .u8 0) = u8s (List.replicate (L' + 1) 0) := u8s_replicate (L' + 1) 0
    rw [e0] at hO
    have HO : Hid (Own (w.alloc (.cells (madeCells #[.int .u8 0] (L' + 1)) 5)) w.heap.size 5 (u8s (List.replicate (L' + 1) 0))) := hO
    clear hO e0
    obtain ⟨M, hM⟩ : ∃ M, M = L' + 1 := ⟨_, rfl⟩
    have eM : (L' : Int) + 1 = (M : Int) := by omega
    rw [← hM] at hmk HO
    have hMI : (M : Int) ≤ 4097 := by omega
    have hMg : (1 : Int) ≤ (M : Int) := by omega
    have HM : Hid (M = L' + 1) := hM
    clear hM
    go_enter Tabg.func69, Tabg.ntmps69
    go_wp2_with (fail)
    refine (C1.out).mono ?_
    rintro e w' ⟨rfl, rfl⟩
    go_wp2_with (fail)
    refine (C2.out).mono ?_
    rintro e w' ⟨rfl, rfl⟩
    clear C1 C2
    go_wp2_with (fail)
    go_loopw [6, 7] (fun t6 t7 wr => ∃ (i cy : Nat) (cur : List Nat), t6 = .int .u16 cy ∧ t7 = .int .i64 i ∧ i ≤ L' ∧ cy ≤ 1 ∧ Hid (Up w wr) ∧ Hid (Own wr w.heap.size 5 (u8s cur)) ∧ Hid (cur.length = M ∧ Digs cur ∧ bv (cur.take i) + cy * 256 ^ i = bv (Y.take i) + bv (X.take i))) (fun _ t7 _ => L' - (intOf t7).toNat)
    case atStart => exact ⟨0, 0, List.replicate M 0, rfl, rfl, by omega, by omega, (Up.refl w).alloc _, HO.out, ⟨by simp, digs_zero _, by simp [bv]⟩⟩
    case round =>
      obtain ⟨i, cy, cur, rfl, rfl, hi, hcy, HU, HW, HI⟩ := hrel
      clear hmk HO
      by_cases hlt' : i < L'
      · obtain ⟨b, off, rfl, k1⟩ := (HY.out).2.2 i (by rw [HL.out.2]; exact hlt')
        replace k1 := (HU.out).cell k1
        have d1 := (HY.out).2.1.at i
        have cz := Own.byt HW.out (i := i) (by rw [HI.out.1]; have := HM.out; omega)
        have fz := Own.free HW.out i
        have T1 := bv_take1 Y i
        have T2 := bv_take1 X i
        have HT : Hid (bv (Y.take (i + 1)) + bv (X.take (i + 1)) = bv (Y.take i) + bv (X.take i) + 256 ^ i * (Y[i]?.getD 0 + X[i]?.getD 0)) := by
          show _ = _
          rw [T1, T2, Nat.mul_add]
          omega
        clear T1 T2
        have i0 : (0 : Int) ≤ (i : Int) := by omega
        have im : (i : Int) < (L' : Int) := by omega
        have iM : (i : Int) < (M : Int) := by have := HM.out; omega
        have hcI : (cy : Int) ≤ 1 := by omega
        by_cases hl2 : i < L
        · obtain ⟨b', off', rfl, k2⟩ := (HX.out).2.2 i (by rw [HL.out.1]; exact hl2)
          replace k2 := (HU.out).cell k2
          have d2 := (HX.out).2.1.at i
          generalize Y[i]?.getD 0 = p at *
          generalize X[i]?.getD 0 = q at *
          generalize cur[i]?.getD 0 = old at *
          have g3 : (i : Int) < (L : Int) := by omega
          obtain ⟨s, hs⟩ : ∃ s, s = p + q + cy := ⟨_, rfl⟩
          have s1 : (p : Int) + (cy : Int) + (q : Int) = (s : Int) := by omega
          obtain ⟨r, hr⟩ : ∃ r, r = s % 256 := ⟨_, rfl⟩
          obtain ⟨g, hg⟩ : ∃ g, g = s / 256 := ⟨_, rfl⟩
          have s2 : (s : Int) % 256 = (r : Int) := by omega
          have s3 : (s : Int) / 256 = (g : Int) := by omega
          have r0 : (0 : Int) ≤ (r : Int) := by omega
          have r1 : (r : Int) < 256 := by omega
          have g0 : (0 : Int) ≤ (g : Int) := by omega
          have g9 : (g : Int) ≤ 1 := by omega
          have sI : (s : Int) ≤ 511 := by omega
          have pI : (p : Int) < 256 := by omega
          have qI : (q : Int) < 256 := by omega
          have HS : Hid (s = p + q + cy ∧ s ≤ 511 ∧ r = s % 256 ∧ g = s / 256) := ⟨hs, by omega, hr, hg⟩
          clear hs HX HY d1 d2 hr hg
          go_wp2
          go_roundw
          case rel =>
            refine ⟨i + 1, g, cur.set i r, by go_num, by go_num, by omega, by omega, (HU.out).setCell (Nat.le_refl _) _, Own.setByt HW.out i r, ⟨by simp; exact HI.out.1, HI.out.2.1.set i (by omega), ?_⟩⟩
            rw [HT.out, HS.out.2.2.1, HS.out.2.2.2]
            exact carry_step (by rw [HI.out.1]; have := HM.out; omega) HI.out.2.2 HS.out.1
          case measure => simp [intOf]; omega
        · have e2 : X[i]?.getD 0 = 0 := by rw [List.getElem?_eq_none (by rw [HL.out.1]; omega)]; rfl
          rw [e2] at HT
          generalize Y[i]?.getD 0 = p at *
          generalize cur[i]?.getD 0 = old at *
          have g3 : decide ((i : Int) < (L : Int)) = false := decide_eq_false (by omega)
          have g4 : (L : Int) ≤ (i : Int) := by omega
          obtain ⟨s, hs⟩ : ∃ s, s = p + 0 + cy := ⟨_, rfl⟩
          have s1 : (p : Int) + (cy : Int) = (s : Int) := by omega
          obtain ⟨r, hr⟩ : ∃ r, r = s % 256 := ⟨_, rfl⟩
          obtain ⟨g, hg⟩ : ∃ g, g = s / 256 := ⟨_, rfl⟩
          have s2 : (s : Int) % 256 = (r : Int) := by omega
          have s3 : (s : Int) / 256 = (g : Int) := by omega
          have r0 : (0 : Int) ≤ (r : Int) := by omega
          have r1 : (r : Int) < 256 := by omega
          have g0 : (0 : Int) ≤ (g : Int) := by omega
          have g9 : (g : Int) ≤ 1 := by omega
          have sI : (s : Int) ≤ 256 := by omega
          have pI : (p : Int) < 256 := by omega
          have HS : Hid (s = p + 0 + cy ∧ s ≤ 511 ∧ r = s % 256 ∧ g = s / 256) := ⟨hs, by omega, hr, hg⟩
          clear hs HX HY d1 e2 hr hg
          go_wp2
          go_roundw
          case rel =>
            refine ⟨i + 1, g, cur.set i r, by go_num, by go_num, by omega, by omega, (HU.out).setCell (Nat.le_refl _) _, Own.setByt HW.out i r, ⟨by simp; exact HI.out.1, HI.out.2.1.set i (by omega), ?_⟩⟩
            rw [HT.out, HS.out.2.2.1, HS.out.2.2.2]
            exact carry_step (by rw [HI.out.1]; have := HM.out; omega) HI.out.2.2 HS.out.1
          case measure => simp [intOf]; omega
      · obtain rfl : L' = i := by omega
        have cz := Own.byt HW.out (i := L') (by rw [HI.out.1]; have := HM.out; omega)
        have fz := Own.free HW.out L'
        have HV : Hid (bv (cur.set L' cy) = u + v ∧ Digs (cur.set L' cy) ∧ (cur.set L' cy).length = M) := by
          have h1 := bv_set (cur := cur) (i := L') (r := cy) (by rw [HI.out.1]; have := HM.out; omega)
          have h2 := HI.out.2.2
          rw [bv_take_ge Y (by rw [HL.out.2]; exact Nat.le_refl _), bv_take_ge X (by rw [HL.out.1]; omega), HB.out.2, HB.out.1] at h2
          rw [bv_take_ge _ (by rw [List.length_set, HI.out.1]; have := HM.out; omega)] at h1
          have h3 : cy * 256 ^ L' = 256 ^ L' * cy := Nat.mul_comm _ _
          exact ⟨by rw [h1]; omega, HI.out.2.1.set _ (by omega), by rw [List.length_set]; exact HI.out.1⟩
        generalize cur[L']?.getD 0 = old at *
        have i0 : (0 : Int) ≤ (L' : Int) := by omega
        have iM : (L' : Int) < (M : Int) := by have := HM.out; omega
        have cyI : (cy : Int) ≤ 1 := by omega
        have cy0 : (0 : Int) ≤ (cy : Int) := by omega
        have HW2 : Hid (Own (wr.setCell ⟨w.heap.size, L', none⟩ (.int .u8 (cy : Int))) w.heap.size 5 (u8s (cur.set L' cy))) := Own.setByt HW.out L' cy
        have C3 : Hid (Calls Tabg.prog 122 #[.slice (some ⟨w.heap.size, 0, none⟩) M M] (wr.setCell ⟨w.heap.size, L', none⟩ (.int .u8 (cy : Int))) fun e w' => e = .returned (.slice (nrmA (some ⟨w.heap.size, 0, none⟩) (bv (cur.set L' cy))) (dig (bv (cur.set L' cy))).length (dig (bv (cur.set L' cy))).length) ∧ (wr.setCell ⟨w.heap.size, L', none⟩ (.int .u8 (cy : Int))) = w') := by
          have := trim_any (some ⟨w.heap.size, 0, none⟩) M M (cur.set L' cy) _ (by have := Own.rdB HW2.out HV.out.2.1; rwa [HV.out.2.2] at this) (Nat.le_refl _) (by omega)
          exact this
        clear HX HY HI
        go_wp2_with (fail)
        refine (C3.out).mono ?_
        rintro e w' ⟨rfl, rfl⟩
        go_wp2_with (fail)
        go_ret
        refine ⟨w.heap.size, cur.set L' cy, ?_, Nat.le_refl _, (HU.out).setCell (Nat.le_refl _) _, fun _ => ⟨HW2.out, HV.out.2.1, HV.out.1⟩⟩
        show _ = Ending.returned (Value.slice _ _ _)
        rw [← HV.out.1]
        rfl
  · have g1 : decide ((L : Int) < (L' : Int)) = false := decide_eq_false (by omega)
    have g2 : (L' : Int) ≤ (L : Int) := by omega
    have hmk := fun w => run_make_row' (P := Tabg.prog) 87 5 (.int .u8 0) 1 Tabg.underlying87 (by kernel_rfl) rfl .i64 .i64 (L + 1) (by omega) (by omega) w
    have hO := Own.made w 5 (.int .u8 0) (L + 1)
    have e0 : List.replicate (L + 1) (Value.int .u8 0) = u8s (List.replicate (L + 1) 0) := u8s_replicate (L + 1) 0
    rw [e0] at hO
    have HO : Hid (Own (w.alloc (.cells (madeCells #[.int .u8 0] (L + 1)) 5)) w.heap.size 5 (u8s (List.replicate (L + 1) 0))) := hO
    clear hO e0
    obtain ⟨M, hM⟩ : ∃ M, M = L + 1 := ⟨_, rfl⟩
    have eM : (L : Int) + 1 = (M : Int) := by omega
    rw [← hM] at hmk HO
    have hMI : (M : Int) ≤ 4097 := by omega
    have hMg : (1 : Int) ≤ (M : Int) := by omega
    have HM : Hid (M = L + 1) := hM
    clear hM
    go_enter Tabg.func69, Tabg.ntmps69
    go_wp2_with (fail)
    refine (C1.out).mono ?_
    rintro e w' ⟨rfl, rfl⟩
    go_wp2_with (fail)
    refine (C2.out).mono ?_
    rintro e w' ⟨rfl, rfl⟩
    clear C1 C2
    go_wp2_with (fail)
    go_loopw [6, 7] (fun t6 t7 wr => ∃ (i cy : Nat) (cur : List Nat), t6 = .int .u16 cy ∧ t7 = .int .i64 i ∧ i ≤ L ∧ cy ≤ 1 ∧ Hid (Up w wr) ∧ Hid (Own wr w.heap.size 5 (u8s cur)) ∧ Hid (cur.length = M ∧ Digs cur ∧ bv (cur.take i) + cy * 256 ^ i = bv (X.take i) + bv (Y.take i))) (fun _ t7 _ => L - (intOf t7).toNat)
    case atStart => exact ⟨0, 0, List.replicate M 0, rfl, rfl, by omega, by omega, (Up.refl w).alloc _, HO.out, ⟨by simp, digs_zero _, by simp [bv]⟩⟩
    case round =>
      obtain ⟨i, cy, cur, rfl, rfl, hi, hcy, HU, HW, HI⟩ := hrel
      clear hmk HO
      by_cases hlt' : i < L
      · obtain ⟨b, off, rfl, k1⟩ := (HX.out).2.2 i (by rw [HL.out.1]; exact hlt')
        replace k1 := (HU.out).cell k1
        have d1 := (HX.out).2.1.at i
        have cz := Own.byt HW.out (i := i) (by rw [HI.out.1]; have := HM.out; omega)
        have fz := Own.free HW.out i
        have T1 := bv_take1 X i
        have T2 := bv_take1 Y i
        have HT : Hid (bv (X.take (i + 1)) + bv (Y.take (i + 1)) = bv (X.take i) + bv (Y.take i) + 256 ^ i * (X[i]?.getD 0 + Y[i]?.getD 0)) := by
          show _ = _
          rw [T1, T2, Nat.mul_add]
          omega
        clear T1 T2
        have i0 : (0 : Int) ≤ (i : Int) := by omega
        have im : (i : Int) < (L : Int) := by omega
        have iM : (i : Int) < (M : Int) := by have := HM.out; omega
        have hcI : (cy : Int) ≤ 1 := by omega
        by_cases hl2 : i < L'
        · obtain ⟨b', off', rfl, k2⟩ := (HY.out).2.2 i (by rw [HL.out.2]; exact hl2)
          replace k2 := (HU.out).cell k2
          have d2 := (HY.out).2.1.at i
          generalize X[i]?.getD 0 = p at *
          generalize Y[i]?.getD 0 = q at *
          generalize cur[i]?.getD 0 = old at *
          have g3 : (i : Int) < (L' : Int) := by omega
          obtain ⟨s, hs⟩ : ∃ s, s = p + q + cy := ⟨_, rfl⟩
          have s1 : (p : Int) + (cy : Int) + (q : Int) = (s : Int) := by omega
          obtain ⟨r, hr⟩ : ∃ r, r = s % 256 := ⟨_, rfl⟩
          obtain ⟨g, hg⟩ : ∃ g, g = s / 256 := ⟨_, rfl⟩
          have s2 : (s : Int) % 256 = (r : Int) := by omega
          have s3 : (s : Int) / 256 = (g : Int) := by omega
          have r0 : (0 : Int) ≤ (r : Int) := by omega
          have r1 : (r : Int) < 256 := by omega
          have g0 : (0 : Int) ≤ (g : Int) := by omega
          have g9 : (g : Int) ≤ 1 := by omega
          have sI : (s : Int) ≤ 511 := by omega
          have pI : (p : Int) < 256 := by omega
          have qI : (q : Int) < 256 := by omega
          have HS : Hid (s = p + q + cy ∧ s ≤ 511 ∧ r = s % 256 ∧ g = s / 256) := ⟨hs, by omega, hr, hg⟩
          clear hs HX HY d1 d2 hr hg
          go_wp2
          go_roundw
          case rel =>
            refine ⟨i + 1, g, cur.set i r, by go_num, by go_num, by omega, by omega, (HU.out).setCell (Nat.le_refl _) _, Own.setByt HW.out i r, ⟨by simp; exact HI.out.1, HI.out.2.1.set i (by omega), ?_⟩⟩
            rw [HT.out, HS.out.2.2.1, HS.out.2.2.2]
            exact carry_step (by rw [HI.out.1]; have := HM.out; omega) HI.out.2.2 HS.out.1
          case measure => simp [intOf]; omega
        · have e2 : Y[i]?.getD 0 = 0 := by rw [List.getElem?_eq_none (by rw [HL.out.2]; omega)]; rfl
          rw [e2] at HT
          generalize X[i]?.getD 0 = p at *
          generalize cur[i]?.getD 0 = old at *
          have g3 : decide ((i : Int) < (L' : Int)) = false := decide_eq_false (by omega)
          have g4 : (L' : Int) ≤ (i : Int) := by omega
          obtain ⟨s, hs⟩ : ∃ s, s = p + 0 + cy := ⟨_, rfl⟩
          have s1 : (p : Int) + (cy : Int) = (s : Int) := by omega
          obtain ⟨r, hr⟩ : ∃ r, r = s % 256 := ⟨_, rfl⟩
          obtain ⟨g, hg⟩ : ∃ g, g = s / 256 := ⟨_, rfl⟩
          have s2 : (s : Int) % 256 = (r : Int) := by omega
          have s3 : (s : Int) / 256 = (g : Int) := by omega
          have r0 : (0 : Int) ≤ (r : Int) := by omega
          have r1 : (r : Int) < 256 := by omega
          have g0 : (0 : Int) ≤ (g : Int) := by omega
          have g9 : (g : Int) ≤ 1 := by omega
          have sI : (s : Int) ≤ 256 := by omega
          have pI : (p : Int) < 256 := by omega
          have HS : Hid (s = p + 0 + cy ∧ s ≤ 511 ∧ r = s % 256 ∧ g = s / 256) := ⟨hs, by omega, hr, hg⟩
          clear hs HX HY d1 e2 hr hg
          go_wp2
          go_roundw
          case rel =>
            refine ⟨i + 1, g, cur.set i r, by go_num, by go_num, by omega, by omega, (HU.out).setCell (Nat.le_refl _) _, Own.setByt HW.out i r, ⟨by simp; exact HI.out.1, HI.out.2.1.set i (by omega), ?_⟩⟩
            rw [HT.out, HS.out.2.2.1, HS.out.2.2.2]
            exact carry_step (by rw [HI.out.1]; have := HM.out; omega) HI.out.2.2 HS.out.1
          case measure => simp [intOf]; omega
      · obtain rfl : L = i := by omega
        have cz := Own.byt HW.out (i := L) (by rw [HI.out.1]; have := HM.out; omega)
        have fz := Own.free HW.out L
        have HV : Hid (bv (cur.set L cy) = u + v ∧ Digs (cur.set L cy) ∧ (cur.set L cy).length = M) := by
          have h1 := bv_set (cur := cur) (i := L) (r := cy) (by rw [HI.out.1]; have := HM.out; omega)
          have h2 := HI.out.2.2
          rw [bv_take_ge X (by rw [HL.out.1]; exact Nat.le_refl _), bv_take_ge Y (by rw [HL.out.2]; omega), HB.out.1, HB.out.2] at h2
          rw [bv_take_ge _ (by rw [List.length_set, HI.out.1]; have := HM.out; omega)] at h1
          have h3 : cy * 256 ^ L = 256 ^ L * cy := Nat.mul_comm _ _
          exact ⟨by rw [h1]; omega, HI.out.2.1.set _ (by omega), by rw [List.length_set]; exact HI.out.1⟩
        generalize cur[L]?.getD 0 = old at *
        have i0 : (0 : Int) ≤ (L : Int) := by omega
        have iM : (L : Int) < (M : Int) := by have := HM.out; omega
        have cyI : (cy : Int) ≤ 1 := by omega
        have cy0 : (0 : Int) ≤ (cy : Int) := by omega
        have HW2 : Hid (Own (wr.setCell ⟨w.heap.size, L, none⟩ (.int .u8 (cy : Int))) w.heap.size 5 (u8s (cur.set L cy))) := Own.setByt HW.out L cy
        have C3 : Hid (Calls Tabg.prog 122 #[.slice (some ⟨w.heap.size, 0, none⟩) M M] (wr.setCell ⟨w.heap.size, L, none⟩ (.int .u8 (cy : Int))) fun e w' => e = .returned (.slice (nrmA (some ⟨w.heap.size, 0, none⟩) (bv (cur.set L cy))) (dig (bv (cur.set L cy))).length (dig (bv (cur.set L cy))).length) ∧ (wr.setCell ⟨w.heap.size, L, none⟩ (.int .u8 (cy : Int))) = w') := by
          have := trim_any (some ⟨w.heap.size, 0, none⟩) M M (cur.set L cy) _ (by have := Own.rdB HW2.out HV.out.2.1; rwa [HV.out.2.2] at this) (Nat.le_refl _) (by omega)
          exact this
        clear HX HY HI
        go_wp2_with (fail)
        refine (C3.out).mono ?_
        rintro e w' ⟨rfl, rfl⟩
        go_wp2_with (fail)
        go_ret
        refine ⟨w.heap.size, cur.set L cy, ?_, Nat.le_refl _, (HU.out).setCell (Nat.le_refl _) _, fun _ => ⟨HW2.out, HV.out.2.1, HV.out.1⟩⟩
        show _ = Ending.returned (Value.slice _ _ _)
        rw [← HV.out.1]
        rfl

end Go.Proofs.Ygctab
