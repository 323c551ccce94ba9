import Derived.Test.YgctabNatC
namespace Go.Proofs.Ygctab
open Go.RowKit
set_option linter.unusedVariables false
set_option linter.unusedSimpArgs false

set_option maxRecDepth 100000 in
theorem sub_neg (a a' : Option Addr) (n n' c c' : Nat) (xs ys : List Nat) (w : World) (h : RdB w a n xs) (h' : RdB w a' n' ys) (hc : n ≤ c) (hc' : n' ≤ c') (hn : n ≤ 4096) (hn' : n' ≤ 4096) (hlt : bv xs < bv ys) :
    Calls Tabg.prog 65 #[.slice a n c, .slice a' n' c'] w fun e w' => e = .returned (.tuple #[.slice none 0 0, .bool false]) ∧ Up w w' := by
  have C1 : Hid (Calls Tabg.prog 122 #[.slice a n c] w fun e w' => e = .returned (.slice (nrmA a (bv xs)) (dig (bv xs)).length (dig (bv xs)).length) ∧ w = w') := trim_any a n c xs w h hc (by omega)
  have C2 : Hid (Calls Tabg.prog 122 #[.slice a' n' c'] w fun e w' => e = .returned (.slice (nrmA a' (bv ys)) (dig (bv ys)).length (dig (bv ys)).length) ∧ w = w') := trim_any a' n' c' ys w h' hc' (by omega)
  have b1 : (dig (bv xs)).length ≤ 4096 := Nat.le_trans (dig_len h.2.1) (by rw [← h.1]; exact hn)
  have b2 : (dig (bv ys)).length ≤ 4096 := Nat.le_trans (dig_len h'.2.1) (by rw [← h'.1]; exact hn')
  have C3 : Hid (Calls Tabg.prog 67 #[.slice (nrmA a (bv xs)) (dig (bv xs)).length (dig (bv xs)).length, .slice (nrmA a' (bv ys)) (dig (bv ys)).length (dig (bv ys)).length] w fun e w' => e = .returned (.int .i8 (-1)) ∧ Up w w') := by
    have := cmp_any _ _ _ _ (dig (bv xs)).length (dig (bv ys)).length _ _ w h.nrm h'.nrm (Nat.le_refl _) (Nat.le_refl _) (by omega) (by omega)
    rw [bv_dig, bv_dig] at this
    have e : cmpI (bv xs) (bv ys) = -1 := by simp [cmpI, hlt]
    rwa [e] at this
  generalize nrmA a (bv xs) = A at *
  generalize nrmA a' (bv ys) = A' at *
  generalize (dig (bv xs)).length = L at *
  generalize (dig (bv ys)).length = L' at *
  clear h h' hlt
  go_enter Tabg.func65, Tabg.ntmps65
  go_wp2_with (fail)
  refine (C1.out).mono ?_
  rintro e w' ⟨rfl, rfl⟩
  go_wp2_with (fail)
  refine (C2.out).mono ?_
  rintro e w' ⟨rfl, rfl⟩
  go_wp2_with (fail)
  refine (C3.out).mono ?_
  rintro e w1 ⟨rfl, hu⟩
  have HU : Hid (Up w w1) := hu
  clear C1 C2 C3 hu
  go_wp2_with (fail)
  first | go_ret | go_ret2
  exact ⟨rfl, HU.out⟩

set_option maxRecDepth 100000 in
set_option maxHeartbeats 1600000 in
theorem sub_any (a a' : Option Addr) (n n' c c' : Nat) (xs ys : List Nat) (w : World) (h : RdB w a n xs) (h' : RdB w a' n' ys) (hc : n ≤ c) (hc' : n' ≤ c') (hn : n ≤ 4096) (hn' : n' ≤ 4096) (hge : bv ys ≤ bv xs) :
    Calls Tabg.prog 65 #[.slice a n c, .slice a' n' c'] w fun e w' => ∃ B zs, e = .returned (.tuple #[.slice (nrmA (some ⟨B, 0, none⟩) (bv xs - bv ys)) (dig (bv xs - bv ys)).length (dig (bv xs - bv ys)).length, .bool true]) ∧ w.heap.size ≤ B ∧ Up w w' ∧ (bv xs - bv ys ≠ 0 → Own w' B 5 (u8s zs) ∧ Digs zs ∧ bv zs = bv xs - bv ys) := by
  have C1 : Hid (Calls Tabg.prog 122 #[.slice a n c] w fun e w' => e = .returned (.slice (nrmA a (bv xs)) (dig (bv xs)).length (dig (bv xs)).length) ∧ w = w') := trim_any a n c xs w h hc (by omega)
  have C2 : Hid (Calls Tabg.prog 122 #[.slice a' n' c'] w fun e w' => e = .returned (.slice (nrmA a' (bv ys)) (dig (bv ys)).length (dig (bv ys)).length) ∧ w = w') := trim_any a' n' c' ys w h' hc' (by omega)
  have N1 := h.nrm
  have N2 := h'.nrm
  have b1 : (dig (bv xs)).length ≤ 4096 := Nat.le_trans (dig_len h.2.1) (by rw [← h.1]; exact hn)
  have b2 : (dig (bv ys)).length ≤ 4096 := Nat.le_trans (dig_len h'.2.1) (by rw [← h'.1]; exact hn')
  have C3' : ∃ q : Int, 0 ≤ q ∧ q ≤ 1 ∧ Calls Tabg.prog 67 #[.slice (nrmA a (bv xs)) (dig (bv xs)).length (dig (bv xs)).length, .slice (nrmA a' (bv ys)) (dig (bv ys)).length (dig (bv ys)).length] w fun e w' => e = .returned (.int .i8 q) ∧ Up w w' := by
    have := cmp_any _ _ _ _ (dig (bv xs)).length (dig (bv ys)).length _ _ w h.nrm h'.nrm (Nat.le_refl _) (Nat.le_refl _) (by omega) (by omega)
    rw [bv_dig, bv_dig] at this
    have hnl : ¬ bv xs < bv ys := by omega
    refine ⟨_, ?_, ?_, this⟩ <;> (unfold cmpI; rw [if_neg hnl]; split <;> decide)
  obtain ⟨q0, q1, q2, C3''⟩ := C3'
  have C3 : Hid (Calls Tabg.prog 67 #[.slice (nrmA a (bv xs)) (dig (bv xs)).length (dig (bv xs)).length, .slice (nrmA a' (bv ys)) (dig (bv ys)).length (dig (bv ys)).length] w fun e w' => e = .returned (.int .i8 q0) ∧ Up w w') := C3''
  have hq : decide (q0 < 0) = false := decide_eq_false (by omega)
  have hll : (dig (bv ys)).length ≤ (dig (bv xs)).length := by
    rcases Nat.lt_or_ge (dig (bv xs)).length (dig (bv ys)).length with hl | hl
    · have := dig_lt_of_len hl; omega
    · exact hl
  have hu := bv_dig (bv xs)
  have hv := bv_dig (bv ys)
  generalize nrmA a (bv xs) = A at *
  generalize nrmA a' (bv ys) = A' at *
  generalize dig (bv xs) = X at *
  generalize dig (bv ys) = Y at *
  generalize bv xs = u at *
  generalize bv ys = v at *
  have HX : Hid (RdB w A X.length X) := N1
  have HY : Hid (RdB w A' Y.length Y) := N2
  have HB : Hid (bv X = u ∧ bv Y = v ∧ v ≤ u) := ⟨hu, hv, hge⟩
  generalize hL : X.length = L at *
  generalize hL' : Y.length = L' at *
  have HL : Hid (X.length = L ∧ Y.length = L' ∧ L' ≤ L) := ⟨hL, hL', hll⟩
  have bI : (L : Int) ≤ 4096 := by omega
  have bI' : (L' : Int) ≤ 4096 := by omega
  have hmk := fun w => run_make_row' (P := Tabg.prog) 87 5 (.int .u8 0) 1 Tabg.underlying87 (by kernel_rfl) rfl .i64 .i64 L (by omega) (by omega) w
  clear h h' hc hc' hn hn' N1 N2 hu hv hL hL' hge hll C3''
  go_enter Tabg.func65, Tabg.ntmps65
  go_wp2_with (fail)
  refine (C1.out).mono ?_
  rintro e w' ⟨rfl, rfl⟩
  go_wp2_with (fail)
  refine (C2.out).mono ?_
  rintro e w' ⟨rfl, rfl⟩
  go_wp2_with (fail)
  refine (C3.out).mono ?_
  rintro e w1 ⟨rfl, hu⟩
  have HU1 : Hid (Up w w1) := hu
  have HX1 : Hid (RdB w1 A L X) := (HX.out).up hu
  have HY1 : Hid (RdB w1 A' L' Y) := (HY.out).up hu
  have hO := Own.made w1 5 (.int .u8 0) L
  have e0 : List.replicate L (Value.int .u8 0) = u8s (List.replicate L 0) := u8s_replicate L 0
  rw [e0] at hO
  have HO : Hid (Own (w1.alloc (.cells (madeCells #[.int .u8 0] L) 5)) w1.heap.size 5 (u8s (List.replicate L 0))) := hO
  clear C1 C2 C3 hu hO e0 HX HY
  go_wp2_with (fail)
  go_loopw [7, 8] (fun t7 t8 wr => ∃ (i cy : Nat) (cur : List Nat), t7 = .int .u16 cy ∧ t8 = .int .i64 i ∧ i ≤ L ∧ cy ≤ 1 ∧ Hid (Up w1 wr) ∧ Hid (Own wr w1.heap.size 5 (u8s cur)) ∧ Hid (cur.length = L ∧ Digs cur ∧ bv (cur.take i) + bv (Y.take i) = bv (X.take i) + cy * 256 ^ i)) (fun _ t8 _ => L - (intOf t8).toNat)
  case atStart => exact ⟨0, 0, List.replicate L 0, rfl, rfl, by omega, by omega, (Up.refl w1).alloc _, HO.out, ⟨by simp, digs_zero _, by simp [bv]⟩⟩
  case round =>
    obtain ⟨i, cy, cur, rfl, rfl, hi, hcy, HU, HW, HI⟩ := hrel
    clear hmk HO hq
    by_cases hlt' : i < L
    · obtain ⟨b, off, rfl, k1⟩ := (HX1.out).2.2 i (by rw [HL.out.1]; exact hlt')
      replace k1 := (HU.out).cell k1
      have d1 := (HX1.out).2.1.at i
      have cz := Own.byt HW.out (i := i) (by rw [HI.out.1]; omega)
      have fz := Own.free HW.out i
      have HT1 : Hid (bv (X.take (i + 1)) = bv (X.take i) + 256 ^ i * (X[i]?.getD 0)) := bv_take1 X i
      have HT2 : Hid (bv (Y.take (i + 1)) = bv (Y.take i) + 256 ^ i * (Y[i]?.getD 0)) := bv_take1 Y i
      have i0 : (0 : Int) ≤ (i : Int) := by omega
      have im : (i : Int) < (L : Int) := by omega
      have hcI : (cy : Int) ≤ 1 := by omega
      by_cases hl2 : i < L'
      · obtain ⟨b', off', rfl, k2⟩ := (HY1.out).2.2 i (by rw [HL.out.2.1]; exact hl2)
        replace k2 := (HU.out).cell k2
        have d2 := (HY1.out).2.1.at i
        generalize X[i]?.getD 0 = p at *
        generalize Y[i]?.getD 0 = q at *
        generalize cur[i]?.getD 0 = old at *
        have g3 : (i : Int) < (L' : Int) := by omega
        obtain ⟨m, hm⟩ : ∃ m : Nat, (m : Int) = ((p : Int) - (cy : Int)) % 65536 := ⟨(((p : Int) - (cy : Int)) % 65536).toNat, by omega⟩
        obtain ⟨s, hs⟩ : ∃ s : Nat, (s : Int) = ((m : Int) - (q : Int)) % 65536 := ⟨(((m : Int) - (q : Int)) % 65536).toNat, by omega⟩
        obtain ⟨r, hr⟩ : ∃ r, r = s % 256 := ⟨_, rfl⟩
        obtain ⟨g, hg⟩ : ∃ g, g = s / 32768 := ⟨_, rfl⟩
        have m1 : IntKind.u16.wrap ((p : Int) - (cy : Int)) = (m : Int) := by rw [hm]; simp [IntKind.wrap, IntKind.bits, IntKind.signed]
        have s1 : IntKind.u16.wrap ((m : Int) - (q : Int)) = (s : Int) := by rw [hs]; simp [IntKind.wrap, IntKind.bits, IntKind.signed]
        have m1' : ((p : Int) - (cy : Int)) % 65536 = (m : Int) := hm.symm
        have s1' : ((m : Int) - (q : Int)) % 65536 = (s : Int) := hs.symm
        have s2 : (s : Int) % 256 = (r : Int) := by omega
        have s3 : (s : Int) / 32768 = (g : Int) := by omega
        have sI : (s : Int) ≤ 65535 := by omega
        have s0 : (0 : Int) ≤ (s : Int) := by omega
        have mI : (m : Int) ≤ 65535 := by omega
        have m0 : (0 : Int) ≤ (m : Int) := by omega
        have r0 : (0 : Int) ≤ (r : Int) := by omega
        have r1 : (r : Int) < 256 := by omega
        have g0 : (0 : Int) ≤ (g : Int) := by omega
        have g9 : (g : Int) ≤ 1 := by omega
        have pI : (p : Int) < 256 := by omega
        have qI : (q : Int) < 256 := by omega
        have HS : Hid (r + q + cy = p + 256 * g) := by show _ = _; omega
        clear hs hm HX1 HY1 d1 d2 hr hg hl2
        go_wp2
        go_roundw
        case rel =>
          refine ⟨i + 1, g, cur.set i r, by go_num, by go_num, by omega, by omega, (HU.out).setCell (Nat.le_refl _) _, Own.setByt HW.out i r, ⟨by simp; exact HI.out.1, HI.out.2.1.set i (by omega), ?_⟩⟩
          rw [HT1.out, HT2.out]
          exact borrow_step (by rw [HI.out.1]; omega) HI.out.2.2 HS.out
        case measure => simp [intOf]; omega
      · have e2 : Y[i]?.getD 0 = 0 := by rw [List.getElem?_eq_none (by rw [HL.out.2.1]; omega)]; rfl
        rw [e2] at HT2
        generalize X[i]?.getD 0 = p at *
        generalize cur[i]?.getD 0 = old at *
        have g3 : decide ((i : Int) < (L' : Int)) = false := decide_eq_false (by omega)
        have g4 : (L' : Int) ≤ (i : Int) := by omega
        obtain ⟨s, hs⟩ : ∃ s : Nat, (s : Int) = ((p : Int) - (cy : Int)) % 65536 := ⟨(((p : Int) - (cy : Int)) % 65536).toNat, by omega⟩
        obtain ⟨r, hr⟩ : ∃ r, r = s % 256 := ⟨_, rfl⟩
        obtain ⟨g, hg⟩ : ∃ g, g = s / 32768 := ⟨_, rfl⟩
        have s1 : IntKind.u16.wrap ((p : Int) - (cy : Int)) = (s : Int) := by rw [hs]; simp [IntKind.wrap, IntKind.bits, IntKind.signed]
        have s1' : ((p : Int) - (cy : Int)) % 65536 = (s : Int) := hs.symm
        have s2 : (s : Int) % 256 = (r : Int) := by omega
        have s3 : (s : Int) / 32768 = (g : Int) := by omega
        have sI : (s : Int) ≤ 65535 := by omega
        have s0 : (0 : Int) ≤ (s : Int) := by omega
        have r0 : (0 : Int) ≤ (r : Int) := by omega
        have r1 : (r : Int) < 256 := by omega
        have g0 : (0 : Int) ≤ (g : Int) := by omega
        have g9 : (g : Int) ≤ 1 := by omega
        have pI : (p : Int) < 256 := by omega
        have HS : Hid (r + 0 + cy = p + 256 * g) := by show _ = _; omega
        clear hs HX1 HY1 d1 e2 hr hg hl2
        go_wp2
        go_roundw
        case rel =>
          refine ⟨i + 1, g, cur.set i r, by go_num, by go_num, by omega, by omega, (HU.out).setCell (Nat.le_refl _) _, Own.setByt HW.out i r, ⟨by simp; exact HI.out.1, HI.out.2.1.set i (by omega), ?_⟩⟩
          rw [HT1.out, HT2.out]
          exact borrow_step (by rw [HI.out.1]; omega) HI.out.2.2 HS.out
        case measure => simp [intOf]; omega
    · obtain rfl : L = i := by omega
      have HV : Hid (bv cur = u - v) := by
        have h2 := HI.out.2.2
        have h3 := bv_lt HI.out.2.1
        have h4 := HL.out.2.2
        rw [bv_take_ge X (by rw [HL.out.1]; exact Nat.le_refl _), bv_take_ge Y (by rw [HL.out.2.1]; exact h4), bv_take_ge cur (by rw [HI.out.1]; exact Nat.le_refl _), HB.out.1, HB.out.2.1] at h2
        rw [HI.out.1] at h3
        have h5 := HB.out.2.2
        show _ = _
        rcases Nat.lt_or_ge cy 1 with h6 | h6
        · obtain rfl : cy = 0 := by omega
          rw [Nat.zero_mul] at h2
          omega
        · obtain rfl : cy = 1 := by omega
          rw [Nat.one_mul] at h2
          omega
      have C4 : Hid (Calls Tabg.prog 122 #[.slice (some ⟨w1.heap.size, 0, none⟩) L L] wr fun e w' => e = .returned (.slice (nrmA (some ⟨w1.heap.size, 0, none⟩) (bv cur)) (dig (bv cur)).length (dig (bv cur)).length) ∧ wr = w') :=
        trim_any (some ⟨w1.heap.size, 0, none⟩) L L cur wr (by have := Own.rdB HW.out HI.out.2.1; rwa [HI.out.1] at this) (Nat.le_refl _) (by omega)
      clear HX1 HY1
      go_wp2_with (fail)
      refine (C4.out).mono ?_
      rintro e w' ⟨rfl, rfl⟩
      go_wp2_with (fail)
      first | go_ret | go_ret2
      refine ⟨w1.heap.size, cur, ?_, (HU1.out).size, (HU1.out).trans HU.out, fun _ => ⟨HW.out, HI.out.2.1, HV.out⟩⟩
      rw [← HV.out]
      rfl
end Go.Proofs.Ygctab
