import Derived.Test.YgctabNatC
namespace Go.Proofs.Ygctab
open Go.RowKit
set_option linter.unusedVariables false
set_option linter.unusedSimpArgs false

theorem bv_set_val {cur : List Nat} {p : Nat} (r : Nat) (h : p < cur.length) : bv (cur.set p r) + 256 ^ p * (cur[p]?.getD 0) = bv cur + 256 ^ p * r := by
  have h1 := bv_split (cur.set p r) (p + 1) (by simp; omega)
  have h2 := bv_split cur (p + 1) (by omega)
  rw [bv_set h, List.drop_set_of_lt (by omega)] at h1
  rw [bv_take1] at h2
  omega
/-- One place of a row of the product. -/
theorem school_step {cur : List Nat} {p c t m V : Nat} (h : p < cur.length) (inv : bv cur + c * 256 ^ p = V) (ht : t = m + cur[p]?.getD 0 + c) :
    bv (cur.set p (t % 256)) + t / 256 * 256 ^ (p + 1) = V + 256 ^ p * m := by
  have h1 := bv_set_val (t % 256) h
  have e : 256 ^ p * (t % 256) + t / 256 * 256 ^ (p + 1) = 256 ^ p * t := by
    rw [Nat.pow_succ, show t / 256 * (256 ^ p * 256) = 256 ^ p * (256 * (t / 256)) by ac_rfl, ← Nat.mul_add]
    congr 1
    omega
  have e2 : 256 ^ p * t = 256 ^ p * m + 256 ^ p * (cur[p]?.getD 0) + c * 256 ^ p := by rw [ht, Nat.mul_add, Nat.mul_add, Nat.mul_comm c]
  omega

set_option maxRecDepth 100000 in
set_option maxHeartbeats 3200000 in
theorem school_pos (A A' : Option Addr) (L L' : Nat) (X Y : List Nat) (w : World) (hX : RdB w A L X) (hY : RdB w A' L' Y) (hL0 : 0 < L) (hL0' : 0 < L') (hL : L ≤ 4096) (hL' : L' ≤ 4096) (a a' : Option Addr) (n n' c c' : Nat)
    (C1' : Calls Tabg.prog 123 #[.slice a n c] w fun e w' => e = .returned (.slice A L L) ∧ w = w') (C2' : Calls Tabg.prog 123 #[.slice a' n' c'] w fun e w' => e = .returned (.slice A' L' L') ∧ w = w') :
    Calls Tabg.prog 70 #[.slice a n c, .slice a' n' c'] w fun e w' => Res w w' e (bv X * bv Y) := by
  have C1 : Hid (Calls Tabg.prog 123 #[.slice a n c] w fun e w' => e = .returned (.slice A L L) ∧ w = w') := C1'
  have C2 : Hid (Calls Tabg.prog 123 #[.slice a' n' c'] w fun e w' => e = .returned (.slice A' L' L') ∧ w = w') := C2'
  have HX : Hid (RdB w A L X) := hX
  have HY : Hid (RdB w A' L' Y) := hY
  have HL : Hid (L = X.length ∧ L' = Y.length) := ⟨hX.1, hY.1⟩
  have bI : (L : Int) ≤ 4096 := by omega
  have bI' : (L' : Int) ≤ 4096 := by omega
  have z1 : decide ((L : Int) = 0) = false := decide_eq_false (by omega)
  have z2 : ((L : Int) == 0) = false := by simp; omega
  have z3 : decide (L = 0) = false := decide_eq_false (by omega)
  have z4 : decide ((L' : Int) = 0) = false := decide_eq_false (by omega)
  have z5 : ((L' : Int) == 0) = false := by simp; omega
  have z6 : decide (L' = 0) = false := decide_eq_false (by omega)
  obtain ⟨M, hM⟩ : ∃ M, M = L + L' := ⟨_, rfl⟩
  have eM : (L : Int) + (L' : Int) = (M : Int) := by omega
  have hmk := fun w => run_make_row' (P := Tabg.prog) 87 5 (.int .u8 0) 1 Tabg.underlying87 (by kernel_rfl) rfl .i64 .i64 M (by omega) (by omega) w
  have hO := Own.made w 5 (.int .u8 0) M
  have e0 : List.replicate M (Value.int .u8 0) = u8s (List.replicate M 0) := u8s_replicate M 0
  rw [e0] at hO
  have HO : Hid (Own (w.alloc (.cells (madeCells #[.int .u8 0] M) 5)) w.heap.size 5 (u8s (List.replicate M 0))) := hO
  have hMI : (M : Int) ≤ 8192 := by omega
  have hMg : (1 : Int) ≤ (M : Int) := by omega
  have HM : Hid (M = L + L') := hM
  clear hM hO e0 C1' C2' hX hY hL0 hL0'
  go_enter Tabg.func70, Tabg.ntmps70
  go_wp2_with (fail)
  refine (C1.out).mono ?_
  rintro e w' ⟨rfl, rfl⟩
  go_wp2_with (fail)
  refine (C2.out).mono ?_
  rintro e w' ⟨rfl, rfl⟩
  clear C1 C2
  go_wp2_with (fail)
  go_loopw [6] (fun t wr => ∃ (i : Nat) (cur : List Nat), t = .int .i64 i ∧ i ≤ L ∧ Hid (Up w wr) ∧ Hid (Own wr w.heap.size 5 (u8s cur)) ∧ Hid (cur.length = M ∧ Digs cur ∧ bv cur = bv (X.take i) * bv Y ∧ ∀ m, i + L' ≤ m → cur[m]?.getD 0 = 0)) (fun t _ => L - (intOf t).toNat)
  case atStart => exact ⟨0, List.replicate M 0, rfl, by omega, (Up.refl w).alloc _, HO.out, ⟨by simp, digs_zero _, by rw [bv_zeros, List.take_zero, bv, Nat.zero_mul], fun m hm => by rw [List.getElem?_replicate]; split <;> rfl⟩⟩
  case round =>
    obtain ⟨i, cur, rfl, hi, HU, HW, HI⟩ := hrel
    clear hmk HO z1 z2 z3 z4 z5 z6
    by_cases hlt : i < L
    · obtain ⟨b, off, rfl, k1⟩ := (HX.out).2.2 i (by rw [← HL.out.1]; exact hlt)
      have d1 := (HX.out).2.1.at i
      have HT1 : Hid (bv (X.take (i + 1)) = bv (X.take i) + 256 ^ i * (X[i]?.getD 0)) := bv_take1 X i
      generalize X[i]?.getD 0 = p at *
      have i0 : (0 : Int) ≤ (i : Int) := by omega
      have im : (i : Int) < (L : Int) := by omega
      have pI : (p : Int) < 256 := by omega
      have p0 : (0 : Int) ≤ (p : Int) := by omega
      have HP : Hid (p < 256) := d1
      clear d1 HX
      go_wp2_with (fail)
      rename_i wrO
      go_loopw [7, 8] (fun t7 t8 wr => ∃ (j cy : Nat) (cu : List Nat), t7 = .int .u32 cy ∧ t8 = .int .i64 j ∧ j ≤ L' ∧ cy ≤ 255 ∧ Hid (Up w wr) ∧ Hid (Own wr w.heap.size 5 (u8s cu)) ∧ Hid (cu.length = M ∧ Digs cu ∧ bv cu + cy * 256 ^ (i + j) = bv (X.take i) * bv Y + 256 ^ i * (p * bv (Y.take j)) ∧ ∀ m, i + L' ≤ m → cu[m]?.getD 0 = 0)) (fun _ t8 _ => L' - (intOf t8).toNat)
      case atStart => exact ⟨0, 0, cur, rfl, rfl, by omega, by omega, HU, HW, ⟨HI.out.1, HI.out.2.1, by rw [HI.out.2.2.1, List.take_zero, bv]; simp, HI.out.2.2.2⟩⟩
      case round =>
        clear HU HW HI
        obtain ⟨j, cy, cu, rfl, rfl, hj, hcy, HU, HW, HI⟩ := hrel
        by_cases hltj : j < L'
        · obtain ⟨b', off', rfl, k2⟩ := (HY.out).2.2 j (by rw [← HL.out.2]; exact hltj)
          have k1r := (HU.out).cell k1
          replace k2 := (HU.out).cell k2
          have d2 := (HY.out).2.1.at j
          obtain ⟨k, hk⟩ : ∃ k, k = i + j := ⟨_, rfl⟩
          have ek : (i : Int) + (j : Int) = (k : Int) := by omega
          have cz := Own.byt HW.out (i := k) (by rw [HI.out.1]; have := HM.out; omega)
          have fz := Own.free HW.out k
          have d3 := HI.out.2.1.at k
          have HT2 : Hid (bv (Y.take (j + 1)) = bv (Y.take j) + 256 ^ j * (Y[j]?.getD 0)) := bv_take1 Y j
          generalize Y[j]?.getD 0 = q at *
          obtain ⟨old, hold⟩ : ∃ old, old = cu[k]?.getD 0 := ⟨_, rfl⟩
          rw [← hold] at cz d3
          obtain ⟨pq, hpq⟩ : ∃ pq, pq = p * q := ⟨_, rfl⟩
          have hpq2 : pq ≤ 255 * 255 := by rw [hpq]; have := HP.out; exact Nat.mul_le_mul (by omega) (by omega)
          have epq : (p : Int) * (q : Int) = (pq : Int) := by rw [hpq]; simp
          obtain ⟨t1, ht1⟩ : ∃ t1, t1 = pq + old := ⟨_, rfl⟩
          have et1 : (pq : Int) + (old : Int) = (t1 : Int) := by omega
          obtain ⟨t, ht⟩ : ∃ t, t = t1 + cy := ⟨_, rfl⟩
          have et : (t1 : Int) + (cy : Int) = (t : Int) := by omega
          obtain ⟨r, hr⟩ : ∃ r, r = t % 256 := ⟨_, rfl⟩
          obtain ⟨g, hg⟩ : ∃ g, g = t / 256 := ⟨_, rfl⟩
          have er : (t : Int) % 256 = (r : Int) := by omega
          have eg : (t : Int) / 256 = (g : Int) := by omega
          have HS : Hid (t = pq + cu[k]?.getD 0 + cy ∧ r = t % 256 ∧ g = t / 256 ∧ k = i + j ∧ pq = p * q) := ⟨by rw [← hold]; omega, hr, hg, hk, hpq⟩
          have j0 : (0 : Int) ≤ (j : Int) := by omega
          have jm : (j : Int) < (L' : Int) := by omega
          have k0 : (0 : Int) ≤ (k : Int) := by omega
          have km : (k : Int) < (M : Int) := by have := HM.out; omega
          have pqI : (pq : Int) ≤ 65025 := by omega
          have t1I : (t1 : Int) ≤ 65280 := by omega
          have tI : (t : Int) ≤ 65535 := by omega
          have r0 : (0 : Int) ≤ (r : Int) := by omega
          have r1 : (r : Int) < 256 := by omega
          have g0 : (0 : Int) ≤ (g : Int) := by omega
          have g1 : (g : Int) ≤ 255 := by omega
          have qI : (q : Int) < 256 := by omega
          have oI : (old : Int) < 256 := by omega
          have cI : (cy : Int) ≤ 255 := by omega
          clear hk hold hpq ht1 ht hr hg d2 d3 hpq2 HY k1
          go_wp2
          go_quiet (fail)
          go_wp2
          go_roundw
          case rel =>
            refine ⟨j + 1, g, cu.set k r, by go_num, by go_num, by omega, by omega, ((HU.out).drewN _).setCell (Nat.le_refl _) _, Own.setByt (Own.drewN HW.out _) k r, ⟨by simp; exact HI.out.1, HI.out.2.1.set k (by omega), ?_, ?_⟩⟩
            · have hkk := HS.out.2.2.2.1
              have h1 := school_step (p := k) (c := cy) (V := bv (X.take i) * bv Y + 256 ^ i * (p * bv (Y.take j))) (by rw [HI.out.1]; have := HM.out; omega) (by rw [hkk]; exact HI.out.2.2.1) HS.out.1
              rw [← HS.out.2.1, ← HS.out.2.2.1] at h1
              rw [show i + (j + 1) = k + 1 by omega, h1, HT2.out, HS.out.2.2.2.2, hkk, Nat.pow_add, Nat.mul_add p, Nat.mul_add (256 ^ i)]
              have : 256 ^ i * 256 ^ j * (p * q) = 256 ^ i * (p * (256 ^ j * q)) := by ac_rfl
              omega
            · intro m hm
              have hkk := HS.out.2.2.2.1
              rw [List.getElem?_set_ne (by omega)]
              exact HI.out.2.2.2 m hm
          case measure => simp [intOf]; omega
        · obtain rfl : L' = j := by omega
          obtain ⟨k, hk⟩ : ∃ k, k = i + L' := ⟨_, rfl⟩
          have ek : (i : Int) + (L' : Int) = (k : Int) := by omega
          have cz := Own.byt HW.out (i := k) (by rw [HI.out.1]; have := HM.out; omega)
          have fz := Own.free HW.out k
          generalize cu[k]?.getD 0 = old at *
          have HK : Hid (k = i + L') := hk
          have k0 : (0 : Int) ≤ (k : Int) := by omega
          have km : (k : Int) < (M : Int) := by have := HM.out; omega
          have cI : (cy : Int) ≤ 255 := by omega
          have c0 : (0 : Int) ≤ (cy : Int) := by omega
          clear hk HY k1
          go_wp2
          go_roundw
          case rel =>
            refine ⟨i + 1, cu.set k cy, by go_num, by omega, (HU.out).setCell (Nat.le_refl _) _, Own.setByt HW.out k cy, ⟨by simp; exact HI.out.1, HI.out.2.1.set k (by omega), ?_, ?_⟩⟩
            · have h1 := bv_set_val (cur := cu) (p := k) cy (by rw [HI.out.1]; have := HM.out; omega)
              have hkk := HK.out
              rw [HI.out.2.2.2 k (by omega), Nat.mul_zero, Nat.add_zero] at h1
              have h2 := HI.out.2.2.1
              rw [← hkk, bv_take_ge Y (by rw [HL.out.2]; exact Nat.le_refl _)] at h2
              rw [h1, HT1.out, Nat.add_mul]
              have h3 : cy * 256 ^ k = 256 ^ k * cy := Nat.mul_comm _ _
              have h4 : 256 ^ i * p * bv Y = 256 ^ i * (p * bv Y) := by ac_rfl
              omega
            · intro m hm
              have hkk := HK.out
              rw [List.getElem?_set_ne (by omega)]
              exact HI.out.2.2.2 m (by omega)
          case measure => simp [intOf]; omega
    · obtain rfl : L = i := by omega
      have HV : Hid (bv cur = bv X * bv Y) := by have := HI.out.2.2.1; rwa [bv_take_ge X (by rw [HL.out.1]; exact Nat.le_refl _)] at this
      have C3 : Hid (Calls Tabg.prog 123 #[.slice (some ⟨w.heap.size, 0, none⟩) M M] wr fun e w' => e = .returned (.slice (nrmA (some ⟨w.heap.size, 0, none⟩) (bv cur)) (dig (bv cur)).length (dig (bv cur)).length) ∧ wr = w') :=
        strip_any (some ⟨w.heap.size, 0, none⟩) M M cur wr (by have := Own.rdB HW.out HI.out.2.1; rwa [HI.out.1] at this) (Nat.le_refl _) (by omega)
      clear HX HY
      go_wp2_with (fail)
      refine (C3.out).mono ?_
      rintro e w' ⟨rfl, rfl⟩
      go_wp2_with (fail)
      go_ret
      refine ⟨w.heap.size, cur, ?_, Nat.le_refl _, HU.out, fun _ => ⟨HW.out, HI.out.2.1, HV.out⟩⟩
      rw [← HV.out]
      rfl

set_option maxRecDepth 100000 in
theorem school_any (a a' : Option Addr) (n n' c c' : Nat) (xs ys : List Nat) (w : World) (h : RdB w a n xs) (h' : RdB w a' n' ys) (hc : n ≤ c) (hc' : n' ≤ c') (hn : n ≤ 4096) (hn' : n' ≤ 4096) :
    Calls Tabg.prog 70 #[.slice a n c, .slice a' n' c'] w fun e w' => Res w w' e (bv xs * bv ys) := by
  have C1' := strip_any a n c xs w h hc (by omega)
  have C2' := strip_any a' n' c' ys w h' hc' (by omega)
  have b1 : (dig (bv xs)).length ≤ 4096 := Nat.le_trans (dig_len h.2.1) (by rw [← h.1]; exact hn)
  have b2 : (dig (bv ys)).length ≤ 4096 := Nat.le_trans (dig_len h'.2.1) (by rw [← h'.1]; exact hn')
  by_cases h0 : bv xs ≠ 0 ∧ bv ys ≠ 0
  · have := school_pos _ _ _ _ _ _ w h.nrm h'.nrm (dig_length_pos h0.1) (dig_length_pos h0.2) b1 b2 a a' n n' c c' C1' C2'
    rwa [bv_dig, bv_dig] at this
  · have hz : bv xs * bv ys = 0 := by
      by_cases h1 : bv xs = 0
      · rw [h1, Nat.zero_mul]
      · rw [show bv ys = 0 from Classical.byContradiction fun h2 => h0 ⟨h1, h2⟩, Nat.mul_zero]
    rw [hz]
    have HF : Hid (∀ w : World, Res w w (.returned (.slice none 0 0)) 0) := fun w => ⟨w.heap.size, [], by rw [dig_zero]; rfl, Nat.le_refl _, Up.refl _, fun h => absurd rfl h⟩
    by_cases h1 : bv xs = 0
    · rw [h1, dig_zero] at C1'
      have C1 : Hid (Calls Tabg.prog 123 #[.slice a n c] w fun e w' => e = .returned (.slice none 0 0) ∧ w = w') := C1'
      have C2 : Hid (Calls Tabg.prog 123 #[.slice a' n' c'] w fun e w' => e = .returned (.slice (nrmA a' (bv ys)) (dig (bv ys)).length (dig (bv ys)).length) ∧ w = w') := C2'
      generalize nrmA a' (bv ys) = A' at *
      generalize (dig (bv ys)).length = L' at *
      clear C1' C2' h h' h0 hz h1
      go_enter Tabg.func70, Tabg.ntmps70
      go_wp2_with (fail)
      refine (C1.out).mono ?_
      rintro e w' ⟨rfl, rfl⟩
      go_wp2_with (fail)
      refine (C2.out).mono ?_
      rintro e w' ⟨rfl, rfl⟩
      go_wp2_with (fail)
      go_ret
      exact HF.out _
    · have h2 : bv ys = 0 := Classical.byContradiction fun h2 => h0 ⟨h1, h2⟩
      rw [h2, dig_zero] at C2'
      have hp := dig_length_pos h1
      have C1 : Hid (Calls Tabg.prog 123 #[.slice a n c] w fun e w' => e = .returned (.slice (nrmA a (bv xs)) (dig (bv xs)).length (dig (bv xs)).length) ∧ w = w') := C1'
      have C2 : Hid (Calls Tabg.prog 123 #[.slice a' n' c'] w fun e w' => e = .returned (.slice none 0 0) ∧ w = w') := C2'
      generalize nrmA a (bv xs) = A at *
      generalize (dig (bv xs)).length = L at *
      have z1 : decide ((L : Int) = 0) = false := decide_eq_false (by omega)
      have z2 : ((L : Int) == 0) = false := by simp; omega
      have z3 : decide (L = 0) = false := decide_eq_false (by omega)
      clear C1' C2' h h' h0 hz h1 h2 hp
      go_enter Tabg.func70, Tabg.ntmps70
      go_wp2_with (fail)
      refine (C1.out).mono ?_
      rintro e w' ⟨rfl, rfl⟩
      go_wp2_with (fail)
      refine (C2.out).mono ?_
      rintro e w' ⟨rfl, rfl⟩
      go_wp2_with (fail)
      go_ret
      exact HF.out _
end Go.Proofs.Ygctab
