import Derived.Test.YgctabFftJ
namespace Go.Proofs.Ygctab
open Go.RowKit
set_option linter.unusedVariables false
set_option linter.unusedSimpArgs false

theorem cmask_pow (a n k : Nat) (hn : n = 2 ^ k) : a &&& (n - 1) = a % n := by rw [hn]; exact Nat.and_two_pow_sub_one_eq_mod a k

set_option maxRecDepth 100000 in
theorem cdft_no (a a' : Option Addr) (n h c c' : Nat) (w : World) (CF' : ∀ w, Calls Tabg.prog 146 #[.int .i64 n, .int .i64 h] w fun e w' => e = .returned (.bool false) ∧ w = w') :
    Calls Tabg.prog 107 #[.slice a n c, .slice a' h c'] w fun e w' => e = .returned (.slice none 0 0) ∧ w = w' := by
  have CF : Hid (∀ w, Calls Tabg.prog 146 #[.int .i64 n, .int .i64 h] w fun e w' => e = .returned (.bool false) ∧ w = w') := CF'
  clear CF'
  go_enter Tabg.func107, Tabg.ntmps107
  go_wp2_with (go_at_call 146; refine (CF.out _).mono ?_; rintro e w' ⟨rfl, rfl⟩)
  go_ret
  exact ⟨rfl, rfl⟩

set_option maxRecDepth 100000 in
set_option maxHeartbeats 1600000 in
theorem cdft_yes (b off k n h c ct : Nat) (at' : Option Addr) (xs tab : List (Nat × Nat)) (w : World) (hx : RdC w (some ⟨b, off, none⟩) n xs) (ht : RdC w at' h tab)
    (hk : k ≤ 11) (hxk : n = 2 ^ k) (hh : h ≤ 2048) (CF' : ∀ w, Calls Tabg.prog 146 #[.int .i64 n, .int .i64 h] w fun e w' => e = .returned (.bool true) ∧ w = w') :
    Calls Tabg.prog 107 #[.slice (some ⟨b, off, none⟩) n c, .slice at' h ct] w fun e w' => ∃ B, e = .returned (.slice (some ⟨B, 0, none⟩) n n) ∧ Up w w' := by
  have CF : Hid (∀ w, Calls Tabg.prog 146 #[.int .i64 n, .int .i64 h] w fun e w' => e = .returned (.bool true) ∧ w = w') := CF'
  have hxl : n ≤ 2048 := by rw [hxk]; exact Nat.pow_le_pow_right (by decide) hk
  have hx0 : 0 < n := by rw [hxk]; exact Nat.pow_pos (by decide)
  have HXK : Hid (n = 2 ^ k) := hxk
  have hmk := fun w => run_make_row' (P := Tabg.prog) 71 27 (.complex .f64 0 0) 16 Tabg.underlying71 (by kernel_rfl) rfl .i64 .i64 n (by omega) (by omega) w
  have CW : Hid (∀ w1 (m : Nat), Up w w1 → m ≤ 8192 → Calls Tabg.prog 108 #[.slice at' h ct, .int .i64 m] w1 fun e w' => (∃ p q, e = .returned (.complex .f64 p q)) ∧ w1 = w') := fun w1 m hu hm =>
    w_any at' h ct m tab w1 (ht.up hu) (by omega) (by omega) (by omega)
  have HX : Hid (∀ i, i < n → ∃ p q, w.cell? ⟨b, off + i, none⟩ = some (.complex .f64 p q)) := fun i hi => by
    obtain ⟨b', off', e, hc⟩ := hx.2 i (by rw [← hx.1]; exact hi)
    cases e
    exact ⟨_, _, hc⟩
  have hO := Own.made w 27 (.complex .f64 0 0) n
  rw [cxs_replicate] at hO
  have HO : Hid (Own (w.alloc (.cells (madeCells #[.complex .f64 0 0] n) 27)) w.heap.size 27 (cxs (List.replicate n (0, 0)))) := hO
  clear hx ht hxk CF' hO
  go_enter Tabg.func107, Tabg.ntmps107
  go_wp2_with (go_at_call 146; refine (CF.out _).mono ?_; rintro e w' ⟨rfl, rfl⟩)
  go_loopw [7] (fun t wr => ∃ (i : Nat) (cur : List (Nat × Nat)), t = .int .i64 i ∧ i ≤ n ∧ Hid (Up w wr) ∧ Hid (Own wr w.heap.size 27 (cxs cur)) ∧ Hid (cur.length = n)) (fun t _ => n - (intOf t).toNat)
  case atStart => exact ⟨0, _, rfl, by omega, (Up.refl w).alloc _, HO, by show _ = _; simp⟩
  case round =>
    clear HO CF
    obtain ⟨i, cur, rfl, hi, HU, HO, HL⟩ := hrel
    by_cases hlt : i < n
    · have C1 : Hid (Calls Tabg.prog 108 #[.slice at' h ct, .int .i64 i] wr fun e w' => (∃ p q, e = .returned (.complex .f64 p q)) ∧ wr = w') := CW.out wr i HU.out (by omega)
      have cz := Own.cx (HO.out) (i := i) (by rw [HL.out]; exact hlt)
      have fz := Own.free HO.out i
      generalize zat cur i = old at *
      have i0 : (0 : Int) ≤ (i : Int) := by omega
      have im : (i : Int) < (n : Int) := by omega
      clear hmk
      go_wp2_with (go_at_call 108; refine (C1.out).mono ?_; rintro e w' ⟨⟨p, q, rfl⟩, rfl⟩)
      go_roundw
      case rel => exact ⟨i + 1, _, by go_num, by omega, (HU.out).setCell (Nat.le_refl _) _, Own.setCx HO.out i _ _, by show _ = _; rw [List.length_set]; exact HL.out⟩
      case measure => simp [intOf]; omega
    · obtain rfl : n = i := by omega
      clear CW
      have hO := Own.made wr 27 (.complex .f64 0 0) n
      rw [cxs_replicate] at hO
      have HO2 : Hid (Own (wr.alloc (.cells (madeCells #[.complex .f64 0 0] n) 27)) wr.heap.size 27 (cxs (List.replicate n (0, 0)))) := hO
      have HLT : Hid (w.heap.size < wr.heap.size) := (HO.out).lt
      have HW2 : Hid (Own (wr.alloc (.cells (madeCells #[.complex .f64 0 0] n) 27)) w.heap.size 27 (cxs cur)) := (HO.out).alloc _
      clear hO HO
      obtain ⟨w1, rfl⟩ : ∃ w1 : World, w1 = wr := ⟨_, rfl⟩
      go_wp2
      clear hmk
      go_loopw [9] (fun t wr => ∃ (j : Nat) (ys : List (Nat × Nat)), t = .int .i64 j ∧ j ≤ n ∧ Hid (Up w wr) ∧ Hid (Own wr w1.heap.size 27 (cxs ys)) ∧ Hid (Own wr w.heap.size 27 (cxs cur)) ∧ Hid (ys.length = n)) (fun t _ => n - (intOf t).toNat)
      case atStart => exact ⟨0, _, rfl, by omega, (HU.out).alloc _, HO2, HW2, by show _ = _; simp⟩
      case round =>
        clear HO2 HW2 HU
        obtain ⟨j, ys, rfl, hj, HU, HO, HW, HY⟩ := hrel
        by_cases hjl : j < n
        · have hjI : (j : Int) < (n : Int) := by omega
          go_wp2
          go_loopw [10, 11, 12] (fun s t u wr => ∃ (p q at' i : Nat), s = .complex .f64 p q ∧ t = .int .i64 at' ∧ u = .int .i64 i ∧ at' < n ∧ i ≤ n ∧ Hid (Up w wr) ∧ Hid (Own wr w1.heap.size 27 (cxs ys)) ∧ Hid (Own wr w.heap.size 27 (cxs cur))) (fun _ _ u _ => n - (intOf u).toNat)
          case atStart => exact ⟨0, 0, 0, 0, rfl, rfl, rfl, hx0, by omega, HU, HO, HW⟩
          case round =>
            clear HU HO HW
            obtain ⟨z1, z2, at2, i, rfl, rfl, rfl, hat, hi, HU, HO, HW⟩ := hrel
            by_cases hil : i < n
            · obtain ⟨a1, a2, ca⟩ := HX.out i hil
              replace ca := (HU.out).cell ca
              have cb := Own.cx HW.out (i := at2) (by rw [HL.out]; exact hat)
              generalize zat cur at2 = bb at *
              obtain ⟨b1, b2⟩ := bb
              have i0 : (0 : Int) ≤ (i : Int) := by omega
              have im : (i : Int) < (n : Int) := by omega
              have at0 : (0 : Int) ≤ (at2 : Int) := by omega
              have atm : (at2 : Int) < (n : Int) := by omega
              obtain ⟨y, hy⟩ : ∃ y, y = (at2 + j) % n := ⟨_, rfl⟩
              have hbits := i64_and (at2 + j) (n - 1) (by omega) (by omega)
              rw [cmask_pow _ _ k HXK.out, ← hy] at hbits
              have hpos : y < n := by rw [hy]; exact Nat.mod_lt _ hx0
              have ec : ((n - 1 : Nat) : Int) = (n : Int) - 1 := by omega
              have ec2 : ((at2 + j : Nat) : Int) = (at2 : Int) + (j : Int) := by omega
              rw [ec, ec2] at hbits
              have hone : ((1 : Int)) ≤ (n : Int) := by omega
              have CM : Hid (∀ w, Calls Tabg.prog 147 #[.complex .f64 a1 a2, .complex .f64 b1 b2] w fun e w' => ∃ p q, e = .returned (.complex .f64 p q) ∧ clsC (p, q) = mulX (clsC (a1, a2)) (clsC (b1, b2)) ∧ Up w w') := fun w => mul_any _ _ _ _ w
              have r := fun a b c d w => run_cop (P := Tabg.prog) (op := .add) (.inl rfl) 27 a b c d w
              clear ec ec2 hy
              go_wp2
              go_region_with (first | (go_at_call 147; refine (CM.out _).mono ?_; rintro e wL ⟨v1, v2, rfl, HMU', uL⟩; have HUL : Hid (Up wr wL) := Up.trans ((Up.refl wr).drewN _) uL; clear uL HMU'))
              all_goals go_wp2
              all_goals go_roundw
              all_goals first
                | (simp [intOf]; omega)
                | exact ⟨_, _, y, i + 1, rfl, rfl, by go_num, hpos, by omega, ((HU.out).trans HUL.out).drewN _, Own.drewN (Own.up HO.out HUL.out) _, Own.drewN (Own.up HW.out HUL.out) _⟩
            · have y0 := Own.cx HO.out (i := j) (by rw [HY.out]; exact hjl)
              have f0 := Own.free HO.out j
              generalize zat ys j = old at *
              have j0 : (0 : Int) ≤ (j : Int) := by omega
              go_wp2
              go_roundw
              case rel =>
                have n1 : w.heap.size ≠ w1.heap.size := by have := HLT.out; omega
                exact ⟨j + 1, _, by go_num, by omega, (HU.out).setCell (by show _ ≤ w1.heap.size; have := HLT.out; omega) _, Own.setCx HO.out j _ _, Own.other HW.out n1 _, by show _ = _; rw [List.length_set]; exact HY.out⟩
              case measure => simp [intOf]; omega
        · go_wp2
          go_ret
          exact ⟨_, rfl, HU.out⟩
end Go.Proofs.Ygctab
