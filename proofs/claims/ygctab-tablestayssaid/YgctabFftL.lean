import Derived.Test.YgctabFftK
import Derived.Test.YgctabFltD
namespace Go.Proofs.Ygctab
open Go.RowKit
set_option linter.unusedVariables false
set_option linter.unusedSimpArgs false

set_option maxRecDepth 100000 in
theorem forward_no (a a' : Option Addr) (n h c c' : Nat) (w : World) (CF' : ∀ w, Calls Tabg.prog 146 #[.int .i64 n, .int .i64 h] w fun e w' => e = .returned (.bool false) ∧ w = w') :
    Calls Tabg.prog 105 #[.slice a n c, .slice a' h c'] w fun e w' => e = .returned (.bool false) ∧ w = w' := by
  have CF : Hid (∀ w, Calls Tabg.prog 146 #[.int .i64 n, .int .i64 h] w fun e w' => e = .returned (.bool false) ∧ w = w') := CF'
  clear CF'
  go_enter Tabg.func105, Tabg.ntmps105
  go_wp2_with (go_at_call 146; refine (CF.out _).mono ?_; rintro e w' ⟨rfl, rfl⟩)
  go_ret
  exact ⟨rfl, rfl⟩

set_option maxRecDepth 100000 in
theorem inverse_no (a a' : Option Addr) (n h c c' : Nat) (w : World) (CF' : ∀ w, Calls Tabg.prog 146 #[.int .i64 n, .int .i64 h] w fun e w' => e = .returned (.bool false) ∧ w = w') :
    Calls Tabg.prog 106 #[.slice a n c, .slice a' h c'] w fun e w' => e = .returned (.bool false) ∧ w = w' := by
  have CF : Hid (∀ w, Calls Tabg.prog 146 #[.int .i64 n, .int .i64 h] w fun e w' => e = .returned (.bool false) ∧ w = w') := CF'
  clear CF'
  go_enter Tabg.func106, Tabg.ntmps106
  go_wp2_with (go_at_call 146; refine (CF.out _).mono ?_; rintro e w' ⟨rfl, rfl⟩)
  go_ret
  exact ⟨rfl, rfl⟩

set_option maxRecDepth 100000 in
theorem forward_one (bx cx ct : Nat) (at' : Option Addr) (x : Nat × Nat) (w : World) (hx : Own w bx 27 (cxs [x])) :
    Calls Tabg.prog 105 #[.slice (some ⟨bx, 0, none⟩) 1 cx, .slice at' 0 ct] w fun e w' => e = .returned (.bool true) ∧ Mod bx w w' ∧ Own w' bx 27 (cxs [x]) := by
  have CF : Hid (∀ w, Calls Tabg.prog 146 #[.int .i64 1, .int .i64 0] w fun e w' => e = .returned (.bool true) ∧ w = w') := fits_one
  have CL : Hid (∀ w, Calls Tabg.prog 145 #[.int .i64 1] w fun e w' => e = .returned (.int .i64 0) ∧ w = w') := fun w => flevel_pow 0 1 (by decide) rfl w
  have hr : revL (0, 0) [x] = [x] := by rfl
  have CR : Hid (Calls Tabg.prog 148 #[.slice (some ⟨bx, 0, none⟩) 1 cx] w fun e w' => e = .returned (.tuple #[]) ∧ Mod bx w w' ∧ Own w' bx 27 (cxs [x])) := by
    have := freverse_any bx 0 cx [x] w hx (by decide) rfl
    rw [hr] at this
    exact this
  clear hx hr
  go_enter Tabg.func105, Tabg.ntmps105
  go_wp2_with (first | (go_at_call 146; refine (CF.out _).mono ?_; rintro e w' ⟨rfl, rfl⟩) | (go_at_call 148; refine (CR.out).mono ?_; rintro e w1 ⟨rfl, hm1, ho1⟩; have HM1 : Hid (Mod bx w w1) := hm1; have HO1 : Hid (Own w1 bx 27 (cxs [x])) := ho1; clear hm1 ho1) | (go_at_call 145; refine (CL.out _).mono ?_; rintro e w' ⟨rfl, rfl⟩))
  refine wp_loop_rounds 1 ?_
  rw [rounds_succ]
  go_wp2
  go_ret
  exact ⟨rfl, HM1.out, HO1.out⟩

theorem one_float : floatOfInt .f64 1 = oneF := by decide

set_option maxRecDepth 100000 in
set_option maxHeartbeats 1600000 in
theorem inverse_gen (bx n h ct cx : Nat) (at' : Option Addr) (tab : List (Nat × Nat)) (Y : Nat → Cx) (w : World) (hbx : bx < w.heap.size) (ht : RdC w at' tab.length tab)
    (hn : n ≤ 2048) (hth : tab.length = h) (hh : h ≤ 2048)
    (CF' : ∀ w, Calls Tabg.prog 146 #[.int .i64 n, .int .i64 h] w fun e w' => e = .returned (.bool true) ∧ w = w')
    (CFW' : ∀ w1, Up w w1 → Own w1 w.heap.size 27 (cxs (conjL tab)) → Calls Tabg.prog 105 #[.slice (some ⟨bx, 0, none⟩) n cx, .slice (some ⟨w.heap.size, 0, none⟩) h h] w1 fun e w' => e = .returned (.bool true) ∧ Mod bx w1 w' ∧ ∃ ys, ys.length = n ∧ Own w' bx 27 (cxs ys) ∧
      ∀ i, i < n → clsC (zat ys i) = Y i) :
    Calls Tabg.prog 106 #[.slice (some ⟨bx, 0, none⟩) n cx, .slice at' h ct] w fun e w' => e = .returned (.bool true) ∧ Mod bx w w' ∧ ∃ ys, ys.length = n ∧ Own w' bx 27 (cxs ys) ∧
      ∀ i, i < n → clsC (zat ys i) = divX (floatOfInt .f64 n) (Y i) := by
  have CF : Hid (∀ w, Calls Tabg.prog 146 #[.int .i64 n, .int .i64 h] w fun e w' => e = .returned (.bool true) ∧ w = w') := CF'
  have hmk := fun w => run_make_row' (P := Tabg.prog) 71 27 (.complex .f64 0 0) 16 Tabg.underlying71 (by kernel_rfl) rfl .i64 .i64 tab.length (by omega) (by omega) w
  have hO := Own.made w 27 (.complex .f64 0 0) tab.length
  rw [cxs_replicate] at hO
  have HO : Hid (Own (w.alloc (.cells (madeCells #[.complex .f64 0 0] tab.length) 27)) w.heap.size 27 (cxs (List.replicate tab.length (0, 0)))) := hO
  have HZ : Hid (∀ i, i < tab.length → (conjL tab)[i]? = some ((zat tab i).1, negF (zat tab i).2)) := fun i hi => conjL_at hi
  have HL : Hid ((conjL tab).length = tab.length) := conjL_length tab
  have HAT : Hid (∀ i, i < tab.length → ∃ b off, at' = some ⟨b, off, none⟩ ∧ w.cell? ⟨b, off + i, none⟩ = some (.complex .f64 (zat tab i).1 (zat tab i).2)) := ht.2
  have CFW : Hid (∀ w1, Up w w1 → Own w1 w.heap.size 27 (cxs (conjL tab)) → Calls Tabg.prog 105 #[.slice (some ⟨bx, 0, none⟩) n cx, .slice (some ⟨w.heap.size, 0, none⟩) h h] w1 fun e w' => e = .returned (.bool true) ∧ Mod bx w1 w' ∧ ∃ ys, ys.length = n ∧ Own w' bx 27 (cxs ys) ∧
      ∀ i, i < n → clsC (zat ys i) = Y i) := CFW'
  have HX : Hid (0 = 0) := rfl
  clear hO ht CF' CFW'
  generalize hcs : conjL tab = cs at *
  clear hcs
  rw [hth] at hmk HO HZ HL HAT
  have HTH : Hid (tab.length = h) := hth
  clear hth
  have hmI : (h : Int) ≤ 2048 := by omega
  go_enter Tabg.func106, Tabg.ntmps106
  go_wp2_with (go_at_call 146; refine (CF.out _).mono ?_; rintro e w' ⟨rfl, rfl⟩)
  go_loopw [6] (fun t wr => ∃ i : Nat, t = .int .i64 i ∧ i ≤ h ∧ Up w wr ∧ Hid (Own wr w.heap.size 27 (cxs (cs.take i ++ List.replicate (cs.length - i) (0, 0))))) (fun t _ => h - (intOf t).toNat)
  case atStart => exact ⟨0, rfl, by omega, (Up.refl w).alloc _, by show Own _ _ _ _; rw [List.take_zero, List.nil_append, HL.out]; exact HO.out⟩
  case round =>
    clear hmk HO
    obtain ⟨i, rfl, hi, hU, ho⟩ := hrel
    by_cases hlt : i < h
    · obtain ⟨b, off, rfl, hc0⟩ := HAT.out i hlt
      replace hc0 := hU.cell hc0
      have hst := fill_cx cs i (by rw [HL.out]; exact hlt) _ _ (HZ.out i hlt)
      have HS : Hid ((cs.take i ++ List.replicate (cs.length - i) (0, 0)).set i ((zat tab i).1, negF (zat tab i).2) = cs.take (i + 1) ++ List.replicate (cs.length - (i + 1)) (0, 0)) := hst
      clear hst
      have hll : (cs.take i ++ List.replicate (cs.length - i) ((0, 0) : Nat × Nat)).length = h := by simp; rw [HL.out]; omega
      have cz := Own.cx (ho.out) (i := i) (by rw [hll]; exact hlt)
      have fz := Own.free ho.out i
      generalize zat (cs.take i ++ List.replicate (cs.length - i) (0, 0)) i = old at *
      generalize zat tab i = z at *
      obtain ⟨z1, z2⟩ := z
      have cC := conj_any z1 z2
      have CC : Hid (∀ w, Calls Tabg.prog 149 #[.complex .f64 z1 z2] w fun e w' => e = .returned (.complex .f64 z1 (negF z2)) ∧ w = w') := cC
      have i0 : (0 : Int) ≤ (i : Int) := by omega
      have im : (i : Int) < (h : Int) := by omega
      clear hll cC
      go_wp2_with (go_at_call 149; refine (CC.out _).mono ?_; rintro e w' ⟨rfl, rfl⟩)
      go_roundw
      case rel =>
        refine ⟨i + 1, by go_num, by omega, hU.setCell (Nat.le_refl _) _, ?_⟩
        show Own _ _ _ _
        rw [← HS.out]
        exact Own.setCx ho.out i _ _
      case measure => simp [intOf]; omega
    · obtain rfl : i = h := by omega
      have h1 : Own wr w.heap.size 27 (cxs cs) := by
        have h1 := ho.out
        rw [← HL.out, List.take_of_length_le (Nat.le_refl _), Nat.sub_self, List.replicate_zero, List.append_nil] at h1
        exact h1
      have cW := CFW.out wr hU h1
      have CW : Hid (Calls Tabg.prog 105 #[.slice (some ⟨bx, 0, none⟩) n cx, .slice (some ⟨w.heap.size, 0, none⟩) i i] wr fun e w' => e = .returned (.bool true) ∧ Mod bx wr w' ∧ ∃ ys, ys.length = n ∧ Own w' bx 27 (cxs ys) ∧ ∀ i, i < n → clsC (zat ys i) = Y i) := cW
      have HU : Hid (Up w wr) := hU
      have hnI : (n : Int) ≤ 2048 := by omega
      clear cW h1 ho hU HZ HAT HX CFW
      go_wp2_with (go_at_call 105; refine (CW.out).mono ?_; rintro e w2 ⟨rfl, hm2, ys, hy1, hy2, hy3⟩; have HM2 : Hid (Mod bx w w2) := ((HU.out).mod bx).trans hm2; have HY : Hid (ys.length = n ∧ Own w2 bx 27 (cxs ys)) := ⟨hy1, hy2⟩; have HY3 : Hid (∀ m, m < n → clsC (zat ys m) = Y m) := hy3; clear hm2 hy1 hy2 hy3)
      clear HU CW
      go_loopw [8] (fun t wr => ∃ (i : Nat) (cur : List (Nat × Nat)), t = .int .i64 i ∧ i ≤ n ∧ Hid (Mod bx w wr) ∧ Hid (Own wr bx 27 (cxs cur)) ∧ Hid (cur.length = n ∧ ∀ m, m < n → clsC (zat cur m) = if m < i then divX (floatOfInt .f64 n) (Y m) else Y m)) (fun t _ => n - (intOf t).toNat)
      case atStart => exact ⟨0, ys, rfl, by omega, HM2, HY.out.2, ⟨HY.out.1, fun m hm => by rw [HY3.out m hm]; simp⟩⟩
      case round =>
        clear HM2 HY HY3
        rename_i wr0
        obtain ⟨i, cur, rfl, hi, HM, HO, HP⟩ := hrel
        by_cases hlt : i < n
        · have cz := Own.cx HO.out (i := i) (by rw [HP.out.1]; exact hlt)
          have fz := Own.free HO.out i
          have HZ : Hid (clsC (zat cur i) = Y i) := by show _ = _; rw [HP.out.2 i hlt]; simp
          generalize zat cur i = z at *
          obtain ⟨z1, z2⟩ := z
          have i0 : (0 : Int) ≤ (i : Int) := by omega
          have im : (i : Int) < (n : Int) := by omega
          have r := fun x y w => run_fop (P := Tabg.prog) (op := .quo) (.inr (.inr (.inr rfl))) 28 x y w
          generalize hfn : floatOfInt .f64 n = fn at *
          clear CF
          go_wp2
          go_region
          all_goals go_wp2
          all_goals go_roundw
          all_goals first
            | (simp [intOf]; omega)
            | (refine ⟨i + 1, _, by go_num, by omega, ?_, Own.setCx (Own.drewN HO.out _) i _ _, ?_⟩
               · exact ((HM.out).up ((Up.refl _).drewN _)).setCell _ _
               · refine ⟨by simp; exact HP.out.1, fun m hm => ?_⟩
                 rw [zat_set _ (by rw [HP.out.1]; exact hlt)]
                 by_cases hmi : m = i
                 · subst hmi
                   rw [if_pos rfl, if_pos (Nat.lt_succ_self _), ← HZ.out]
                   simp only [clsC, divX, cls_fop]
                 · rw [if_neg hmi, HP.out.2 m hm]
                   by_cases h2 : m < i
                   · rw [if_pos h2, if_pos (by omega)]
                   · rw [if_neg h2, if_neg (by omega)])
        · obtain rfl : i = n := by omega
          go_wp2
          go_ret
          exact ⟨rfl, HM.out, cur, HP.out.1, HO.out, fun m hm => by rw [HP.out.2 m hm]; simp [hm]⟩

theorem inverse_one (bx cx ct : Nat) (at' : Option Addr) (x : Nat × Nat) (w : World) (hx : Own w bx 27 (cxs [x])) (h1 : x.1 < 18446744073709551616) (h2 : x.2 < 18446744073709551616) :
    Calls Tabg.prog 106 #[.slice (some ⟨bx, 0, none⟩) 1 cx, .slice at' 0 ct] w fun e w' => e = .returned (.bool true) ∧ Mod bx w w' ∧ ∃ y, Own w' bx 27 (cxs [y]) ∧ clsC y = clsC x := by
  refine (inverse_gen bx 1 0 ct cx at' [] (fun _ => clsC x) w hx.lt ⟨rfl, fun i hi => absurd hi (by simp)⟩ (by decide) rfl (by decide) fits_one ?_).mono ?_
  · intro w1 hu _
    refine (forward_one bx cx 0 _ x w1 (hx.up hu)).mono ?_
    rintro e w' ⟨rfl, hm, ho⟩
    refine ⟨rfl, hm, [x], rfl, ho, fun i hi => ?_⟩
    obtain rfl : i = 0 := by omega
    rfl
  · rintro e w' ⟨rfl, hm, ys, hl, ho, hy⟩
    obtain ⟨y, rfl⟩ : ∃ y, ys = [y] := List.length_eq_one_iff.1 hl
    refine ⟨rfl, hm, y, ho, ?_⟩
    have := hy 0 (by decide)
    rw [show ((1 : Nat) : Int) = 1 from rfl, one_float] at this
    rw [show clsC y = clsC (zat [y] 0) from rfl, this]
    simp only [divX, clsC, quo_one h1, quo_one h2]
end Go.Proofs.Ygctab
