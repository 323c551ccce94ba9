import Derived.Test.YgctabFftG
namespace Go.Proofs.Ygctab
open Go.RowKit
set_option linter.unusedVariables false
set_option linter.unusedSimpArgs false

/-- Both parts divided by the number of points. -/
def divX (f : Nat) (x : Cx) : Cx := (opc .quo x.1 (cls f), opc .quo x.2 (cls f))

set_option maxRecDepth 100000 in
set_option maxHeartbeats 1600000 in
theorem inverse_k (bx k ct cx : Nat) (at' : Option Addr) (xs tab : List (Nat × Nat)) (w : World) (hx : Own w bx 27 (cxs xs)) (ht : RdC w at' tab.length tab)
    (hk : k ≤ 11) (hk1 : 1 ≤ k) (hxk : xs.length = 2 ^ k) (htl : xs.length = 2 * tab.length) :
    Calls Tabg.prog 106 #[.slice (some ⟨bx, 0, none⟩) xs.length cx, .slice at' tab.length ct] w fun e w' => e = .returned (.bool true) ∧ Mod bx w w' ∧ ∃ ys, ys.length = xs.length ∧ Own w' bx 27 (cxs ys) ∧
      ∀ i, i < xs.length → clsC (zat ys i) = divX (floatOfInt .f64 xs.length) (stX k (fun i => clsC (zat (conjL tab) i)) (fun i => clsC (zat (revL (0, 0) xs) i)) k i) := by
  have hn : xs.length ≤ 2048 := by rw [hxk]; exact Nat.pow_le_pow_right (by decide) hk
  have CF : Hid (∀ w, Calls Tabg.prog 146 #[.int .i64 xs.length, .int .i64 tab.length] w fun e w' => e = .returned (.bool true) ∧ w = w') := fun w => fits_k k _ _ hk1 hk hxk htl w
  have hbx := hx.lt
  have hmk := fun w => run_make_row' (P := Tabg.prog) 71 27 (.complex .f64 0 0) 16 Tabg.underlying71 (by kernel_rfl) rfl .i64 .i64 tab.length (by omega) (by omega) w
  have hO := Own.made w 27 (.complex .f64 0 0) tab.length
  rw [cxs_replicate] at hO
  have HO : Hid (Own (w.alloc (.cells (madeCells #[.complex .f64 0 0] tab.length) 27)) w.heap.size 27 (cxs (List.replicate tab.length (0, 0)))) := hO
  have HZ : Hid (∀ i, i < tab.length → (conjL tab)[i]? = some ((zat tab i).1, negF (zat tab i).2)) := fun i hi => conjL_at hi
  have HL : Hid ((conjL tab).length = tab.length) := conjL_length tab
  have HAT : Hid (∀ i, i < tab.length → ∃ b off, at' = some ⟨b, off, none⟩ ∧ w.cell? ⟨b, off + i, none⟩ = some (.complex .f64 (zat tab i).1 (zat tab i).2)) := ht.2
  have hmI : (tab.length : Int) ≤ 2048 := by omega
  have HX : Hid (Own w bx 27 (cxs xs)) := hx
  have CFW : Hid (∀ w1, Up w w1 → Own w1 w.heap.size 27 (cxs (conjL tab)) → Calls Tabg.prog 105 #[.slice (some ⟨bx, 0, none⟩) xs.length cx, .slice (some ⟨w.heap.size, 0, none⟩) tab.length tab.length] w1 fun e w' => e = .returned (.bool true) ∧ Mod bx w1 w' ∧ ∃ ys, ys.length = xs.length ∧ Own w' bx 27 (cxs ys) ∧
      ∀ i, i < xs.length → clsC (zat ys i) = stX k (fun i => clsC (zat (conjL tab) i)) (fun i => clsC (zat (revL (0, 0) xs) i)) k i) := by
    intro w1 hu ho
    have := forward_k bx k tab.length cx (some ⟨w.heap.size, 0, none⟩) xs (conjL tab) w1 (hx.up hu) (by rw [HL.out]; have := ho.rdC; rw [HL.out] at this; exact this) (fun b off e => by cases e; omega) hk hk1 hxk (by rw [HL.out]; exact htl)
    rw [HL.out] at this
    exact this
  generalize hcs : conjL tab = cs at *
  generalize hY : stX k (fun i => clsC (zat cs i)) (fun i => clsC (zat (revL (0, 0) xs) i)) k = Y at *
  clear hO hcs hY hx ht hxk htl
  generalize hnn : xs.length = n at *
  clear hnn
  generalize hth : tab.length = h at *
  have HTH : Hid (tab.length = h) := hth
  clear hth
  go_enter Tabg.func106, Tabg.ntmps106
  go_wp2_with (go_at_call 146; refine (CF.out _).mono ?_; rintro e w' ⟨rfl, rfl⟩)
  go_loopw [6] (fun t wr => ∃ i : Nat, t = .int .i64 i ∧ i ≤ h ∧ Up w wr ∧ Hid (Own wr w.heap.size 27 (cxs (cs.take i ++ List.replicate (cs.length - i) (0, 0))))) (fun t _ => h - (intOf t).toNat)
  case atStart => exact ⟨0, rfl, by omega, (Up.refl w).alloc _, by show Own _ _ _ _; rw [List.take_zero, List.nil_append, HL.out]; exact HO.out⟩
  case round =>
    clear hmk HO
    obtain ⟨i, rfl, hi, hU, ho⟩ := hrel
    by_cases hlt : i < h
    · obtain ⟨b, off, rfl, hc0⟩ := HAT.out i hlt
      replace hc0 := hU.cell hc0
      have hst := fill_cx cs i (by rw [HL.out]; exact hlt) _ _ (HZ.out i hlt)
      have HS : Hid ((cs.take i ++ List.replicate (cs.length - i) (0, 0)).set i ((zat tab i).1, negF (zat tab i).2) = cs.take (i + 1) ++ List.replicate (cs.length - (i + 1)) (0, 0)) := hst
      clear hst
      have hll : (cs.take i ++ List.replicate (cs.length - i) ((0, 0) : Nat × Nat)).length = h := by simp; rw [HL.out]; omega
      have cz := Own.cx (ho.out) (i := i) (by rw [hll]; exact hlt)
      have fz := Own.free ho.out i
      generalize zat (cs.take i ++ List.replicate (cs.length - i) (0, 0)) i = old at *
      generalize zat tab i = z at *
      obtain ⟨z1, z2⟩ := z
      have cC := conj_any z1 z2
      have CC : Hid (∀ w, Calls Tabg.prog 149 #[.complex .f64 z1 z2] w fun e w' => e = .returned (.complex .f64 z1 (negF z2)) ∧ w = w') := cC
      have i0 : (0 : Int) ≤ (i : Int) := by omega
      have im : (i : Int) < (h : Int) := by omega
      clear hll cC
      go_wp2_with (go_at_call 149; refine (CC.out _).mono ?_; rintro e w' ⟨rfl, rfl⟩)
      go_roundw
      case rel =>
        refine ⟨i + 1, by go_num, by omega, hU.setCell (Nat.le_refl _) _, ?_⟩
        show Own _ _ _ _
        rw [← HS.out]
        exact Own.setCx ho.out i _ _
      case measure => simp [intOf]; omega
    · obtain rfl : i = h := by omega
      have h1 : Own wr w.heap.size 27 (cxs cs) := by
        have h1 := ho.out
        rw [← HL.out, List.take_of_length_le (Nat.le_refl _), Nat.sub_self, List.replicate_zero, List.append_nil] at h1
        exact h1
      have cW := CFW.out wr hU h1
      have CW : Hid (Calls Tabg.prog 105 #[.slice (some ⟨bx, 0, none⟩) n cx, .slice (some ⟨w.heap.size, 0, none⟩) i i] wr fun e w' => e = .returned (.bool true) ∧ Mod bx wr w' ∧ ∃ ys, ys.length = n ∧ Own w' bx 27 (cxs ys) ∧ ∀ i, i < n → clsC (zat ys i) = Y i) := cW
      have HU : Hid (Up w wr) := hU
      have hnI : (n : Int) ≤ 2048 := by omega
      clear cW h1 ho hU HZ HAT HX CFW
      go_wp2_with (go_at_call 105; refine (CW.out).mono ?_; rintro e w2 ⟨rfl, hm2, ys, hy1, hy2, hy3⟩; have HM2 : Hid (Mod bx w w2) := ((HU.out).mod bx).trans hm2; have HY : Hid (ys.length = n ∧ Own w2 bx 27 (cxs ys)) := ⟨hy1, hy2⟩; have HY3 : Hid (∀ m, m < n → clsC (zat ys m) = Y m) := hy3; clear hm2 hy1 hy2 hy3)
      clear HU CW
      go_loopw [8] (fun t wr => ∃ (i : Nat) (cur : List (Nat × Nat)), t = .int .i64 i ∧ i ≤ n ∧ Hid (Mod bx w wr) ∧ Hid (Own wr bx 27 (cxs cur)) ∧ Hid (cur.length = n ∧ ∀ m, m < n → clsC (zat cur m) = if m < i then divX (floatOfInt .f64 n) (Y m) else Y m)) (fun t _ => n - (intOf t).toNat)
      case atStart => exact ⟨0, ys, rfl, by omega, HM2, HY.out.2, ⟨HY.out.1, fun m hm => by rw [HY3.out m hm]; simp⟩⟩
      case round =>
        clear HM2 HY HY3
        rename_i wr0
        obtain ⟨i, cur, rfl, hi, HM, HO, HP⟩ := hrel
        by_cases hlt : i < n
        · have cz := Own.cx HO.out (i := i) (by rw [HP.out.1]; exact hlt)
          have fz := Own.free HO.out i
          have HZ : Hid (clsC (zat cur i) = Y i) := by show _ = _; rw [HP.out.2 i hlt]; simp
          generalize zat cur i = z at *
          obtain ⟨z1, z2⟩ := z
          have i0 : (0 : Int) ≤ (i : Int) := by omega
          have im : (i : Int) < (n : Int) := by omega
          have r := fun x y w => run_fop (P := Tabg.prog) (op := .quo) (.inr (.inr (.inr rfl))) 28 x y w
          generalize hfn : floatOfInt .f64 n = fn at *
          clear CF
          go_wp2
          go_region
          all_goals go_wp2
          all_goals go_roundw
          all_goals first
            | (simp [intOf]; omega)
            | (refine ⟨i + 1, _, by go_num, by omega, ?_, Own.setCx (Own.drewN HO.out _) i _ _, ?_⟩
               · exact ((HM.out).up ((Up.refl _).drewN _)).setCell _ _
               · refine ⟨by simp; exact HP.out.1, fun m hm => ?_⟩
                 rw [zat_set _ (by rw [HP.out.1]; exact hlt)]
                 by_cases hmi : m = i
                 · subst hmi
                   rw [if_pos rfl, if_pos (Nat.lt_succ_self _), ← HZ.out]
                   simp only [clsC, divX, cls_fop]
                 · rw [if_neg hmi, HP.out.2 m hm]
                   by_cases h2 : m < i
                   · rw [if_pos h2, if_pos (by omega)]
                   · rw [if_neg h2, if_neg (by omega)])
        · obtain rfl : i = n := by omega
          go_wp2
          go_ret
          exact ⟨rfl, HM.out, cur, HP.out.1, HO.out, fun m hm => by rw [HP.out.2 m hm]; simp [hm]⟩
end Go.Proofs.Ygctab
