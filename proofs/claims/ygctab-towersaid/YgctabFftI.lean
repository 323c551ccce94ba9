import Derived.Test.YgctabFftH
namespace Go.Proofs.Ygctab
open Go.RowKit
set_option linter.unusedVariables false
set_option linter.unusedSimpArgs false

set_option maxRecDepth 100000 in
set_option maxHeartbeats 1600000 in
theorem butterflies_k (b off k t ct cx n h : Nat) (at' : Option Addr) (xs tab : List (Nat × Nat)) (w : World) (hx : RdC w (some ⟨b, off, none⟩) n xs) (ht : RdC w at' h tab)
    (hk : k ≤ 11) (hxk : n = 2 ^ k) (htl : n = 2 * h) (ht1 : 1 ≤ t) (htk : t ≤ k) :
    Calls Tabg.prog 111 #[.slice (some ⟨b, off, none⟩) n cx, .slice at' h ct, .int .i64 t, .int .i64 k] w fun e w' => e = .returned (.slice (some ⟨w.heap.size, 0, none⟩) n n) ∧ Up w w' ∧ ∃ ys, ys.length = n ∧ Own w' w.heap.size 27 (cxs ys) ∧
      ∀ i, i < n → clsC (zat ys i) = bflyX (2 ^ (t - 1)) (2 ^ (k - t)) (fun i => clsC (zat xs i)) (fun i => clsC (zat tab i)) i := by
  have hn : n ≤ 2048 := by rw [hxk]; exact Nat.pow_le_pow_right (by decide) hk
  obtain ⟨half, hhalf⟩ : ∃ half, half = 2 ^ (t - 1) := ⟨_, rfl⟩
  obtain ⟨step, hstep⟩ : ∃ step, step = 2 ^ (k - t) := ⟨_, rfl⟩
  have hprod : 2 * half * step = n := by
    rw [hhalf, hstep, hxk, Nat.mul_comm 2, ← Nat.pow_succ, ← Nat.pow_add]
    congr 1; omega
  have hh0 : 0 < half := by rw [hhalf]; exact Nat.pow_pos (by decide)
  have hst0 : 0 < step := by rw [hstep]; exact Nat.pow_pos (by decide)
  have hhl : half ≤ 1024 := by
    have := Nat.pow_le_pow_right (n := 2) (by decide) (show t - 1 ≤ 10 by omega)
    omega
  have htab : half * step = h := by
    have : 2 * half * step = 2 * (half * step) := Nat.mul_assoc _ _ _
    omega
  obtain ⟨t1, ht1'⟩ : ∃ t1, t1 = t - 1 := ⟨_, rfl⟩
  obtain ⟨kt, hkt⟩ : ∃ kt, kt = k - t := ⟨_, rfl⟩
  obtain ⟨d, hd⟩ : ∃ d, d = 2 * half := ⟨_, rfl⟩
  have s1 : IntKind.i64.wrap ((t : Int) - 1) = (t1 : Int) := by rw [IntKind.wrap_i64]; omega
  have s2 : IntKind.i64.wrap ((k : Int) - (t : Int)) = (kt : Int) := by rw [IntKind.wrap_i64]; omega
  have s3 : IntKind.i64.wrap (2 ^ t1) = (half : Int) := by rw [ht1', ← pow_cast, ← hhalf, IntKind.wrap_i64]; omega
  have s5 : IntKind.i64.wrap (2 * (half : Int)) = (d : Int) := by rw [IntKind.wrap_i64]; omega
  have HS4 : Hid (∀ j js : Nat, js = j * step → js ≤ 2048 → IntKind.i64.wrap ((j : Int) * 2 ^ kt) = (js : Int)) := fun j js e hl => by
    have : ((j : Int) * 2 ^ kt) = ((j * step : Nat) : Int) := by rw [hkt, ← pow_cast, ← hstep]; simp
    rw [this, ← e, IntKind.wrap_i64]; omega
  have HX : Hid (∀ i, i < n → w.cell? ⟨b, off + i, none⟩ = some (.complex .f64 (zat xs i).1 (zat xs i).2)) := fun i hi => by
    obtain ⟨b', off', e, hc⟩ := hx.2 i (by rw [← hx.1]; exact hi)
    cases e
    exact hc
  have HT : Hid (∀ i, i < h → ∃ b off, at' = some ⟨b, off, none⟩ ∧ w.cell? ⟨b, off + i, none⟩ = some (.complex .f64 (zat tab i).1 (zat tab i).2)) := fun i hi => ht.2 i (by rw [← ht.1]; exact hi)
  have HPR : Hid (2 * half * step = n ∧ half * step = h ∧ d = 2 * half) := ⟨hprod, htab, hd⟩
  have hdI : (1 : Int) ≤ (d : Int) := by omega
  have hd0 : decide ((d : Int) = 0) = false := decide_eq_false (by omega)
  have hd0' : decide (d = 0) = false := decide_eq_false (by omega)
  have t10 : (0 : Int) ≤ (t1 : Int) := by omega
  have kt0 : (0 : Int) ≤ (kt : Int) := by omega
  have t64 : (t1 : Int) ≤ 64 := by omega
  have kt64 : (kt : Int) ≤ 64 := by omega
  have hmk := fun w => run_make_row' (P := Tabg.prog) 71 27 (.complex .f64 0 0) 16 Tabg.underlying71 (by kernel_rfl) rfl .i64 .i64 n (by omega) (by omega) w
  have hO := Own.made w 27 (.complex .f64 0 0) n
  rw [cxs_replicate] at hO
  have HO : Hid (Own (w.alloc (.cells (madeCells #[.complex .f64 0 0] n) 27)) w.heap.size 27 (cxs (List.replicate n (0, 0)))) := hO
  rw [← hhalf, ← hstep]
  clear hx ht hprod htab hhalf hstep hxk htl ht1' hkt hk ht1 htk hO hd
  go_enter Tabg.func111, Tabg.ntmps111
  go_wp2
  clear s1 s3 t10 t64
  go_loopw [11] (fun t wr => ∃ (i : Nat) (cur : List (Nat × Nat)), t = .int .i64 i ∧ i ≤ n ∧ Hid (Up w wr) ∧ Hid (Own wr w.heap.size 27 (cxs cur)) ∧ Hid (cur.length = n) ∧ Hid (∀ m, m < i → clsC (zat cur m) = bflyX half step (fun i => clsC (zat xs i)) (fun i => clsC (zat tab i)) m)) (fun t _ => n - (intOf t).toNat)
  case atStart => exact ⟨0, List.replicate n (0, 0), rfl, by omega, (Up.refl w).alloc _, HO, by show _ = _; simp, fun m hm => absurd hm (by omega)⟩
  case round =>
    clear hmk HO
    obtain ⟨i, cur, rfl, hi, HU, HO, HL, HP⟩ := hrel
    by_cases hlt : i < n
    · have hdd := HPR.out.2.2
      have hml : i % (2 * half) < 2 * half := Nat.mod_lt _ (by omega)
      have hdm := Nat.div_add_mod i (2 * half)
      have hnp : i / (2 * half) * (2 * half) + 2 * half ≤ n := by
        have h1 : i / (2 * half) < step := by
          rw [Nat.div_lt_iff_lt_mul (by omega)]
          rw [Nat.mul_comm, HPR.out.1]; exact hlt
        have := Nat.mul_le_mul_right (2 * half) (Nat.succ_le_of_lt h1)
        rw [Nat.succ_mul, Nat.mul_comm step, HPR.out.1] at this
        exact this
      rw [Nat.mul_comm] at hdm
      have hje : (i : Int) % (2 * (half : Int)) = ((i % (2 * half) : Nat) : Int) := by simp
      obtain ⟨j, hj⟩ : ∃ j, j = i % (2 * half) := ⟨_, rfl⟩
      rw [← hj] at hje hml hdm
      generalize i / (2 * half) * (2 * half) = s at *
      have HJ : Hid (j = i % (2 * half)) := hj
      clear hj
      have i0 : (0 : Int) ≤ (i : Int) := by omega
      have im : (i : Int) < (n : Int) := by omega
      have fz := Own.free HO.out i
      have czz := Own.cx (HO.out) (i := i) (by rw [HL.out]; exact hlt)
      generalize zat cur i = old at *
      by_cases hjl : j < half
      · have hjI : (j : Int) < (half : Int) := by omega
        obtain ⟨p, hp⟩ : ∃ p, p = i + half := ⟨_, rfl⟩
        have w1 : IntKind.i64.wrap ((i : Int) + (half : Int)) = (p : Int) := by rw [IntKind.wrap_i64]; omega
        obtain ⟨js, hjs⟩ : ∃ js, js = j * step := ⟨_, rfl⟩
        have hjsl : js < h := by
          rw [hjs, ← HPR.out.2.1]
          exact Nat.mul_lt_mul_of_pos_right hjl hst0
        have hh2 : h ≤ 2048 := by have := HPR.out.1; have := HPR.out.2.1; have e : 2 * half * step = 2 * (half * step) := Nat.mul_assoc _ _ _; omega
        have w2 := HS4.out j js hjs (by omega)
        have hpn : p < n := by omega
        have p0 : (0 : Int) ≤ (p : Int) := by omega
        have pm : (p : Int) < (n : Int) := by omega
        have js0 : (0 : Int) ≤ (js : Int) := by omega
        have jsm : (js : Int) < (h : Int) := by omega
        obtain ⟨b2, off2, rfl, ctb⟩ := HT.out js hjsl
        have ci := (HU.out).cell (HX.out i hlt)
        have cp := (HU.out).cell (HX.out p hpn)
        replace ctb := (HU.out).cell ctb
        have HE : Hid (bflyX half step (fun i => clsC (zat xs i)) (fun i => clsC (zat tab i)) i = addX (clsC (zat xs i)) (mulX (clsC (zat xs p)) (clsC (zat tab js)))) := by
          show _ = _
          unfold bflyX
          rw [← HJ.out, if_pos hjl, ← hp, ← hjs]
        clear hp hjs hdm hnp hjl hh2
        generalize zat xs i = xi at *
        generalize zat xs p = xp at *
        generalize zat tab js = tb at *
        obtain ⟨xi1, xi2⟩ := xi
        obtain ⟨xp1, xp2⟩ := xp
        obtain ⟨tb1, tb2⟩ := tb
        have CM : Hid (∀ w, Calls Tabg.prog 150 #[.complex .f64 xp1 xp2, .complex .f64 tb1 tb2] w fun e w' => ∃ p q, e = .returned (.complex .f64 p q) ∧ clsC (p, q) = mulX (clsC (xp1, xp2)) (clsC (tb1, tb2)) ∧ Up w w') := fun w => mulC_any _ _ _ _ w
        have r := fun a b c d w => run_cop (P := Tabg.prog) (op := .add) (.inl rfl) 27 a b c d w
        go_wp2
        go_region_with (first | (go_at_call 150; refine (CM.out _).mono ?_; rintro e wL ⟨v1, v2, rfl, HMU', uL⟩; have HMU : Hid (clsC (v1, v2) = mulX (clsC (xp1, xp2)) (clsC (tb1, tb2))) := HMU'; have HUL : Hid (Up wr wL) := Up.trans ((Up.refl wr).drewN _) uL; have ciL := (HUL.out).cell ci; have HOL : Hid (Own wL w.heap.size 27 (cxs cur)) := Own.up HO.out HUL.out; have fL := Own.free HOL.out i; have czL := (HUL.out).cell czz; clear uL HMU'))
        all_goals go_wp2
        all_goals go_roundw
        all_goals first
          | (simp [intOf]; omega)
          | (refine ⟨i + 1, _, by go_num, by omega, ?_, Own.setCx (Own.drewN HOL.out _) i _ _, ?_, ?_⟩
             · exact (((HU.out).trans HUL.out).drewN _).setCell (Nat.le_refl _) _
             · show _ = _
               rw [List.length_set]; exact HL.out
             · intro m hm
               rw [zat_set _ (by rw [HL.out]; exact hlt)]
               by_cases hmi : m = i
               · subst hmi
                 rw [if_pos rfl, HE.out, ← HMU.out]
                 simp only [clsC, addX, cls_fop]
               · rw [if_neg hmi]
                 exact HP.out m (by omega))
      · have hjI : ¬ ((j : Int) < (half : Int)) := by omega
        have hjd : decide ((j : Int) < (half : Int)) = false := decide_eq_false hjI
        obtain ⟨p, hp⟩ : ∃ p, p = i - half := ⟨_, rfl⟩
        have w1 : IntKind.i64.wrap ((i : Int) - (half : Int)) = (p : Int) := by rw [IntKind.wrap_i64]; omega
        obtain ⟨j2, hj2⟩ : ∃ j2, j2 = j - half := ⟨_, rfl⟩
        have w3 : IntKind.i64.wrap ((j : Int) - (half : Int)) = (j2 : Int) := by rw [IntKind.wrap_i64]; omega
        obtain ⟨js, hjs⟩ : ∃ js, js = j2 * step := ⟨_, rfl⟩
        have hjsl : js < h := by
          rw [hjs, ← HPR.out.2.1]
          exact Nat.mul_lt_mul_of_pos_right (by omega) hst0
        have hh2 : h ≤ 2048 := by have := HPR.out.1; have := HPR.out.2.1; have e : 2 * half * step = 2 * (half * step) := Nat.mul_assoc _ _ _; omega
        have w2 := HS4.out j2 js hjs (by omega)
        have hpn : p < n := by omega
        have p0 : (0 : Int) ≤ (p : Int) := by omega
        have pm : (p : Int) < (n : Int) := by omega
        have js0 : (0 : Int) ≤ (js : Int) := by omega
        have jsm : (js : Int) < (h : Int) := by omega
        obtain ⟨b2, off2, rfl, ctb⟩ := HT.out js hjsl
        have ci := (HU.out).cell (HX.out i hlt)
        have cp := (HU.out).cell (HX.out p hpn)
        replace ctb := (HU.out).cell ctb
        have HE : Hid (bflyX half step (fun i => clsC (zat xs i)) (fun i => clsC (zat tab i)) i = subX (clsC (zat xs p)) (mulX (clsC (zat xs i)) (clsC (zat tab js)))) := by
          show _ = _
          unfold bflyX
          rw [← HJ.out, if_neg (by omega), ← hp, ← hj2, ← hjs]
        clear hp hjs hdm hnp hh2 hj2
        generalize zat xs i = xi at *
        generalize zat xs p = xp at *
        generalize zat tab js = tb at *
        obtain ⟨xi1, xi2⟩ := xi
        obtain ⟨xp1, xp2⟩ := xp
        obtain ⟨tb1, tb2⟩ := tb
        have CM : Hid (∀ w, Calls Tabg.prog 150 #[.complex .f64 xi1 xi2, .complex .f64 tb1 tb2] w fun e w' => ∃ p q, e = .returned (.complex .f64 p q) ∧ clsC (p, q) = mulX (clsC (xi1, xi2)) (clsC (tb1, tb2)) ∧ Up w w') := fun w => mulC_any _ _ _ _ w
        have r := fun a b c d w => run_cop (P := Tabg.prog) (op := .sub) (.inr rfl) 27 a b c d w
        go_wp2
        go_region_with (first | (go_at_call 150; refine (CM.out _).mono ?_; rintro e wL ⟨v1, v2, rfl, HMU', uL⟩; have HMU : Hid (clsC (v1, v2) = mulX (clsC (xi1, xi2)) (clsC (tb1, tb2))) := HMU'; have HUL : Hid (Up wr wL) := Up.trans ((Up.refl wr).drewN _) uL; have cpL := (HUL.out).cell cp; have HOL : Hid (Own wL w.heap.size 27 (cxs cur)) := Own.up HO.out HUL.out; have fL := Own.free HOL.out i; have czL := (HUL.out).cell czz; clear uL HMU'))
        all_goals go_wp2
        all_goals go_roundw
        all_goals first
          | (simp [intOf]; omega)
          | (refine ⟨i + 1, _, by go_num, by omega, ?_, Own.setCx (Own.drewN HOL.out _) i _ _, ?_, ?_⟩
             · exact (((HU.out).trans HUL.out).drewN _).setCell (Nat.le_refl _) _
             · show _ = _
               rw [List.length_set]; exact HL.out
             · intro m hm
               rw [zat_set _ (by rw [HL.out]; exact hlt)]
               by_cases hmi : m = i
               · subst hmi
                 rw [if_pos rfl, HE.out, ← HMU.out]
                 simp only [clsC, subX, cls_fop]
               · rw [if_neg hmi]
                 exact HP.out m (by omega))
    · obtain rfl : i = n := by omega
      go_wp2
      go_ret
      exact ⟨rfl, HU.out, cur, HL.out, HO.out, HP.out⟩
end Go.Proofs.Ygctab
