import Derived.Test.YgctabFftB
namespace Go.Proofs.Ygctab
open Go.RowKit
set_option linter.unusedVariables false
set_option linter.unusedSimpArgs false

theorem next_pass {s half step n : Nat} (hh : 0 < half) (hs : s % (2 * half) = 0) (hn : 2 * half * step = n) (h : s < n) : s + 2 * half ≤ n ∧ (s + 2 * half) % (2 * half) = 0 := by
  obtain ⟨i, hi⟩ := Nat.dvd_of_mod_eq_zero hs
  refine ⟨?_, by rw [Nat.add_mod_right]; exact hs⟩
  have h1 : i < step := by
    rw [hi, ← hn] at h
    exact Nat.lt_of_mul_lt_mul_left h
  have h2 : 2 * half * (i + 1) ≤ 2 * half * step := Nat.mul_le_mul_left _ h1
  rw [hn, Nat.mul_add, Nat.mul_one, ← hi] at h2
  exact h2

set_option maxRecDepth 100000 in
set_option maxHeartbeats 3200000 in
theorem stage_yes (bx k t ct cx : Nat) (at' : Option Addr) (xs tab : List (Nat × Nat)) (w : World) (hx : Own w bx 27 (cxs xs)) (ht : RdC w at' tab.length tab) (hne : ∀ b off, at' = some ⟨b, off, none⟩ → b ≠ bx)
    (hk : k ≤ 11) (hxk : xs.length = 2 ^ k) (htl : xs.length = 2 * tab.length) (ht1 : 1 ≤ t) (htk : t ≤ k) :
    Calls Tabg.prog 104 #[.slice (some ⟨bx, 0, none⟩) xs.length cx, .slice at' tab.length ct, .int .u8 t] w fun e w' => e = .returned (.tuple #[]) ∧ Mod bx w w' ∧ ∃ ys, ys.length = xs.length ∧ Own w' bx 27 (cxs ys) ∧
      ∀ i, i < xs.length → clsC (zat ys i) = bflyX (2 ^ (t - 1)) (2 ^ (k - t)) (fun i => clsC (zat xs i)) (fun i => clsC (zat tab i)) i := by
  have CL : Hid (∀ w, Calls Tabg.prog 145 #[.int .i64 xs.length] w fun e w' => e = .returned (.int .i64 k) ∧ w = w') := fun w => flevel_pow k xs.length hk hxk w
  have CF : Hid (∀ w, Calls Tabg.prog 146 #[.int .i64 xs.length, .int .i64 tab.length] w fun e w' => e = .returned (.bool true) ∧ w = w') := fun w => fits_k k _ _ (by omega) hk hxk htl w
  have hn : xs.length ≤ 2048 := by rw [hxk]; exact Nat.pow_le_pow_right (by decide) hk
  obtain ⟨half, hhalf⟩ : ∃ half, half = 2 ^ (t - 1) := ⟨_, rfl⟩
  obtain ⟨step, hstep⟩ : ∃ step, step = 2 ^ (k - t) := ⟨_, rfl⟩
  have hprod : 2 * half * step = xs.length := by
    rw [hhalf, hstep, hxk, Nat.mul_comm 2, ← Nat.pow_succ, ← Nat.pow_add]
    congr 1; omega
  have hh0 : 0 < half := by rw [hhalf]; exact Nat.pow_pos (by decide)
  have hst0 : 0 < step := by rw [hstep]; exact Nat.pow_pos (by decide)
  have hhl : half ≤ 1024 := by
    have := Nat.pow_le_pow_right (n := 2) (by decide) (show t - 1 ≤ 10 by omega)
    omega
  have hsl : step ≤ 1024 := by
    have := Nat.pow_le_pow_right (n := 2) (by decide) (show k - t ≤ 10 by omega)
    omega
  have htab : half * step = tab.length := by
    have : 2 * half * step = 2 * (half * step) := Nat.mul_assoc _ _ _
    omega
  obtain ⟨t1, ht1'⟩ : ∃ t1, t1 = t - 1 := ⟨_, rfl⟩
  obtain ⟨kt, hkt⟩ : ∃ kt, kt = k - t := ⟨_, rfl⟩
  have s1 : IntKind.u8.wrap ((t : Int) - 1) = (t1 : Int) := by rw [IntKind.wrap_u8]; omega
  have s2 : IntKind.i64.wrap ((k : Int) - (t : Int)) = (kt : Int) := by rw [IntKind.wrap_i64]; omega
  have s3 : IntKind.i64.wrap (2 ^ t1) = (half : Int) := by rw [ht1', ← pow_cast, ← hhalf, IntKind.wrap_i64]; omega
  have s4 : IntKind.i64.wrap (2 ^ kt) = (step : Int) := by rw [hkt, ← pow_cast, ← hstep, IntKind.wrap_i64]; omega
  have HX : Hid (Own w bx 27 (cxs xs)) := hx
  have HT : Hid (RdC w at' tab.length tab) := ht
  have HNE : Hid (∀ b off, at' = some ⟨b, off, none⟩ → b ≠ bx) := hne
  have HPR : Hid (2 * half * step = xs.length ∧ half * step = tab.length) := ⟨hprod, htab⟩
  have tI : (1 : Int) ≤ (t : Int) := by omega
  have tK : decide ((k : Int) < (t : Int)) = false := decide_eq_false (by omega)
  have tK' : decide (k < t) = false := decide_eq_false (by omega)
  have t1' : decide ((t : Int) < 1) = false := decide_eq_false (by omega)
  have t1'' : decide (t = 0) = false := decide_eq_false (by omega)
  have wt : (t : Int) ≤ 11 := by omega
  have t10 : (0 : Int) ≤ (t1 : Int) := by omega
  have kt0 : (0 : Int) ≤ (kt : Int) := by omega
  have t64 : (t1 : Int) ≤ 64 := by omega
  have kt64 : (kt : Int) ≤ 64 := by omega
  rw [← hhalf, ← hstep]
  obtain ⟨n, hn1⟩ : ∃ n, n = xs.length := ⟨_, rfl⟩
  obtain ⟨h, hh1⟩ : ∃ h, h = tab.length := ⟨_, rfl⟩
  have HNH : Hid (n = xs.length ∧ h = tab.length) := ⟨hn1, hh1⟩
  rw [← hn1] at CL CF HPR hn ⊢
  rw [← hh1] at CF HT HPR ⊢
  clear hx ht hne hprod htab hhalf hstep hn1 hh1 hxk htl ht1' hkt hk ht1 htk
  go_enter Tabg.func104, Tabg.ntmps104
  go_wp2_with (first | (go_at_call 145; refine (CL.out _).mono ?_; rintro e w' ⟨rfl, rfl⟩) | (go_at_call 146; refine (CF.out _).mono ?_; rintro e w' ⟨rfl, rfl⟩))
  go_quiet (fail)
  go_wp2
  clear wt tK tK' t1' t1'' CL CF s1 s2 s3 s4 tI t10 kt0 t64 kt64
  go_loopw [9] (fun t wr => ∃ (s : Nat) (cur : List (Nat × Nat)), t = .int .i64 s ∧ s ≤ n ∧ Hid (s % (2 * half) = 0) ∧ Hid (Mod bx w wr) ∧ Hid (Own wr bx 27 (cxs cur)) ∧ Hid (cur.length = n) ∧ Hid (PassAt half step s 0 (fun i => clsC (zat xs i)) (fun i => clsC (zat tab i)) cur)) (fun t _ => n - (intOf t).toNat)
  case atStart => exact ⟨0, xs, rfl, by omega, Nat.zero_mod _, (Mod.refl bx w).up ((Up.refl w).drewN _), Own.drewN HX.out _, HNH.out.1.symm, PassAt.start half step xs⟩
  case round =>
    obtain ⟨s, cur, rfl, hs, HS0, HM, HO, HL, HP⟩ := hrel
    by_cases hlt : s < n
    · have hnp := next_pass hh0 HS0.out HPR.out.1 hlt
      have HNP : Hid (s + 2 * half ≤ n ∧ (s + 2 * half) % (2 * half) = 0) := hnp
      have hs2 : s + 2 * half ≤ n := hnp.1
      clear hnp
      have hltI : (s : Int) < (n : Int) := by omega
      go_wp2
      go_loopw [10] (fun t wq => ∃ (j : Nat) (cur : List (Nat × Nat)), t = .int .i64 j ∧ j ≤ half ∧ Hid (Mod bx w wq) ∧ Hid (Own wq bx 27 (cxs cur)) ∧ Hid (cur.length = n) ∧ Hid (PassAt half step s j (fun i => clsC (zat xs i)) (fun i => clsC (zat tab i)) cur)) (fun t _ => half - (intOf t).toNat)
      case atStart => exact ⟨0, cur, rfl, by omega, HM, HO, HL, HP⟩
      case round =>
        clear HM HO HL HP
        obtain ⟨j, cr, rfl, hj, HM, HO, HL, HP⟩ := hrel
        by_cases hjl : j < half
        · have w1 : IntKind.i64.wrap ((s : Int) + (j : Int)) = ((s + j : Nat) : Int) := by rw [IntKind.wrap_i64]; omega
          have w2 : IntKind.i64.wrap (((s + j : Nat) : Int) + (half : Int)) = ((s + j + half : Nat) : Int) := by rw [IntKind.wrap_i64]; omega
          obtain ⟨p, hp⟩ : ∃ p, p = s + j := ⟨_, rfl⟩
          obtain ⟨q, hq⟩ : ∃ q, q = s + j + half := ⟨_, rfl⟩
          rw [← hp] at w1 w2
          rw [show p + half = q by omega] at w2
          obtain ⟨js, hjs⟩ : ∃ js, js = j * step := ⟨_, rfl⟩
          have hjsl : js < h := by
            rw [hjs, ← HPR.out.2]
            exact Nat.mul_lt_mul_of_pos_right hjl hst0
          have hh1 : h ≤ 2048 := by have := HPR.out; have h2 : 2 * half * step = 2 * (half * step) := Nat.mul_assoc _ _ _; omega
          have w3 : IntKind.i64.wrap ((j : Int) * (step : Int)) = (js : Int) := by
            have : (j : Int) * (step : Int) = (js : Int) := by rw [hjs]; simp
            rw [this, IntKind.wrap_i64]; omega
          obtain ⟨b, off, rfl, hct⟩ := HT.out.2 js (by rw [← HNH.out.2]; exact hjsl)
          have hbne := HNE.out b off rfl
          have cp : wr.cell? ⟨bx, p, none⟩ = some (.complex .f64 (zat cr p).1 (zat cr p).2) := Own.cx HO.out (by rw [HL.out]; omega)
          have cq : wr.cell? ⟨bx, q, none⟩ = some (.complex .f64 (zat cr q).1 (zat cr q).2) := Own.cx HO.out (by rw [HL.out]; omega)
          have ctb : wr.cell? ⟨b, off + js, none⟩ = some (.complex .f64 (zat tab js).1 (zat tab js).2) := (HM.out).cell hbne hct
          have fp := Own.free HO.out p
          have fq := Own.free HO.out q
          have cM := mul_any (zat cr q).1 (zat cr q).2 (zat tab js).1 (zat tab js).2
          have CM : Hid (∀ w, Calls Tabg.prog 147 #[.complex .f64 (zat cr q).1 (zat cr q).2, .complex .f64 (zat tab js).1 (zat tab js).2] w fun e w' => ∃ p' q', e = .returned (.complex .f64 p' q') ∧ Hid (clsC (p', q') = mulX (clsC (zat cr q)) (clsC (zat tab js))) ∧ Up w w') := cM
          have r1 := fun a b c d w => run_cop (P := Tabg.prog) (op := .add) (.inl rfl) 27 a b c d w
          have r2 := fun a b c d w => run_cop (P := Tabg.prog) (op := .sub) (.inr rfl) 27 a b c d w
          have p0 : (0 : Int) ≤ (p : Int) := by omega
          have pn : (p : Int) < (n : Int) := by omega
          have q0 : (0 : Int) ≤ (q : Int) := by omega
          have qn : (q : Int) < (n : Int) := by omega
          have js0 : (0 : Int) ≤ (js : Int) := by omega
          have jsn : (js : Int) < (h : Int) := by omega
          have hjI : (j : Int) < (half : Int) := by omega
          have HPQ : Hid (p = s + j ∧ q = s + j + half ∧ js = j * step) := ⟨hp, hq, hjs⟩
          have HZP : Hid (zat cr p = zat cr p) := rfl
          obtain ⟨xp, hxp⟩ : ∃ xp, xp = zat cr p := ⟨_, rfl⟩
          obtain ⟨xq, hxq⟩ : ∃ xq, xq = zat cr q := ⟨_, rfl⟩
          obtain ⟨tb, htb⟩ : ∃ tb, tb = zat tab js := ⟨_, rfl⟩
          rw [← hxp] at cp
          rw [← hxq] at cq CM
          rw [← htb] at ctb CM
          have HXP : Hid (xp = zat cr p ∧ xq = zat cr q ∧ tb = zat tab js) := ⟨hxp, hxq, htb⟩
          clear cM hxp hxq htb HZP hp hq hjs hct
          obtain ⟨xp1, xp2⟩ := xp
          obtain ⟨xq1, xq2⟩ := xq
          obtain ⟨tb1, tb2⟩ := tb
          have hpq : p ≠ q := by have := HPQ.out; omega
          go_wp2
          go_region_held3 (fun w' => w'.cell? ⟨bx, p, none⟩ = some (.complex .f64 xp1 xp2) ∧ w'.cell? ⟨bx, q, none⟩ = some (.complex .f64 xq1 xq2) ∧ w'.cell? ⟨b, off + js, none⟩ = some (.complex .f64 tb1 tb2) ∧ Hid (Up wr w'))
            (first | exact ⟨by simpa using cp, by simpa using cq, by simpa using ctb, (Up.refl _).drew⟩ | (rename_i hS; exact ⟨Up.cell uL ‹_ ∧ _ ∧ _ ∧ Hid (Up wr _)›.1, Up.cell uL ‹_ ∧ _ ∧ _ ∧ Hid (Up wr _)›.2.1, Up.cell uL ‹_ ∧ _ ∧ _ ∧ Hid (Up wr _)›.2.2.1, ‹_ ∧ _ ∧ _ ∧ Hid (Up wr _)›.2.2.2.out.trans uL⟩) | exact ⟨Up.cell uL ‹_ ∧ _ ∧ _ ∧ Hid (Up wr _)›.1, Up.cell uL ‹_ ∧ _ ∧ _ ∧ Hid (Up wr _)›.2.1, Up.cell uL ‹_ ∧ _ ∧ _ ∧ Hid (Up wr _)›.2.2.1, ‹_ ∧ _ ∧ _ ∧ Hid (Up wr _)›.2.2.2.out.trans uL⟩)
            (first | (go_at_call 147; refine (CM.out _).mono ?_; rintro e wL ⟨v1, v2, rfl, HMU, uL⟩))
          have HUL : Hid (Up wr wL) := ‹_ ∧ _ ∧ _ ∧ Hid (Up wr wL)›.2.2.2
          have HOL : Hid (Own wL bx 27 (cxs cr)) := Own.up HO.out HUL.out
          have cpL := (HUL.out).cell cp
          have cqL := (HUL.out).cell cq
          have fpL := Own.free HOL.out p
          have fqL := Own.free HOL.out q
          have HML : Hid (Mod bx w wL) := (HM.out).up HUL.out
          clear cp cq ctb fp fq CM HO HM HUL
          go_wp2
          go_roundw
          case rel =>
            refine ⟨j + 1, (cr.set p (fopR BinOp.add xp1 v1 wL, fopR BinOp.add xp2 v2 (wL.drewN (fopK BinOp.add xp1 v1)))).set q (fopR BinOp.sub xp1 v1 (wL.drewN (fopK BinOp.add xp1 v1 + fopK BinOp.add xp2 v2)), fopR BinOp.sub xp2 v2 (wL.drewN (fopK BinOp.add xp1 v1 + fopK BinOp.add xp2 v2 + fopK BinOp.sub xp1 v1))), by go_num, by omega, ?_, ?_, ?_, ?_⟩
            · exact (((HML.out).up ((Up.refl _).drewN _)).setCell _ _).setCell _ _
            · exact ((Own.drewN HOL.out _).setCx p _ _).setCx q _ _
            · show _ = _; simp; exact HL.out
            · have e1 := HPQ.out
              have e2 := HXP.out
              have e3 := HMU.out
              show PassAt _ _ _ _ _ _ _
              rw [e1.1, e1.2.1]
              rw [e1.1] at e2
              rw [e1.2.1] at e2
              rw [e1.2.2] at e2
              refine PassAt.step HP.out HL.out hh0 hjl hs2 HS0.out ?_ ?_
              · rw [← e2.1, ← e2.2.1]
                show clsC _ = addX _ (mulX _ (clsC (zat tab (j * step))))
                rw [← e2.2.2, show mulX (clsC (xq1, xq2)) (clsC (tb1, tb2)) = clsC (v1, v2) from e3.symm]
                simp only [clsC, addX, cls_fop]
              · rw [← e2.1, ← e2.2.1]
                show clsC _ = subX _ (mulX _ (clsC (zat tab (j * step))))
                rw [← e2.2.2, show mulX (clsC (xq1, xq2)) (clsC (tb1, tb2)) = clsC (v1, v2) from e3.symm]
                simp only [clsC, subX, cls_fop]
          case measure => simp [intOf]; omega
        · obtain rfl : j = half := by omega
          have w5 : IntKind.i64.wrap (2 * (j : Int)) = ((2 * j : Nat) : Int) := by rw [IntKind.wrap_i64]; omega
          have w6 : IntKind.i64.wrap ((s : Int) + ((2 * j : Nat) : Int)) = ((s + 2 * j : Nat) : Int) := by rw [IntKind.wrap_i64]; omega
          obtain ⟨m2, hm2⟩ : ∃ m2, m2 = 2 * j := ⟨_, rfl⟩
          obtain ⟨s2, hs2'⟩ : ∃ s2, s2 = s + 2 * j := ⟨_, rfl⟩
          rw [← hs2'] at w6
          rw [← hm2] at w5 w6
          have HS2 : Hid (s2 = s + 2 * j) := hs2'
          clear hm2 hs2'
          go_wp2
          go_roundw
          case rel => exact ⟨s2, cr, rfl, by rw [HS2.out]; exact hs2, by show _ = _; rw [HS2.out]; exact HNP.out.2, HM, HO, HL, by show PassAt _ _ _ _ _ _ _; rw [HS2.out]; exact PassAt.next HP.out hh0⟩
          case measure => simp [intOf]; have := HS2.out; omega
    · obtain rfl : s = n := by omega
      go_wp2
      go_end0
      exact ⟨rfl, HM.out, cur, HL.out, HO.out, PassAt.done HP.out HL.out⟩
end Go.Proofs.Ygctab
