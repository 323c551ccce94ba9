import Derived.Test.YgctabTowJ
namespace Go.Proofs.Ygctab
open Go.RowKit
set_option linter.unusedVariables false
set_option linter.unusedSimpArgs false
set_option exponentiation.threshold 9000

set_option maxRecDepth 100000 in
set_option maxHeartbeats 6400000 in
theorem two_3 {w : World} {a o : Option Addr} {n c k oc : Nat} {vs : List Nat} {os : List Int} (h : LS w (.slice a n c) (.slice o k oc) vs os) (hb : Bnd vs) (ho : os.length ≤ 4095) (h2 : 2 ≤ vs.length)
    (ql qt : Nat × Nat) (hl : EntOk 0 w ql) (ht : EntOk 0 w qt) (el : ql.2 = lowV vs) (et : qt.2 = topV vs) (t : Nat) :
    Calls Tabg.prog 134 #[.int .u8 0, .agg #[.slice a n c, .slice o k oc], .int .u8 3, entC ql, entC qt] w fun e w' => LR w w' e (rowP 3 t vs os) := by
  have HB : Hid (Bx w ((w.alloc (.cells #[.slice a n c, .slice o k oc] 103)).alloc (.cells #[.slice none 0 0, .slice none 0 0] 103)) w.heap.size (w.heap.size + 1) (.slice a n c) (.slice o k oc)) := Bx.new ..
  have H : Hid (LS w (.slice a n c) (.slice o k oc) vs os ∧ EntOk 0 w ql ∧ EntOk 0 w qt ∧ os.length ≤ 4095) := ⟨h, hl, ht, ho⟩
  have h16 := hb.1
  have bl : (dig ql.2).length ≤ 1024 := by rw [el]; exact hb.low
  have bt : (dig qt.2).length ≤ 1024 := by rw [et]; exact hb.top
  obtain ⟨A, L, eA, eL⟩ : ∃ A L, entC ql = .slice A L L ∧ (dig ql.2).length = L := ⟨_, _, rfl, rfl⟩
  obtain ⟨A', L', eA', eL'⟩ : ∃ A L, entC qt = .slice A L L ∧ (dig qt.2).length = L := ⟨_, _, rfl, rfl⟩
  rw [eA, eA']
  have EA : Hid ((entC ql = .slice A L L ∧ entC qt = .slice A' L' L') ∧ (dig ql.2).length = L ∧ (dig qt.2).length = L') := ⟨⟨eA, eA'⟩, eL, eL'⟩
  rw [eL] at bl
  rw [eL'] at bt
  clear h hb hl ht eA eA' ho eL eL'
  go_enter Tabg.func134, Tabg.ntmps134
  go_wp2_with (fail)
  generalize (w.alloc (.cells #[.slice a n c, .slice o k oc] 103)).alloc (.cells #[.slice none 0 0, .slice none 0 0] 103) = w0 at *
  have CA := callA HB.out (fun w2 hu => apd (H.out.1.keeps (HB.out.up.trans hu).keeps) (-2) (by have := H.out.2.2.2; omega))
  have CB := callB HB.out (fun w2 hu => apd (H.out.1.keeps (HB.out.up.trans hu).keeps) (-2) (by have := H.out.2.2.2; omega))
  obtain ⟨k0, k1, lt1, d0, d1, e0, e1, lt2⟩ := HB.out.bf
  go_cut [11] (fun z wc => ∃ bn B', z = .pointer (some ⟨bn, 0, none⟩) ∧ Hid (Cut1 w0 wc bn (.slice a n c) (.slice (some ⟨B', 0, none⟩) (k + 1) (k + 1)) (fun W => LS W (.slice a n c) (.slice (some ⟨B', 0, none⟩) (k + 1) (k + 1)) vs (os ++ [-2]))))
  case first =>
    go_region_with (first | (go_at_call 131; refine (CA.out).mono ?_; rintro e wL ⟨Bs, rfl, ⟨k0', k1', lt1', d0', d1', e0', e1', lt2'⟩, HA⟩) | (go_at_call 131; refine (CB.out).mono ?_; rintro e wL ⟨Bs, rfl, ⟨k0', k1', lt1', d0', d1', e0', e1', lt2'⟩, HA⟩))
    all_goals go_wp2
    all_goals go_simp
    all_goals go_meet
    all_goals first | exact ⟨_, _, rfl, cutA LSk HA.out _ _⟩ | exact ⟨_, _, rfl, cutB LSk HA.out _ _⟩
  case rest =>
    obtain ⟨bn, B', rfl, HC⟩ := hcut
    have HBc : Hid (Bx w wc w.heap.size (w.heap.size + 1) (.slice a n c) (.slice o k oc)) := HB.out.mono HC.out.2.1
    have n0 : wc.cell? ⟨bn, 0, none⟩ = some (.slice a n c) := by rw [HC.out.1.cell]; rfl
    have n1 : wc.cell? ⟨bn, 1, none⟩ = some (.slice (some ⟨B', 0, none⟩) (k + 1) (k + 1)) := by rw [HC.out.1.cell]; rfl
    have HLc : Hid (LS wc (.slice a n c) (.slice o k oc) vs os ∧ EntOk 0 wc ql ∧ EntOk 0 wc qt ∧ os.length ≤ 4095) := ⟨H.out.1.keeps HBc.out.up.keeps, H.out.2.1.up HBc.out.up, H.out.2.2.1.up HBc.out.up, H.out.2.2.2⟩
    have HNo : Hid (LS wc (.slice a n c) (.slice (some ⟨B', 0, none⟩) (k + 1) (k + 1)) vs (os ++ [-2])) := HC.out.2.2
    clear CA CB HB k0 k1 lt1 d0 d1 e0 e1 lt2 HC H
    obtain ⟨k0, k1, lt1, d0, d1, e0, e1, lt2⟩ := HBc.out.bf
    by_cases hf : ql.2 < qt.2
    · have C : Hid (Calls Tabg.prog 65 #[.slice A L L, .slice A' L' L'] wc fun e w' => e = .returned (.tuple #[.slice none 0 0, .bool false]) ∧ Up wc w') := by
        have := sub_neg _ _ _ _ _ _ _ _ wc HLc.out.2.1.ns.1 HLc.out.2.2.1.ns.1 (Nat.le_refl _) (Nat.le_refl _) (by rw [EA.out.2.1]; omega) (by rw [EA.out.2.2]; omega) (by rw [bv_dig, bv_dig]; exact hf)
        have e1 := EA.out.1.1
        have e2 := EA.out.1.2
        unfold entC at e1 e2
        rw [e1, e2] at this
        exact this
      go_wp2_with (fail)
      refine (C.out).mono ?_
      rintro e w3 ⟨rfl, u3⟩
      have HB3 : Hid (Bx w w3 w.heap.size (w.heap.size + 1) (.slice a n c) (.slice o k oc)) := HBc.out.mono u3
      have HS : Hid (LS w3 (.slice a n c) (.slice o k oc) vs os ∧ os.length ≤ 4095) := ⟨HLc.out.1.keeps u3.keeps, HLc.out.2.2.2⟩
      clear C k0 k1 lt1 d0 d1 e0 e1 lt2 HNo u3 HLc HBc n0 n1
      obtain ⟨k0, k1, lt1, d0, d1, e0, e1, lt2⟩ := HB3.out.bf
      have E0 : entC (0, 0) = .slice none 0 0 := by unfold entC; rw [show ((0, 0) : Nat × Nat).2 = 0 from rfl, dig_zero]; rfl
      have S1 : Hid (∀ w' v2 osx, Up w3 w' → LS w' (.slice a n c) v2 vs osx → Calls Tabg.prog 132 #[.slice a n c, .int .i64 2, .slice none 0 0] w' fun e wL => ∃ B, e = .returned (.slice (some ⟨B, 0, none⟩) (vs.length - 2 + 1) (vs.length - 2 + 1)) ∧ BF wL w.heap.size (w.heap.size + 1) (.slice a n c) (.slice o k oc) ∧ Hid (Up w3 wL ∧ LS wL (.slice (some ⟨B, 0, none⟩) (vs.length - 2 + 1) (vs.length - 2 + 1)) v2 (vs.take (vs.length - 2) ++ [0]) osx)) := by
        intro w' v2 osx hu hL
        have := stk hL (by omega) (vs.length - 2) 2 (by omega) (0, 0) (fun h => absurd rfl h)
        rw [E0] at this
        refine this.mono ?_
        rintro e w'' ⟨B2, he, hu2, hL2⟩
        exact ⟨B2, he, (HB3.out.mono (hu.trans hu2)).bf, hu.trans hu2, hL2⟩
      have P1 : Hid (∀ w' v1 vsx, Up w3 w' → LS w' v1 (.slice o k oc) vsx os → Calls Tabg.prog 131 #[.slice o k oc, .int .i8 (-4)] w' fun e wL => ∃ B, e = .returned (.slice (some ⟨B, 0, none⟩) (k + 1) (k + 1)) ∧ BF wL w.heap.size (w.heap.size + 1) (.slice a n c) (.slice o k oc) ∧ Hid (Up w3 wL ∧ LS wL v1 (.slice (some ⟨B, 0, none⟩) (k + 1) (k + 1)) vsx (os ++ [-4]))) := by
        intro w' v1 vsx hu hL
        refine (apd hL (-4) (by have := HS.out.2; omega)).mono ?_
        rintro e w'' ⟨B2, he, hu2, hL2⟩
        exact ⟨B2, he, (HB3.out.mono (hu.trans hu2)).bf, hu.trans hu2, hL2⟩
      have HJ0 : Hid (Up w3 w3.drew ∧ LS w3.drew (.slice a n c) (.slice o k oc) vs os) := ⟨(Up.refl _).drew, HS.out.1.keeps ((Up.refl _).drew).keeps⟩
      have ER : Hid (rowP 3 t vs os = (vs.take (vs.length - 2) ++ [0], os ++ [-4])) := by
        show _ = _
        rw [rowP_3, if_neg (by omega), if_pos (by rw [← el, ← et]; exact hf)]
        rfl
      clear HS EA E0
      generalize vs.length - 2 + 1 = M1 at *
      go_wp2_with (fail)
      go_region_with (first
        | (go_at_call 132; refine (S1.out _ _ _ HJ0.out.1 HJ0.out.2).mono ?_; rintro e wJ ⟨Bs, rfl, ⟨k0'', k1'', lt1'', d0'', d1'', e0'', e1'', lt2''⟩, HJ⟩; clear HJ0)
        | (go_at_call 131; refine (P1.out _ _ _ HJ0.out.1 HJ0.out.2).mono ?_; rintro e wJ ⟨Bs, rfl, ⟨k0'', k1'', lt1'', d0'', d1'', e0'', e1'', lt2''⟩, HJ⟩; clear HJ0)
        | (go_at_call 132; refine (S1.out _ _ _ HJ.out.1 HJ.out.2).mono ?_; rintro e wL ⟨Bt, rfl, ⟨k0', k1', lt1', d0', d1', e0', e1', lt2'⟩, HA⟩; obtain ⟨HO, HL⟩ := HB3.out.fin (p := rowP 3 t vs os) HA.out.1 (by rw [ER.out]; exact HA.out.2))
        | (go_at_call 131; refine (P1.out _ _ _ HJ.out.1 HJ.out.2).mono ?_; rintro e wL ⟨Bt, rfl, ⟨k0', k1', lt1', d0', d1', e0', e1', lt2'⟩, HA⟩; obtain ⟨HO, HL⟩ := HB3.out.fin (p := rowP 3 t vs os) HA.out.1 (by rw [ER.out]; exact HA.out.2)))
      all_goals go_wp2_with (fail)
      all_goals refine bodyPost_ret (ret103 rfl _ _ _ rfl _ _ HO.out) rfl ?_
      all_goals exact HL.out
    · have C : Hid (Calls Tabg.prog 65 #[.slice A L L, .slice A' L' L'] wc fun e w' => ∃ B zs, e = .returned (.tuple #[.slice (nrmA (some ⟨B, 0, none⟩) (ql.2 - qt.2)) (dig (ql.2 - qt.2)).length (dig (ql.2 - qt.2)).length, .bool true]) ∧ wc.heap.size ≤ B ∧ Up wc w' ∧ (ql.2 - qt.2 ≠ 0 → Own w' B 5 (u8s zs) ∧ Digs zs ∧ bv zs = ql.2 - qt.2)) := by
        have := sub_any _ _ _ _ _ _ _ _ wc HLc.out.2.1.ns.1 HLc.out.2.2.1.ns.1 (Nat.le_refl _) (Nat.le_refl _) (by rw [EA.out.2.1]; omega) (by rw [EA.out.2.2]; omega) (by rw [bv_dig, bv_dig]; omega)
        rw [bv_dig, bv_dig] at this
        have e1 := EA.out.1.1
        have e2 := EA.out.1.2
        unfold entC at e1 e2
        rw [e1, e2] at this
        exact this
      go_wp2_with (fail)
      refine (C.out).mono ?_
      rintro e w3 ⟨B, zs, rfl, hB3, u3, hz⟩
      have HB3 : Hid (Bx w w3 w.heap.size (w.heap.size + 1) (.slice a n c) (.slice o k oc)) := HBc.out.mono u3
      have HS : Hid (LS w3 (.slice a n c) (.slice o k oc) vs os ∧ EntOk 0 w3 (B, ql.2 - qt.2)) := ⟨HLc.out.1.keeps u3.keeps, fun hv => ⟨Nat.zero_le _, zs, hz hv⟩⟩
      clear C k0 k1 lt1 d0 d1 e0 e1 lt2 HNo hB3 hz u3 HLc HBc n0 n1
      obtain ⟨k0, k1, lt1, d0, d1, e0, e1, lt2⟩ := HB3.out.bf
      have ER : Hid (rowP 3 t vs os = (vs.take (vs.length - 2) ++ [ql.2 - qt.2], os)) := by
        show _ = _
        rw [rowP_3, if_neg (by omega), if_neg (by rw [← el, ← et]; exact hf), el, et]
        rfl
      have CS := callA HB3.out (fun w2 hu => stk (HS.out.1.keeps hu.keeps) (by omega) (vs.length - 2) 2 (by omega) (B, ql.2 - qt.2) (HS.out.2.up hu))
      unfold entC at CS
      dsimp only at CS
      clear HS EA
      generalize nrmA (some ⟨B, 0, none⟩) (ql.2 - qt.2) = P at *
      generalize (dig (ql.2 - qt.2)).length = LL at *
      go_wp2_with (fail)
      go_region_with (first | (go_at_call 132; refine (CS.out).mono ?_; rintro e wL ⟨Bs, rfl, ⟨k0', k1', lt1', d0', d1', e0', e1', lt2'⟩, HA⟩; obtain ⟨HO, HL⟩ := HB3.out.fin (p := rowP 3 t vs os) HA.out.1 (by rw [ER.out]; exact HA.out.2)))
      all_goals go_wp2_with (fail)
      all_goals refine bodyPost_ret (ret103 rfl _ _ _ rfl _ _ HO.out) rfl ?_
      all_goals exact HL.out
end Go.Proofs.Ygctab
