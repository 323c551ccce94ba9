import Derived.Test.YgctabTowJ
namespace Go.Proofs.Ygctab
open Go.RowKit
set_option linter.unusedVariables false
set_option linter.unusedSimpArgs false
set_option exponentiation.threshold 9000

set_option maxRecDepth 100000 in
set_option maxHeartbeats 6400000 in
theorem two_5 {w : World} {a o : Option Addr} {n c k oc : Nat} {vs : List Nat} {os : List Int} (h : LS w (.slice a n c) (.slice o k oc) vs os) (hb : Bnd vs) (ho : os.length ≤ 4095) (h2 : 2 ≤ vs.length)
    (ql qt : Nat × Nat) (hl : EntOk 0 w ql) (ht : EntOk 0 w qt) (el : ql.2 = lowV vs) (et : qt.2 = topV vs) (t : Nat) :
    Calls Tabg.prog 134 #[.int .u8 0, .agg #[.slice a n c, .slice o k oc], .int .u8 5, entC ql, entC qt] w fun e w' => LR w w' e (rowP 5 t vs os) := by
  have HB : Hid (Bx w ((w.alloc (.cells #[.slice a n c, .slice o k oc] 103)).alloc (.cells #[.slice none 0 0, .slice none 0 0] 103)) w.heap.size (w.heap.size + 1) (.slice a n c) (.slice o k oc)) := Bx.new ..
  have H : Hid (LS w (.slice a n c) (.slice o k oc) vs os ∧ EntOk 0 w ql ∧ EntOk 0 w qt ∧ os.length ≤ 4095) := ⟨h, hl, ht, ho⟩
  have h16 := hb.1
  have bl : (dig ql.2).length ≤ 1024 := by rw [el]; exact hb.low
  have bt : (dig qt.2).length ≤ 1024 := by rw [et]; exact hb.top
  obtain ⟨A, L, eA, eL⟩ : ∃ A L, entC ql = .slice A L L ∧ (dig ql.2).length = L := ⟨_, _, rfl, rfl⟩
  obtain ⟨A', L', eA', eL'⟩ : ∃ A L, entC qt = .slice A L L ∧ (dig qt.2).length = L := ⟨_, _, rfl, rfl⟩
  rw [eA, eA']
  have EA : Hid ((entC ql = .slice A L L ∧ entC qt = .slice A' L' L') ∧ (dig ql.2).length = L ∧ (dig qt.2).length = L') := ⟨⟨eA, eA'⟩, eL, eL'⟩
  rw [eL] at bl
  rw [eL'] at bt
  clear h hb hl ht eA eA' ho eL eL'
  go_enter Tabg.func134, Tabg.ntmps134
  go_wp2_with (fail)
  generalize (w.alloc (.cells #[.slice a n c, .slice o k oc] 103)).alloc (.cells #[.slice none 0 0, .slice none 0 0] 103) = w0 at *
  have CA := callA HB.out (fun w2 hu => apd (H.out.1.keeps (HB.out.up.trans hu).keeps) (-2) (by have := H.out.2.2.2; omega))
  have CB := callB HB.out (fun w2 hu => apd (H.out.1.keeps (HB.out.up.trans hu).keeps) (-2) (by have := H.out.2.2.2; omega))
  obtain ⟨k0, k1, lt1, d0, d1, e0, e1, lt2⟩ := HB.out.bf
  go_cut [11] (fun z wc => ∃ bn B', z = .pointer (some ⟨bn, 0, none⟩) ∧ Hid (Cut1 w0 wc bn (.slice a n c) (.slice (some ⟨B', 0, none⟩) (k + 1) (k + 1)) (fun W => LS W (.slice a n c) (.slice (some ⟨B', 0, none⟩) (k + 1) (k + 1)) vs (os ++ [-2]))))
  case first =>
    go_region_with (first | (go_at_call 131; refine (CA.out).mono ?_; rintro e wL ⟨Bs, rfl, ⟨k0', k1', lt1', d0', d1', e0', e1', lt2'⟩, HA⟩) | (go_at_call 131; refine (CB.out).mono ?_; rintro e wL ⟨Bs, rfl, ⟨k0', k1', lt1', d0', d1', e0', e1', lt2'⟩, HA⟩))
    all_goals go_wp2
    all_goals go_simp
    all_goals go_meet
    all_goals first | exact ⟨_, _, rfl, cutA LSk HA.out _ _⟩ | exact ⟨_, _, rfl, cutB LSk HA.out _ _⟩
  case rest =>
    obtain ⟨bn, B', rfl, HC⟩ := hcut
    have HBc : Hid (Bx w wc w.heap.size (w.heap.size + 1) (.slice a n c) (.slice o k oc)) := HB.out.mono HC.out.2.1
    have n0 : wc.cell? ⟨bn, 0, none⟩ = some (.slice a n c) := by rw [HC.out.1.cell]; rfl
    have n1 : wc.cell? ⟨bn, 1, none⟩ = some (.slice (some ⟨B', 0, none⟩) (k + 1) (k + 1)) := by rw [HC.out.1.cell]; rfl
    have HLc : Hid (LS wc (.slice a n c) (.slice o k oc) vs os ∧ EntOk 0 wc ql ∧ EntOk 0 wc qt ∧ os.length ≤ 4095) := ⟨H.out.1.keeps HBc.out.up.keeps, H.out.2.1.up HBc.out.up, H.out.2.2.1.up HBc.out.up, H.out.2.2.2⟩
    have HNo : Hid (LS wc (.slice a n c) (.slice (some ⟨B', 0, none⟩) (k + 1) (k + 1)) vs (os ++ [-2])) := HC.out.2.2
    clear CA CB HB k0 k1 lt1 d0 d1 e0 e1 lt2 HC H
    obtain ⟨k0, k1, lt1, d0, d1, e0, e1, lt2⟩ := HBc.out.bf
    have C : Hid (∀ w', Up wc w' → Calls Tabg.prog 67 #[.slice A L L, .slice A' L' L'] w' fun e w'' => e = .returned (.int .i8 (cmpI ql.2 qt.2)) ∧ Up w' w'') := by
      intro w' hu
      have := cmp_any _ _ _ _ _ _ _ _ w' (HLc.out.2.1.up hu).ns.1 (HLc.out.2.2.1.up hu).ns.1 (Nat.le_refl _) (Nat.le_refl _) (by rw [EA.out.2.1]; omega) (by rw [EA.out.2.2]; omega)
      rw [bv_dig, bv_dig] at this
      have e1 := EA.out.1.1
      have e2 := EA.out.1.2
      unfold entC at e1 e2
      rw [e1, e2] at this
      exact this
    have CC : Hid (Calls Tabg.prog 67 #[.slice A L L, .slice A' L' L'] wc.drew fun e wL => e = .returned (.int .i8 (cmpI ql.2 qt.2)) ∧ BF wL w.heap.size (w.heap.size + 1) (.slice a n c) (.slice o k oc) ∧ Hid (Up wc wL)) := by
      show Calls _ _ _ _ _
      refine (C.out wc.drew ((Up.refl _).drew)).mono ?_
      rintro e w' ⟨he, hu⟩
      have u1 : Up wc w' := ((Up.refl wc).drew).trans hu
      exact ⟨he, (HBc.out.mono u1).bf, u1⟩
    have CP : Hid (∀ w', Up wc w' → Calls Tabg.prog 131 #[.slice o k oc, .int .i8 (cmpI ql.2 qt.2)] w' fun e wL => ∃ B, e = .returned (.slice (some ⟨B, 0, none⟩) (k + 1) (k + 1)) ∧ BF wL w.heap.size (w.heap.size + 1) (.slice a n c) (.slice o k oc) ∧ Hid (Up wc wL ∧ LS wL (.slice a n c) (.slice (some ⟨B, 0, none⟩) (k + 1) (k + 1)) vs (os ++ [cmpI ql.2 qt.2]))) := by
      intro w' hu
      refine (apd (HLc.out.1.keeps hu.keeps) (cmpI ql.2 qt.2) (by have := HLc.out.2.2.2; omega)).mono ?_
      rintro e w'' ⟨B, he, hu2, hL⟩
      exact ⟨B, he, (HBc.out.mono (hu.trans hu2)).bf, hu.trans hu2, hL⟩
    have ER : Hid (rowP 5 t vs os = (vs, os ++ [cmpI ql.2 qt.2])) := by
      show _ = _
      rw [rowP_5, if_neg (by omega), el, et]
    have HB3 := HBc
    clear C HLc HNo EA HBc n0 n1
    generalize cmpI ql.2 qt.2 = x at *
    go_wp2_with (fail)
    go_region_with (first | (go_at_call 67; refine (CC.out).mono ?_; rintro e wJ ⟨rfl, ⟨k0'', k1'', lt1'', d0'', d1'', e0'', e1'', lt2''⟩, HJ⟩) | (go_at_call 131; refine (CP.out _ HJ.out).mono ?_; rintro e wL ⟨Bs, rfl, ⟨k0', k1', lt1', d0', d1', e0', e1', lt2'⟩, HA⟩; obtain ⟨HO, HL⟩ := HB3.out.fin (p := rowP 5 t vs os) HA.out.1 (by rw [ER.out]; exact HA.out.2)))
    all_goals go_wp2_with (fail)
    all_goals refine bodyPost_ret (ret103 rfl _ _ _ rfl _ _ HO.out) rfl ?_
    all_goals exact HL.out
end Go.Proofs.Ygctab
