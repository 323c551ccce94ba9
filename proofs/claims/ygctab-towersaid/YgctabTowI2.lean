import Derived.Test.YgctabTowJ
namespace Go.Proofs.Ygctab
open Go.RowKit
set_option linter.unusedVariables false
set_option linter.unusedSimpArgs false
set_option exponentiation.threshold 9000

set_option maxRecDepth 100000 in
set_option maxHeartbeats 6400000 in
theorem two_2 {w : World} {a o : Option Addr} {n c k oc : Nat} {vs : List Nat} {os : List Int} (h : LS w (.slice a n c) (.slice o k oc) vs os) (hb : Bnd vs) (ho : os.length ≤ 4095) (h2 : 2 ≤ vs.length)
    (ql qt : Nat × Nat) (hl : EntOk 0 w ql) (ht : EntOk 0 w qt) (el : ql.2 = lowV vs) (et : qt.2 = topV vs) (t : Nat) :
    Calls Tabg.prog 134 #[.int .u8 0, .agg #[.slice a n c, .slice o k oc], .int .u8 2, entC ql, entC qt] w fun e w' => LR w w' e (rowP 2 t vs os) := by
  have HB : Hid (Bx w ((w.alloc (.cells #[.slice a n c, .slice o k oc] 103)).alloc (.cells #[.slice none 0 0, .slice none 0 0] 103)) w.heap.size (w.heap.size + 1) (.slice a n c) (.slice o k oc)) := Bx.new ..
  have H : Hid (LS w (.slice a n c) (.slice o k oc) vs os ∧ EntOk 0 w ql ∧ EntOk 0 w qt ∧ os.length ≤ 4095) := ⟨h, hl, ht, ho⟩
  have h16 := hb.1
  have bl : (dig ql.2).length ≤ 1024 := by rw [el]; exact hb.low
  have bt : (dig qt.2).length ≤ 1024 := by rw [et]; exact hb.top
  obtain ⟨A, L, eA, eL⟩ : ∃ A L, entC ql = .slice A L L ∧ (dig ql.2).length = L := ⟨_, _, rfl, rfl⟩
  obtain ⟨A', L', eA', eL'⟩ : ∃ A L, entC qt = .slice A L L ∧ (dig qt.2).length = L := ⟨_, _, rfl, rfl⟩
  rw [eA, eA']
  have EA : Hid ((entC ql = .slice A L L ∧ entC qt = .slice A' L' L') ∧ (dig ql.2).length = L ∧ (dig qt.2).length = L') := ⟨⟨eA, eA'⟩, eL, eL'⟩
  rw [eL] at bl
  rw [eL'] at bt
  clear h hb hl ht eA eA' ho eL eL'
  go_enter Tabg.func134, Tabg.ntmps134
  go_wp2_with (fail)
  generalize (w.alloc (.cells #[.slice a n c, .slice o k oc] 103)).alloc (.cells #[.slice none 0 0, .slice none 0 0] 103) = w0 at *
  have CA := callA HB.out (fun w2 hu => apd (H.out.1.keeps (HB.out.up.trans hu).keeps) (-2) (by have := H.out.2.2.2; omega))
  have CB := callB HB.out (fun w2 hu => apd (H.out.1.keeps (HB.out.up.trans hu).keeps) (-2) (by have := H.out.2.2.2; omega))
  obtain ⟨k0, k1, lt1, d0, d1, e0, e1, lt2⟩ := HB.out.bf
  go_cut [11] (fun z wc => ∃ bn B', z = .pointer (some ⟨bn, 0, none⟩) ∧ Hid (Cut1 w0 wc bn (.slice a n c) (.slice (some ⟨B', 0, none⟩) (k + 1) (k + 1)) (fun W => LS W (.slice a n c) (.slice (some ⟨B', 0, none⟩) (k + 1) (k + 1)) vs (os ++ [-2]))))
  case first =>
    go_region_with (first | (go_at_call 131; refine (CA.out).mono ?_; rintro e wL ⟨Bs, rfl, ⟨k0', k1', lt1', d0', d1', e0', e1', lt2'⟩, HA⟩) | (go_at_call 131; refine (CB.out).mono ?_; rintro e wL ⟨Bs, rfl, ⟨k0', k1', lt1', d0', d1', e0', e1', lt2'⟩, HA⟩))
    all_goals go_wp2
    all_goals go_simp
    all_goals go_meet
    all_goals first | exact ⟨_, _, rfl, cutA LSk HA.out _ _⟩ | exact ⟨_, _, rfl, cutB LSk HA.out _ _⟩
  case rest =>
    obtain ⟨bn, B', rfl, HC⟩ := hcut
    have HBc : Hid (Bx w wc w.heap.size (w.heap.size + 1) (.slice a n c) (.slice o k oc)) := HB.out.mono HC.out.2.1
    have n0 : wc.cell? ⟨bn, 0, none⟩ = some (.slice a n c) := by rw [HC.out.1.cell]; rfl
    have n1 : wc.cell? ⟨bn, 1, none⟩ = some (.slice (some ⟨B', 0, none⟩) (k + 1) (k + 1)) := by rw [HC.out.1.cell]; rfl
    have HLc : Hid (LS wc (.slice a n c) (.slice o k oc) vs os ∧ EntOk 0 wc ql ∧ EntOk 0 wc qt ∧ os.length ≤ 4095) := ⟨H.out.1.keeps HBc.out.up.keeps, H.out.2.1.up HBc.out.up, H.out.2.2.1.up HBc.out.up, H.out.2.2.2⟩
    have HNo : Hid (LS wc (.slice a n c) (.slice (some ⟨B', 0, none⟩) (k + 1) (k + 1)) vs (os ++ [-2])) := HC.out.2.2
    clear CA CB HB k0 k1 lt1 d0 d1 e0 e1 lt2 HC H
    obtain ⟨k0, k1, lt1, d0, d1, e0, e1, lt2⟩ := HBc.out.bf
    have C : Hid (Calls Tabg.prog 69 #[.slice A L L, .slice A' L' L'] wc fun e w' => Res wc w' e (ql.2 + qt.2)) := by
      have := add_any _ _ _ _ _ _ _ _ wc HLc.out.2.1.ns.1 HLc.out.2.2.1.ns.1 (Nat.le_refl _) (Nat.le_refl _) (by rw [EA.out.2.1]; omega) (by rw [EA.out.2.2]; omega)
      rw [bv_dig, bv_dig] at this
      have e1 := EA.out.1.1
      have e2 := EA.out.1.2
      unfold entC at e1 e2
      rw [e1, e2] at this
      exact this
    go_wp2_with (fail)
    refine (C.out).mono ?_
    rintro e w3 ⟨B, zs, rfl, hB3, u3, hz⟩
    have HB3 : Hid (Bx w w3 w.heap.size (w.heap.size + 1) (.slice a n c) (.slice o k oc)) := HBc.out.mono u3
    have HS : Hid (LS w3 (.slice a n c) (.slice o k oc) vs os ∧ EntOk 0 w3 (B, ql.2 + qt.2)) := ⟨HLc.out.1.keeps u3.keeps, fun hv => ⟨Nat.zero_le _, zs, hz hv⟩⟩
    have HNo3 : Hid (LS w3 (.slice a n c) (.slice (some ⟨B', 0, none⟩) (k + 1) (k + 1)) vs (os ++ [-2])) := HNo.out.keeps u3.keeps
    replace n0 := u3.cell n0
    replace n1 := u3.cell n1
    clear C k0 k1 lt1 d0 d1 e0 e1 lt2 HNo hB3 hz u3 HLc HBc
    obtain ⟨k0, k1, lt1, d0, d1, e0, e1, lt2⟩ := HB3.out.bf
    have hds : (dig (ql.2 + qt.2)).length ≤ 8192 := by
      have hx : (dig ql.2).length ≤ 4096 := by rw [EA.out.2.1]; omega
      have hy : (dig qt.2).length ≤ 4096 := by rw [EA.out.2.2]; omega
      exact dig_length_le (sum_lt (dig_ltN hx) (dig_ltN hy))
    by_cases hf : 1024 < (dig (ql.2 + qt.2)).length
    · have er : rowP 2 t vs os = noP vs os := by
        rw [rowP_2, if_pos (by rw [← el, ← et]; exact Or.inr hf)]
      obtain ⟨HO, HL⟩ := HB3.out.fin (p := rowP 2 t vs os) (Up.refl _) (by rw [er]; exact HNo3.out)
      clear HS HNo3 HB3 er EA
      generalize nrmA (some ⟨B, 0, none⟩) (ql.2 + qt.2) = P at *
      generalize (dig (ql.2 + qt.2)).length = LL at *
      have g : (1024 : Int) < (LL : Int) := by omega
      go_wp2_with (fail)
      refine bodyPost_ret (ret103 rfl _ _ _ rfl _ _ HO.out) rfl ?_
      exact HL.out
    · have er : Hid (rowP 2 t vs os = (vs.take (vs.length - 2) ++ [ql.2 + qt.2], os)) := by
        show _ = _
        rw [rowP_2, if_neg (by rw [← el, ← et]; omega), el, et]
        rfl
      have ER := er
      have CS := callA HB3.out (fun w2 hu => stk (HS.out.1.keeps hu.keeps) (by omega) (vs.length - 2) 2 (by omega) (B, ql.2 + qt.2) (HS.out.2.up hu))
      unfold entC at CS
      dsimp only at CS
      clear HS HNo3 er EA
      generalize nrmA (some ⟨B, 0, none⟩) (ql.2 + qt.2) = P at *
      have g : ((dig (ql.2 + qt.2)).length : Int) ≤ 1024 := by omega
      have g' : decide ((1024 : Int) < ((dig (ql.2 + qt.2)).length : Int)) = false := decide_eq_false (by omega)
      generalize (dig (ql.2 + qt.2)).length = LL at *
      go_wp2_with (fail)
      go_region_with (first | (go_at_call 132; refine (CS.out).mono ?_; rintro e wL ⟨Bs, rfl, ⟨k0', k1', lt1', d0', d1', e0', e1', lt2'⟩, HA⟩; obtain ⟨HO, HL⟩ := HB3.out.fin (p := rowP 2 t vs os) HA.out.1 (by rw [ER.out]; exact HA.out.2)))
      all_goals go_wp2_with (fail)
      all_goals refine bodyPost_ret (ret103 rfl _ _ _ rfl _ _ HO.out) rfl ?_
      all_goals exact HL.out
end Go.Proofs.Ygctab
