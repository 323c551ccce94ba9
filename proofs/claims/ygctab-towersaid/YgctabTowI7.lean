import Derived.Test.YgctabTowJ
namespace Go.Proofs.Ygctab
open Go.RowKit
set_option linter.unusedVariables false
set_option linter.unusedSimpArgs false
set_option exponentiation.threshold 9000

set_option maxRecDepth 100000 in
set_option maxHeartbeats 6400000 in
theorem two_7 {w : World} {a o : Option Addr} {n c k oc : Nat} {vs : List Nat} {os : List Int} (h : LS w (.slice a n c) (.slice o k oc) vs os) (hb : Bnd vs) (ho : os.length ≤ 4095) (h2 : 2 ≤ vs.length)
    (ql qt : Nat × Nat) (hl : EntOk 0 w ql) (ht : EntOk 0 w qt) (el : ql.2 = lowV vs) (et : qt.2 = topV vs) (t : Nat) :
    Calls Tabg.prog 134 #[.int .u8 0, .agg #[.slice a n c, .slice o k oc], .int .u8 7, entC ql, entC qt] w fun e w' => LR w w' e (rowP 7 t vs os) := by
  have HB : Hid (Bx w ((w.alloc (.cells #[.slice a n c, .slice o k oc] 103)).alloc (.cells #[.slice none 0 0, .slice none 0 0] 103)) w.heap.size (w.heap.size + 1) (.slice a n c) (.slice o k oc)) := Bx.new ..
  have H : Hid (LS w (.slice a n c) (.slice o k oc) vs os ∧ EntOk 0 w ql ∧ EntOk 0 w qt ∧ os.length ≤ 4095) := ⟨h, hl, ht, ho⟩
  have h16 := hb.1
  have bl : (dig ql.2).length ≤ 1024 := by rw [el]; exact hb.low
  have bt : (dig qt.2).length ≤ 1024 := by rw [et]; exact hb.top
  obtain ⟨A, L, eA, eL⟩ : ∃ A L, entC ql = .slice A L L ∧ (dig ql.2).length = L := ⟨_, _, rfl, rfl⟩
  obtain ⟨A', L', eA', eL'⟩ : ∃ A L, entC qt = .slice A L L ∧ (dig qt.2).length = L := ⟨_, _, rfl, rfl⟩
  rw [eA, eA']
  have EA : Hid ((entC ql = .slice A L L ∧ entC qt = .slice A' L' L') ∧ (dig ql.2).length = L ∧ (dig qt.2).length = L') := ⟨⟨eA, eA'⟩, eL, eL'⟩
  rw [eL] at bl
  rw [eL'] at bt
  clear h hb hl ht eA eA' ho eL eL'
  go_enter Tabg.func134, Tabg.ntmps134
  go_wp2_with (fail)
  generalize (w.alloc (.cells #[.slice a n c, .slice o k oc] 103)).alloc (.cells #[.slice none 0 0, .slice none 0 0] 103) = w0 at *
  have CA := callA HB.out (fun w2 hu => apd (H.out.1.keeps (HB.out.up.trans hu).keeps) (-2) (by have := H.out.2.2.2; omega))
  have CB := callB HB.out (fun w2 hu => apd (H.out.1.keeps (HB.out.up.trans hu).keeps) (-2) (by have := H.out.2.2.2; omega))
  obtain ⟨k0, k1, lt1, d0, d1, e0, e1, lt2⟩ := HB.out.bf
  go_cut [11] (fun z wc => ∃ bn B', z = .pointer (some ⟨bn, 0, none⟩) ∧ Hid (Cut1 w0 wc bn (.slice a n c) (.slice (some ⟨B', 0, none⟩) (k + 1) (k + 1)) (fun W => LS W (.slice a n c) (.slice (some ⟨B', 0, none⟩) (k + 1) (k + 1)) vs (os ++ [-2]))))
  case first =>
    go_region_with (first | (go_at_call 131; refine (CA.out).mono ?_; rintro e wL ⟨Bs, rfl, ⟨k0', k1', lt1', d0', d1', e0', e1', lt2'⟩, HA⟩) | (go_at_call 131; refine (CB.out).mono ?_; rintro e wL ⟨Bs, rfl, ⟨k0', k1', lt1', d0', d1', e0', e1', lt2'⟩, HA⟩))
    all_goals go_wp2
    all_goals go_simp
    all_goals go_meet
    all_goals first | exact ⟨_, _, rfl, cutA LSk HA.out _ _⟩ | exact ⟨_, _, rfl, cutB LSk HA.out _ _⟩
  case rest =>
    obtain ⟨bn, B', rfl, HC⟩ := hcut
    have HBc : Hid (Bx w wc w.heap.size (w.heap.size + 1) (.slice a n c) (.slice o k oc)) := HB.out.mono HC.out.2.1
    have n0 : wc.cell? ⟨bn, 0, none⟩ = some (.slice a n c) := by rw [HC.out.1.cell]; rfl
    have n1 : wc.cell? ⟨bn, 1, none⟩ = some (.slice (some ⟨B', 0, none⟩) (k + 1) (k + 1)) := by rw [HC.out.1.cell]; rfl
    have HLc : Hid (LS wc (.slice a n c) (.slice o k oc) vs os ∧ EntOk 0 wc ql ∧ EntOk 0 wc qt ∧ os.length ≤ 4095) := ⟨H.out.1.keeps HBc.out.up.keeps, H.out.2.1.up HBc.out.up, H.out.2.2.1.up HBc.out.up, H.out.2.2.2⟩
    have HNo : Hid (LS wc (.slice a n c) (.slice (some ⟨B', 0, none⟩) (k + 1) (k + 1)) vs (os ++ [-2])) := HC.out.2.2
    clear CA CB HB k0 k1 lt1 d0 d1 e0 e1 lt2 HC H
    obtain ⟨k0, k1, lt1, d0, d1, e0, e1, lt2⟩ := HBc.out.bf
    have CS := callA HBc.out (fun w2 hu => stk (HLc.out.1.keeps hu.keeps) (by omega) (vs.length - 2) 2 (by omega) qt (HLc.out.2.2.1.up hu))
    rw [EA.out.1.2] at CS
    have CT : Hid (∀ w' B, Up wc w' → LS w' (.slice (some ⟨B, 0, none⟩) (vs.length - 2 + 1) (vs.length - 2 + 1)) (.slice o k oc) (vs.take (vs.length - 2) ++ [qt.2]) os → Calls Tabg.prog 132 #[.slice (some ⟨B, 0, none⟩) (vs.length - 2 + 1) (vs.length - 2 + 1), .int .i64 0, .slice A L L] w' fun e wL => ∃ B2, e = .returned (.slice (some ⟨B2, 0, none⟩) (vs.length - 2 + 1 + 1) (vs.length - 2 + 1 + 1)) ∧ BF wL w.heap.size (w.heap.size + 1) (.slice a n c) (.slice o k oc) ∧ Hid (Up wc wL ∧ LS wL (.slice (some ⟨B2, 0, none⟩) (vs.length - 2 + 1 + 1) (vs.length - 2 + 1 + 1)) (.slice o k oc) (vs.take (vs.length - 2) ++ [qt.2] ++ [ql.2]) os)) := by
      intro w' B hu hL
      have hlen : (vs.take (vs.length - 2) ++ [qt.2]).length = vs.length - 2 + 1 := by rw [List.length_append, List.length_take, List.length_singleton]; omega
      have := stk hL (by omega) (vs.length - 2 + 1) 0 (by omega) ql (HLc.out.2.1.up hu)
      rw [List.take_of_length_le (by omega), EA.out.1.1] at this
      refine this.mono ?_
      rintro e w'' ⟨B2, he, hu2, hL2⟩
      exact ⟨B2, he, (HBc.out.mono (hu.trans hu2)).bf, hu.trans hu2, hL2⟩
    have ER : Hid (rowP 7 t vs os = (vs.take (vs.length - 2) ++ [qt.2] ++ [ql.2], os)) := by
      show _ = _
      rw [rowP_7, if_neg (by omega), el, et]
      rfl
    have HB3 := HBc
    clear HLc HNo EA HBc n0 n1
    generalize vs.length - 2 + 1 = M1 at *
    go_wp2_with (fail)
    go_region_with (first | (go_at_call_of 132 (Value.slice A' L' L'); refine (CS.out).mono ?_; rintro e wJ ⟨Bs, rfl, ⟨k0'', k1'', lt1'', d0'', d1'', e0'', e1'', lt2''⟩, HJ⟩) | (go_at_call_of 132 (Value.slice A L L); refine (CT.out _ _ HJ.out.1 HJ.out.2).mono ?_; rintro e wL ⟨Bt, rfl, ⟨k0', k1', lt1', d0', d1', e0', e1', lt2'⟩, HA⟩; obtain ⟨HO, HL⟩ := HB3.out.fin (p := rowP 7 t vs os) HA.out.1 (by rw [ER.out]; exact HA.out.2)))
    all_goals go_wp2_with (fail)
    all_goals refine bodyPost_ret (ret103 rfl _ _ _ rfl _ _ HO.out) rfl ?_
    all_goals exact HL.out
end Go.Proofs.Ygctab
