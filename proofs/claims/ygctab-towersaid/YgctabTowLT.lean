import Derived.Test.YgctabTowK
import Derived.Deep.RegionHeld3
import Derived.Test.YgctabTowI1
import Derived.Test.YgctabTowI2
import Derived.Test.YgctabTowI3
import Derived.Test.YgctabTowI5
import Derived.Test.YgctabTowI7
namespace Go.Proofs.Ygctab
open Go.RowKit
set_option linter.unusedVariables false
set_option linter.unusedSimpArgs false
set_option exponentiation.threshold 9000


set_option maxRecDepth 100000 in
set_option maxHeartbeats 6400000 in
theorem row_T (K : Nat) {w : World} {a o : Option Addr} {n c k oc : Nat} {vs : List Nat} {os : List Int} (h : LS w (.slice a n c) (.slice o k oc) vs os) (hb : Bnd vs) (ho : os.length ≤ 4095)
    {A : Option Addr} {l cc : Nat} {ds : List Nat} (hin : Inp w A l cc ds) (hK : K = 1 ∨ K = 2 ∨ K = 3 ∨ K = 5 ∨ K = 7) :
    Calls Tabg.prog 76 #[.int .u8 0, .agg #[.slice a n c, .slice o k oc], .agg #[.int .u8 (K : Int), .slice A l cc]] w fun e w' => LR w w' e (rowP K (bv (ds.take 512)) vs os) := by
  have HB : Hid (By w (((w.alloc (.cells #[.slice a n c, .slice o k oc] 103)).alloc (.cells #[.int .u8 (K : Int), .slice A l cc] 106)).alloc (.cells #[.slice none 0 0, .slice none 0 0] 103)) w.heap.size (w.heap.size + 1) (w.heap.size + 2) (.slice a n c) (.slice o k oc) (.int .u8 (K : Int)) (.slice A l cc)) := By.new ..
  have H : Hid (LS w (.slice a n c) (.slice o k oc) vs os ∧ os.length ≤ 4095 ∧ Inp w A l cc ds ∧ Bnd vs) := ⟨h, ho, hin, hb⟩
  have h16 := hb.1
  have hnl := h.lens.1
  have hnc := h.lens.2.2
  have Hn : Hid (n = vs.length) := hnl
  have n16 : n ≤ 16 := by omega
  obtain ⟨t, ht⟩ : ∃ t, bv (ds.take 512) = t := ⟨_, rfl⟩
  have HT : Hid (bv (ds.take 512) = t) := ht
  rw [ht]
  clear h hb ho hin ht hnl h16
  have CTW : Hid (∀ w' (a' : Option Addr) (ql qt : Nat × Nat), LS w' (.slice a' n c) (.slice o k oc) vs os → Bnd vs → os.length ≤ 4095 → 2 ≤ vs.length → EntOk 0 w' ql → EntOk 0 w' qt → ql.2 = lowV vs → qt.2 = topV vs → ∀ t, Calls Tabg.prog 134 #[.int .u8 0, .agg #[.slice a' n c, .slice o k oc], .int .u8 (K : Int), entC ql, entC qt] w' fun e w'' => LR w' w'' e (rowP K t vs os)) := by
    intro w' a' ql qt g1 g2 g3 g4 g5 g6 g7 g8 t
    rcases hK with rfl | rfl | rfl | rfl | rfl
    · exact two_1 g1 g2 g3 g4 ql qt g5 g6 g7 g8 t
    · exact two_2 g1 g2 g3 g4 ql qt g5 g6 g7 g8 t
    · exact two_3 g1 g2 g3 g4 ql qt g5 g6 g7 g8 t
    · exact two_5 g1 g2 g3 g4 ql qt g5 g6 g7 g8 t
    · exact two_7 g1 g2 g3 g4 ql qt g5 g6 g7 g8 t
  go_enter Tabg.func76, Tabg.ntmps76
  go_wp2_with (fail)
  generalize ((w.alloc (.cells #[.slice a n c, .slice o k oc] 103)).alloc (.cells #[.int .u8 (K : Int), .slice A l cc] 106)).alloc (.cells #[.slice none 0 0, .slice none 0 0] 103) = w0 at *
  have CA := callA HB.out.bx (fun w2 hu => apd (H.out.1.keeps (HB.out.bx.up.trans hu).keeps) (-2) (by have := H.out.2.1; omega))
  have CB := callB HB.out.bx (fun w2 hu => apd (H.out.1.keeps (HB.out.bx.up.trans hu).keeps) (-2) (by have := H.out.2.1; omega))
  obtain ⟨k0, k1, lt1, d0, d1, e0, e1, lt2⟩ := HB.out.bx.bf
  go_cut [8] (fun z wc => ∃ bn B', z = .pointer (some ⟨bn, 0, none⟩) ∧ Hid (Cut1 w0 wc bn (.slice a n c) (.slice (some ⟨B', 0, none⟩) (k + 1) (k + 1)) (fun W => LS W (.slice a n c) (.slice (some ⟨B', 0, none⟩) (k + 1) (k + 1)) vs (os ++ [-2]))))
  case first =>
    go_region_with (first | (go_at_call 131; refine (CA.out).mono ?_; rintro e wL ⟨Bs, rfl, ⟨k0', k1', lt1', d0', d1', e0', e1', lt2'⟩, HA⟩) | (go_at_call 131; refine (CB.out).mono ?_; rintro e wL ⟨Bs, rfl, ⟨k0', k1', lt1', d0', d1', e0', e1', lt2'⟩, HA⟩))
    all_goals go_wp2
    all_goals go_simp
    all_goals go_meet
    all_goals first | exact ⟨_, _, rfl, cutA LSk HA.out _ _⟩ | exact ⟨_, _, rfl, cutB LSk HA.out _ _⟩
  case rest =>
    obtain ⟨bn, B', rfl, HC⟩ := hcut
    have HBc : Hid (By w wc w.heap.size (w.heap.size + 1) (w.heap.size + 2) (.slice a n c) (.slice o k oc) (.int .u8 (K : Int)) (.slice A l cc)) := HB.out.mono HC.out.2.1
    have n0 : wc.cell? ⟨bn, 0, none⟩ = some (.slice a n c) := by rw [HC.out.1.cell]; rfl
    have n1 : wc.cell? ⟨bn, 1, none⟩ = some (.slice (some ⟨B', 0, none⟩) (k + 1) (k + 1)) := by rw [HC.out.1.cell]; rfl
    have HLc : Hid (LS wc (.slice a n c) (.slice o k oc) vs os ∧ os.length ≤ 4095 ∧ Inp wc A l cc ds ∧ Bnd vs ∧ vs.length ≤ 16) := ⟨H.out.1.keeps HBc.out.bx.up.keeps, H.out.2.1, H.out.2.2.1.up HBc.out.bx.up, H.out.2.2.2, H.out.2.2.2.1⟩
    have HNo : Hid (LS wc (.slice a n c) (.slice (some ⟨B', 0, none⟩) (k + 1) (k + 1)) vs (os ++ [-2])) := HC.out.2.2
    clear CA CB HB k0 k1 lt1 d0 d1 e0 e1 lt2 HC H
    obtain ⟨k0, k1, lt1, d0, d1, e0, e1, lt2⟩ := HBc.out.bx.bf
    obtain ⟨m0, m1, lt3⟩ := HBc.out.mf
    have f0 : ((K : Int) == 0) = false := by simp; omega
    have f0' : decide (K = 0) = false := decide_eq_false (by omega)
    have f6 : ((K : Int) == 6) = false := by simp; omega
    have f6' : decide (K = 6) = false := decide_eq_false (by omega)
    have f8 : ((K : Int) == 8) = false := by simp; omega
    have f8' : decide (K = 8) = false := decide_eq_false (by omega)
    have f4 : ((K : Int) == 4) = false := by simp; omega
    have f4' : decide (K = 4) = false := decide_eq_false (by omega)
    have f9 : decide ((8 : Int) < (K : Int)) = false := decide_eq_false (by omega)
    have f9' : (K : Int) ≤ 8 := by omega
    by_cases z0 : n < 2
    · have er : rowP K t vs os = noP vs os := by
        have := Hn.out
        rcases hK with rfl | rfl | rfl | rfl | rfl
        · rw [rowP_1, if_pos (by omega)]
        · rw [rowP_2, if_pos (by omega)]
        · rw [rowP_3, if_pos (by omega)]
        · rw [rowP_5, if_pos (by omega)]
        · rw [rowP_7, if_pos (by omega)]
      obtain ⟨HO, HL⟩ := HBc.out.bx.fin (p := rowP K t vs os) (Up.refl _) (by rw [er]; exact HNo.out)
      have gf : (n : Int) < 2 := by omega
      clear HLc HNo HBc er Hn hK CTW
      go_wp2_with (fail)
      refine bodyPost_ret (ret103 rfl _ _ _ rfl _ _ HO.out) rfl ?_
      exact HL.out
    have gf : decide ((n : Int) < 2) = false := decide_eq_false (by omega)
    have gf' : decide (n < 2) = false := decide_eq_false (by omega)
    have gf'' : (2 : Int) ≤ (n : Int) := by omega
    obtain ⟨p1, hp1⟩ : ∃ p1, p1 = n - 1 := ⟨_, rfl⟩
    have e1n : (n : Int) - 1 = (p1 : Int) := by omega
    have Hp1 : Hid (n = p1 + 1) := by show n = p1 + 1; omega
    have p1I : (p1 : Int) < (n : Int) := by omega
    have p10 : (0 : Int) ≤ (p1 : Int) := by omega
    have nI : (n : Int) ≤ 16 := by omega
    obtain ⟨b, q1, rfl, hb1, hq1, hv1⟩ := HLc.out.1.at (i := p1) (by have := Hn.out; omega)
    obtain ⟨A1, L1, eA1⟩ : ∃ A L, entC q1 = .slice A L L := ⟨_, _, rfl⟩
    have HV1 : Hid (q1.2 = topV vs ∧ EntOk 0 wc q1 ∧ entC q1 = .slice A1 L1 L1 ∧ (dig q1.2).length = L1) := ⟨by rw [hv1]; unfold topV; rw [← Hn.out, ← hp1], hq1, eA1, by unfold entC at eA1; cases eA1; rfl⟩
    rw [eA1] at hb1
    have hbs : b ≠ w.heap.size + 2 := by
      obtain ⟨⟨ps, _, hR, _⟩, _⟩ := HLc.out.1
      rcases hR.2 with ⟨hv, _⟩ | ⟨g, cap, cur, hv, hO, _⟩
      · cases hv
      · cases hv
        exact hO.ne HBc.out.bx.own2 (by decide)
    clear hp1 eA1 hv1 hq1
    obtain ⟨p2, hp2⟩ : ∃ p2, p2 = n - 2 := ⟨_, rfl⟩
    have e2n : (n : Int) - 2 = (p2 : Int) := by omega
    have Hp2 : Hid (n = p2 + 2) := by show n = p2 + 2; omega
    have p2I : (p2 : Int) < (n : Int) := by omega
    have p20 : (0 : Int) ≤ (p2 : Int) := by omega
    obtain ⟨b2, q2, hbe, hb2, hq2, hv2⟩ := HLc.out.1.at (i := p2) (by have := Hn.out; omega)
    cases hbe
    obtain ⟨A2, L2, eA2⟩ : ∃ A L, entC q2 = .slice A L L := ⟨_, _, rfl⟩
    have HV2 : Hid (q2.2 = lowV vs ∧ EntOk 0 wc q2 ∧ entC q2 = .slice A2 L2 L2) := ⟨by rw [hv2]; unfold lowV; rw [← Hn.out, ← hp2], hq2, eA2⟩
    rw [eA2] at hb2
    clear hp2 eA2 hv2 hq2
    have HS : Hid (∀ w', Up wc w' → (w'.cell? ⟨w.heap.size, 0, none⟩ = some (.slice (some ⟨b, 0, none⟩) n c) ∧ w'.cell? ⟨w.heap.size, 1, none⟩ = some (.slice o k oc) ∧ w'.cell? ⟨w.heap.size + 1, 0, none⟩ = some (.int .u8 (K : Int)) ∧ w'.cell? ⟨w.heap.size + 1, 1, none⟩ = some (.slice A l cc) ∧ w'.cell? ⟨b, p1, none⟩ = some (.slice A1 L1 L1) ∧ w'.cell? ⟨b, p2, none⟩ = some (.slice A2 L2 L2))) := fun w' hu => ⟨hu.cell k0, hu.cell k1, hu.cell m0, hu.cell m1, hu.cell hb1, hu.cell hb2⟩
    have HD : Hid (∀ wL, Up wc wL → (wL.cell? ⟨w.heap.size + 2, 0, none⟩ = some (.slice none 0 0) ∧ wL.cell? ⟨w.heap.size + 2, 1, none⟩ = some (.slice none 0 0) ∧ wL.frozen? ⟨w.heap.size + 2, 0, none⟩ = false ∧ wL.frozen? ⟨w.heap.size + 2, 1, none⟩ = false)) := fun wL hu => ⟨hu.cell d0, hu.cell d1, (HBc.out.bx.own2.up hu).free 0, (HBc.out.bx.own2.up hu).free 1⟩
    have CK : Hid (∀ w2, Up wc w2 → Calls Tabg.prog 134 #[.int .u8 0, .agg #[.slice (some ⟨b, 0, none⟩) n c, .slice o k oc], .int .u8 (K : Int), .slice A2 L2 L2, .slice A1 L1 L1] w2 fun e wL => ∃ a3 n3 c3 o3 k3 oc3, e = .returned (.agg #[.slice a3 n3 c3, .slice o3 k3 oc3]) ∧ (wL.cell? ⟨w.heap.size, 0, none⟩ = some (.slice (some ⟨b, 0, none⟩) n c) ∧ wL.cell? ⟨w.heap.size, 1, none⟩ = some (.slice o k oc) ∧ wL.cell? ⟨w.heap.size + 1, 0, none⟩ = some (.int .u8 (K : Int)) ∧ wL.cell? ⟨w.heap.size + 1, 1, none⟩ = some (.slice A l cc) ∧ wL.cell? ⟨b, p1, none⟩ = some (.slice A1 L1 L1) ∧ wL.cell? ⟨b, p2, none⟩ = some (.slice A2 L2 L2)) ∧ (wL.cell? ⟨w.heap.size + 2, 0, none⟩ = some (.slice none 0 0) ∧ wL.cell? ⟨w.heap.size + 2, 1, none⟩ = some (.slice none 0 0) ∧ wL.frozen? ⟨w.heap.size + 2, 0, none⟩ = false ∧ wL.frozen? ⟨w.heap.size + 2, 1, none⟩ = false) ∧ Hid (Up wc wL ∧ LS wL (.slice a3 n3 c3) (.slice o3 k3 oc3) (rowP K t vs os).1 (rowP K t vs os).2)) := by
      intro w2 hu
      have q1' := Hn.out
      have := CTW.out w2 _ q2 q1 (HLc.out.1.keeps hu.keeps) HLc.out.2.2.2.1 HLc.out.2.1 (by omega) (HV2.out.2.1.up hu) (HV1.out.2.1.up hu) HV2.out.1 HV1.out.1 t
      rw [HV1.out.2.2.1, HV2.out.2.2] at this
      refine this.mono ?_
      rintro e w' ⟨a3, n3, c3, o3, k3, oc3, he, hu2, hL⟩
      exact ⟨a3, n3, c3, o3, k3, oc3, he, HS.out _ (hu.trans hu2), HD.out _ (hu.trans hu2), hu.trans hu2, hL⟩
    clear HLc HNo HS HD n0 n1 Hn HT CTW hK
    have hw1 : IntKind.i64.wrap (p1 : Int) = (p1 : Int) := by rw [IntKind.wrap_i64]; omega
    have hw1' : IntKind.i64.wrap ((n : Int) - 1) = (p1 : Int) := by rw [IntKind.wrap_i64]; omega
    have hw2 : IntKind.i64.wrap (p2 : Int) = (p2 : Int) := by rw [IntKind.wrap_i64]; omega
    have hw2' : IntKind.i64.wrap ((n : Int) - 2) = (p2 : Int) := by rw [IntKind.wrap_i64]; omega
    go_wp2_with (fail)
    go_region_held3 (fun w' => (w'.cell? ⟨w.heap.size, 0, none⟩ = some (.slice (some ⟨b, 0, none⟩) n c) ∧ w'.cell? ⟨w.heap.size, 1, none⟩ = some (.slice o k oc) ∧ w'.cell? ⟨w.heap.size + 1, 0, none⟩ = some (.int .u8 (K : Int)) ∧ w'.cell? ⟨w.heap.size + 1, 1, none⟩ = some (.slice A l cc) ∧ w'.cell? ⟨b, p1, none⟩ = some (.slice A1 L1 L1) ∧ w'.cell? ⟨b, p2, none⟩ = some (.slice A2 L2 L2))) (first | assumption | exact ⟨cell_set2 (by omega) hS'.1, cell_set2 (by omega) hS'.2.1, cell_set2 (by omega) hS'.2.2.1, cell_set2 (by omega) hS'.2.2.2.1, cell_set2 hbs hS'.2.2.2.2.1, cell_set2 hbs hS'.2.2.2.2.2⟩ | go_keep)
      (first | (go_at_call 134; refine (CK.out _ (by first | exact (Up.refl _).drew | exact Up.refl _ | exact Hid.out (by assumption))).mono ?_; rintro e wL ⟨a3, n3, c3, o3, k3, oc3, rfl, hS', ⟨d0', d1', e0', e1'⟩, HA⟩; obtain ⟨HO, HL⟩ := HBc.out.bx.fin (p := rowP K t vs os) HA.out.1 HA.out.2))
    all_goals go_wp2_with (fail)
    all_goals refine bodyPost_ret (ret103 rfl _ _ _ rfl _ _ HO.out) rfl ?_
    all_goals exact HL.out
end Go.Proofs.Ygctab
