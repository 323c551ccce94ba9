import Derived.Test.YgctabTowK
import Derived.Deep.RegionHeld3

namespace Go.Proofs.Ygctab
open Go.RowKit
set_option linter.unusedVariables false
set_option linter.unusedSimpArgs false
set_option exponentiation.threshold 9000


set_option maxRecDepth 100000 in
set_option maxHeartbeats 6400000 in
theorem row_0 {w : World} {a o : Option Addr} {n c k oc : Nat} {vs : List Nat} {os : List Int} (h : LS w (.slice a n c) (.slice o k oc) vs os) (hb : Bnd vs) (ho : os.length ≤ 4095)
    {A : Option Addr} {l cc : Nat} {ds : List Nat} (hin : Inp w A l cc ds) :
    Calls Tabg.prog 76 #[.int .u8 0, .agg #[.slice a n c, .slice o k oc], .agg #[.int .u8 0, .slice A l cc]] w fun e w' => LR w w' e (rowP 0 (bv (ds.take 512)) vs os) := by
  have HB : Hid (By w (((w.alloc (.cells #[.slice a n c, .slice o k oc] 103)).alloc (.cells #[.int .u8 0, .slice A l cc] 106)).alloc (.cells #[.slice none 0 0, .slice none 0 0] 103)) w.heap.size (w.heap.size + 1) (w.heap.size + 2) (.slice a n c) (.slice o k oc) (.int .u8 0) (.slice A l cc)) := By.new ..
  have H : Hid (LS w (.slice a n c) (.slice o k oc) vs os ∧ os.length ≤ 4095 ∧ Inp w A l cc ds ∧ Bnd vs) := ⟨h, ho, hin, hb⟩
  have h16 := hb.1
  have hnl := h.lens.1
  have hnc := h.lens.2.2
  have Hn : Hid (n = vs.length) := hnl
  have n16 : n ≤ 16 := by omega
  obtain ⟨t, ht⟩ : ∃ t, bv (ds.take 512) = t := ⟨_, rfl⟩
  have HT : Hid (bv (ds.take 512) = t) := ht
  rw [ht]
  clear h hb ho hin ht hnl h16
  go_enter Tabg.func76, Tabg.ntmps76
  go_wp2_with (fail)
  generalize ((w.alloc (.cells #[.slice a n c, .slice o k oc] 103)).alloc (.cells #[.int .u8 0, .slice A l cc] 106)).alloc (.cells #[.slice none 0 0, .slice none 0 0] 103) = w0 at *
  have CA := callA HB.out.bx (fun w2 hu => apd (H.out.1.keeps (HB.out.bx.up.trans hu).keeps) (-2) (by have := H.out.2.1; omega))
  have CB := callB HB.out.bx (fun w2 hu => apd (H.out.1.keeps (HB.out.bx.up.trans hu).keeps) (-2) (by have := H.out.2.1; omega))
  obtain ⟨k0, k1, lt1, d0, d1, e0, e1, lt2⟩ := HB.out.bx.bf
  go_cut [8] (fun z wc => ∃ bn B', z = .pointer (some ⟨bn, 0, none⟩) ∧ Hid (Cut1 w0 wc bn (.slice a n c) (.slice (some ⟨B', 0, none⟩) (k + 1) (k + 1)) (fun W => LS W (.slice a n c) (.slice (some ⟨B', 0, none⟩) (k + 1) (k + 1)) vs (os ++ [-2]))))
  case first =>
    go_region_with (first | (go_at_call 131; refine (CA.out).mono ?_; rintro e wL ⟨Bs, rfl, ⟨k0', k1', lt1', d0', d1', e0', e1', lt2'⟩, HA⟩) | (go_at_call 131; refine (CB.out).mono ?_; rintro e wL ⟨Bs, rfl, ⟨k0', k1', lt1', d0', d1', e0', e1', lt2'⟩, HA⟩))
    all_goals go_wp2
    all_goals go_simp
    all_goals go_meet
    all_goals first | exact ⟨_, _, rfl, cutA LSk HA.out _ _⟩ | exact ⟨_, _, rfl, cutB LSk HA.out _ _⟩
  case rest =>
    obtain ⟨bn, B', rfl, HC⟩ := hcut
    have HBc : Hid (By w wc w.heap.size (w.heap.size + 1) (w.heap.size + 2) (.slice a n c) (.slice o k oc) (.int .u8 0) (.slice A l cc)) := HB.out.mono HC.out.2.1
    have n0 : wc.cell? ⟨bn, 0, none⟩ = some (.slice a n c) := by rw [HC.out.1.cell]; rfl
    have n1 : wc.cell? ⟨bn, 1, none⟩ = some (.slice (some ⟨B', 0, none⟩) (k + 1) (k + 1)) := by rw [HC.out.1.cell]; rfl
    have HLc : Hid (LS wc (.slice a n c) (.slice o k oc) vs os ∧ os.length ≤ 4095 ∧ Inp wc A l cc ds ∧ Bnd vs ∧ vs.length ≤ 16) := ⟨H.out.1.keeps HBc.out.bx.up.keeps, H.out.2.1, H.out.2.2.1.up HBc.out.bx.up, H.out.2.2.2, H.out.2.2.2.1⟩
    have HNo : Hid (LS wc (.slice a n c) (.slice (some ⟨B', 0, none⟩) (k + 1) (k + 1)) vs (os ++ [-2])) := HC.out.2.2
    clear CA CB HB k0 k1 lt1 d0 d1 e0 e1 lt2 HC H
    obtain ⟨k0, k1, lt1, d0, d1, e0, e1, lt2⟩ := HBc.out.bx.bf
    obtain ⟨m0, m1, lt3⟩ := HBc.out.mf
    by_cases z16 : n = 16
    · subst z16
      have er : rowP 0 t vs os = noP vs os := by
        have := Hn.out
        rw [rowP_0, if_pos (by omega)]
      obtain ⟨HO, HL⟩ := HBc.out.bx.fin (p := rowP 0 t vs os) (Up.refl _) (by rw [er]; exact HNo.out)
      clear HLc HNo HBc er Hn
      go_wp2_with (fail)
      refine bodyPost_ret (ret103 rfl _ _ _ rfl _ _ HO.out) rfl ?_
      exact HL.out
    have g16 : ((n : Int) == 16) = false := by simp; omega
    have g16' : decide (n = 16) = false := decide_eq_false (by omega)
    have g0 : (0 : Int) ≤ (n : Int) := by omega
    have nI : (n : Int) < 16 := by omega
    obtain ⟨md, dd, hD, hI, hmd⟩ := digits_inp HLc.out.2.2.1
    have HS : Hid (∀ w', Up wc w' → (w'.cell? ⟨w.heap.size, 0, none⟩ = some (.slice a n c) ∧ w'.cell? ⟨w.heap.size, 1, none⟩ = some (.slice o k oc) ∧ w'.cell? ⟨w.heap.size + 1, 0, none⟩ = some (.int .u8 0) ∧ w'.cell? ⟨w.heap.size + 1, 1, none⟩ = some (.slice A l cc))) := fun w' hu => ⟨hu.cell k0, hu.cell k1, hu.cell m0, hu.cell m1⟩
    have HD : Hid (∀ wL, Up wc wL → (wL.cell? ⟨w.heap.size + 2, 0, none⟩ = some (.slice none 0 0) ∧ wL.cell? ⟨w.heap.size + 2, 1, none⟩ = some (.slice none 0 0) ∧ wL.frozen? ⟨w.heap.size + 2, 0, none⟩ = false ∧ wL.frozen? ⟨w.heap.size + 2, 1, none⟩ = false)) := fun wL hu => ⟨hu.cell d0, hu.cell d1, (HBc.out.bx.own2.up hu).free 0, (HBc.out.bx.own2.up hu).free 1⟩
    have CD : Hid (∀ w', Calls Tabg.prog 61 #[.slice A l cc, .int .i64 512] w' fun e w'' => e = .returned (.slice A md dd) ∧ w' = w'') := hD
    have CT : Hid (∀ w2, Up wc w2 → Calls Tabg.prog 62 #[.slice A md dd] w2 fun e w' => ∃ B zs, e = .returned (.slice (nrmA (some ⟨B, 0, none⟩) t) (dig t).length (dig t).length) ∧ (w'.cell? ⟨w.heap.size, 0, none⟩ = some (.slice a n c) ∧ w'.cell? ⟨w.heap.size, 1, none⟩ = some (.slice o k oc) ∧ w'.cell? ⟨w.heap.size + 1, 0, none⟩ = some (.int .u8 0) ∧ w'.cell? ⟨w.heap.size + 1, 1, none⟩ = some (.slice A l cc)) ∧ Hid (Up wc w') ∧ Hid (NSo w' B t zs)) := by
      intro w2 hu
      have := take_inp (hI.up hu) (by omega)
      rw [List.take_of_length_le (by simp; omega), HT.out] at this
      refine this.mono ?_
      rintro e w' ⟨B, zs, he, _, hu2, hz⟩
      exact ⟨B, zs, he, HS.out _ (hu.trans hu2), hu.trans hu2, hz⟩
    have CK : Hid (∀ w2 B zs, Up wc w2 → NSo w2 B t zs → Calls Tabg.prog 132 #[.slice a n c, .int .i64 0, .slice (nrmA (some ⟨B, 0, none⟩) t) (dig t).length (dig t).length] w2 fun e wL => ∃ Bs, e = .returned (.slice (some ⟨Bs, 0, none⟩) (vs.length + 1) (vs.length + 1)) ∧ (wL.cell? ⟨w.heap.size, 0, none⟩ = some (.slice a n c) ∧ wL.cell? ⟨w.heap.size, 1, none⟩ = some (.slice o k oc) ∧ wL.cell? ⟨w.heap.size + 1, 0, none⟩ = some (.int .u8 0) ∧ wL.cell? ⟨w.heap.size + 1, 1, none⟩ = some (.slice A l cc)) ∧ (wL.cell? ⟨w.heap.size + 2, 0, none⟩ = some (.slice none 0 0) ∧ wL.cell? ⟨w.heap.size + 2, 1, none⟩ = some (.slice none 0 0) ∧ wL.frozen? ⟨w.heap.size + 2, 0, none⟩ = false ∧ wL.frozen? ⟨w.heap.size + 2, 1, none⟩ = false) ∧ Hid (Up wc wL ∧ LS wL (.slice (some ⟨Bs, 0, none⟩) (vs.length + 1) (vs.length + 1)) (.slice o k oc) (vs ++ [t]) os)) := by
      intro w2 B zs hu hz
      have := stk (HLc.out.1.keeps hu.keeps) (by have := HLc.out.2.2.2.2; omega) vs.length 0 (by omega) (B, t) (fun hv => ⟨Nat.zero_le _, zs, hz hv⟩)
      rw [List.take_of_length_le (Nat.le_refl _)] at this
      refine this.mono ?_
      rintro e w' ⟨Bs, he, hu2, hL⟩
      exact ⟨Bs, he, HS.out _ (hu.trans hu2), HD.out _ (hu.trans hu2), hu.trans hu2, hL⟩
    have ER : Hid (rowP 0 t vs os = (vs ++ [t], os)) := by
      show _ = _
      have := Hn.out
      rw [rowP_0, if_neg (by omega)]
    clear HLc HNo HS HD hD hI n0 n1 Hn HT
    generalize vs.length + 1 = M1 at *
    go_wp2_with (fail)
    go_region_held3 (fun w' => (w'.cell? ⟨w.heap.size, 0, none⟩ = some (.slice a n c) ∧ w'.cell? ⟨w.heap.size, 1, none⟩ = some (.slice o k oc) ∧ w'.cell? ⟨w.heap.size + 1, 0, none⟩ = some (.int .u8 0) ∧ w'.cell? ⟨w.heap.size + 1, 1, none⟩ = some (.slice A l cc))) (first | assumption | exact ⟨cell_set2 (by omega) hS'.1, cell_set2 (by omega) hS'.2.1, cell_set2 (by omega) hS'.2.2.1, cell_set2 (by omega) hS'.2.2.2⟩ | go_keep)
      (first | (go_at_call 61; refine (CD.out _).mono ?_; rintro e w' ⟨rfl, rfl⟩) | (go_at_call 62; refine (CT.out _ (by first | exact (Up.refl _).drew | exact Up.refl _ | exact Hid.out (by assumption))).mono ?_; rintro e wJ ⟨B, zs, rfl, hS, HUJ, HZ⟩) | (go_at_call 132; refine (CK.out _ _ _ HUJ.out HZ.out).mono ?_; rintro e wL ⟨Bs, rfl, hS', ⟨d0', d1', e0', e1'⟩, HA⟩; obtain ⟨HO, HL⟩ := HBc.out.bx.fin (p := rowP 0 t vs os) HA.out.1 (by rw [ER.out]; exact HA.out.2)))
    all_goals go_wp2_with (fail)
    all_goals refine bodyPost_ret (ret103 rfl _ _ _ rfl _ _ HO.out) rfl ?_
    all_goals exact HL.out
end Go.Proofs.Ygctab
