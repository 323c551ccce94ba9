import Derived.Test.YgctabTowK
import Derived.Deep.RegionHeld3

namespace Go.Proofs.Ygctab
open Go.RowKit
set_option linter.unusedVariables false
set_option linter.unusedSimpArgs false
set_option exponentiation.threshold 9000


set_option maxRecDepth 100000 in
set_option maxHeartbeats 6400000 in
theorem row_9 (K : Nat) {w : World} {a o : Option Addr} {n c k oc : Nat} {vs : List Nat} {os : List Int} (h : LS w (.slice a n c) (.slice o k oc) vs os) (hb : Bnd vs) (ho : os.length ≤ 4095)
    {A : Option Addr} {l cc : Nat} {ds : List Nat} (hin : Inp w A l cc ds) (hK : 9 ≤ K) (hK2 : K < 256) :
    Calls Tabg.prog 76 #[.int .u8 0, .agg #[.slice a n c, .slice o k oc], .agg #[.int .u8 (K : Int), .slice A l cc]] w fun e w' => LR w w' e (rowP K (bv (ds.take 512)) vs os) := by
  have HB : Hid (By w (((w.alloc (.cells #[.slice a n c, .slice o k oc] 103)).alloc (.cells #[.int .u8 (K : Int), .slice A l cc] 106)).alloc (.cells #[.slice none 0 0, .slice none 0 0] 103)) w.heap.size (w.heap.size + 1) (w.heap.size + 2) (.slice a n c) (.slice o k oc) (.int .u8 (K : Int)) (.slice A l cc)) := By.new ..
  have H : Hid (LS w (.slice a n c) (.slice o k oc) vs os ∧ os.length ≤ 4095 ∧ Inp w A l cc ds ∧ Bnd vs) := ⟨h, ho, hin, hb⟩
  have h16 := hb.1
  have hnl := h.lens.1
  have hnc := h.lens.2.2
  have Hn : Hid (n = vs.length) := hnl
  have n16 : n ≤ 16 := by omega
  obtain ⟨t, ht⟩ : ∃ t, bv (ds.take 512) = t := ⟨_, rfl⟩
  have HT : Hid (bv (ds.take 512) = t) := ht
  rw [ht]
  clear h hb ho hin ht hnl h16
  go_enter Tabg.func76, Tabg.ntmps76
  go_wp2_with (fail)
  generalize ((w.alloc (.cells #[.slice a n c, .slice o k oc] 103)).alloc (.cells #[.int .u8 (K : Int), .slice A l cc] 106)).alloc (.cells #[.slice none 0 0, .slice none 0 0] 103) = w0 at *
  have CA := callA HB.out.bx (fun w2 hu => apd (H.out.1.keeps (HB.out.bx.up.trans hu).keeps) (-2) (by have := H.out.2.1; omega))
  have CB := callB HB.out.bx (fun w2 hu => apd (H.out.1.keeps (HB.out.bx.up.trans hu).keeps) (-2) (by have := H.out.2.1; omega))
  obtain ⟨k0, k1, lt1, d0, d1, e0, e1, lt2⟩ := HB.out.bx.bf
  go_cut [8] (fun z wc => ∃ bn B', z = .pointer (some ⟨bn, 0, none⟩) ∧ Hid (Cut1 w0 wc bn (.slice a n c) (.slice (some ⟨B', 0, none⟩) (k + 1) (k + 1)) (fun W => LS W (.slice a n c) (.slice (some ⟨B', 0, none⟩) (k + 1) (k + 1)) vs (os ++ [-2]))))
  case first =>
    go_region_with (first | (go_at_call 131; refine (CA.out).mono ?_; rintro e wL ⟨Bs, rfl, ⟨k0', k1', lt1', d0', d1', e0', e1', lt2'⟩, HA⟩) | (go_at_call 131; refine (CB.out).mono ?_; rintro e wL ⟨Bs, rfl, ⟨k0', k1', lt1', d0', d1', e0', e1', lt2'⟩, HA⟩))
    all_goals go_wp2
    all_goals go_simp
    all_goals go_meet
    all_goals first | exact ⟨_, _, rfl, cutA LSk HA.out _ _⟩ | exact ⟨_, _, rfl, cutB LSk HA.out _ _⟩
  case rest =>
    obtain ⟨bn, B', rfl, HC⟩ := hcut
    have HBc : Hid (By w wc w.heap.size (w.heap.size + 1) (w.heap.size + 2) (.slice a n c) (.slice o k oc) (.int .u8 (K : Int)) (.slice A l cc)) := HB.out.mono HC.out.2.1
    have n0 : wc.cell? ⟨bn, 0, none⟩ = some (.slice a n c) := by rw [HC.out.1.cell]; rfl
    have n1 : wc.cell? ⟨bn, 1, none⟩ = some (.slice (some ⟨B', 0, none⟩) (k + 1) (k + 1)) := by rw [HC.out.1.cell]; rfl
    have HLc : Hid (LS wc (.slice a n c) (.slice o k oc) vs os ∧ os.length ≤ 4095 ∧ Inp wc A l cc ds ∧ Bnd vs ∧ vs.length ≤ 16) := ⟨H.out.1.keeps HBc.out.bx.up.keeps, H.out.2.1, H.out.2.2.1.up HBc.out.bx.up, H.out.2.2.2, H.out.2.2.2.1⟩
    have HNo : Hid (LS wc (.slice a n c) (.slice (some ⟨B', 0, none⟩) (k + 1) (k + 1)) vs (os ++ [-2])) := HC.out.2.2
    clear CA CB HB k0 k1 lt1 d0 d1 e0 e1 lt2 HC H
    obtain ⟨k0, k1, lt1, d0, d1, e0, e1, lt2⟩ := HBc.out.bx.bf
    obtain ⟨m0, m1, lt3⟩ := HBc.out.mf
    have f0 : ((K : Int) == 0) = false := by simp; omega
    have f0' : decide (K = 0) = false := decide_eq_false (by omega)
    have f6 : ((K : Int) == 6) = false := by simp; omega
    have f6' : decide (K = 6) = false := decide_eq_false (by omega)
    have f8 : ((K : Int) == 8) = false := by simp; omega
    have f8' : decide (K = 8) = false := decide_eq_false (by omega)
    have f4 : ((K : Int) == 4) = false := by simp; omega
    have f4' : decide (K = 4) = false := decide_eq_false (by omega)
    have f9 : decide ((8 : Int) < (K : Int)) = true := decide_eq_true (by omega)
    have f9' : (8 : Int) < (K : Int) := by omega
    obtain ⟨HO, HL⟩ := HBc.out.bx.fin (p := rowP K t vs os) (Up.refl _) (by rw [rowP_far hK]; exact HLc.out.1)
    clear HLc HNo HBc Hn
    go_wp2_with (fail)
    refine bodyPost_ret (ret103 rfl _ _ _ rfl _ _ HO.out) rfl ?_
    exact HL.out
end Go.Proofs.Ygctab
