import Derived.Test.YgctabTowJ
import Derived.BigRegion
namespace Go.Proofs.Ygctab
open Go.RowKit
set_option linter.unusedVariables false
set_option linter.unusedSimpArgs false
set_option exponentiation.threshold 9000

set_option maxRecDepth 100000 in
set_option maxHeartbeats 6400000 in
theorem step_5 {w0 w : World} {m : Nat} {ps : List (Nat × Nat)} {os : List Int} {vs : List Nat} (h : MS w0 w m ps os) (hvs : ps.map Prod.snd = vs) (hb : Bnd vs) (ho : os.length ≤ 4095) (eng : Nat) (he : eng < 4)
    {A : Option Addr} {l c : Nat} {ds : List Nat} (hin : Inp w A l c ds) :
    Calls Tabg.prog 135 #[.int .u8 (eng : Int), .pointer (some ⟨m, 0, none⟩), .agg #[.int .u8 5, .slice A l c]] w fun e w' => e = .returned (.tuple #[]) ∧
      MV w0 w' m (rowP 5 (bv (ds.take 512)) vs os).1 (rowP 5 (bv (ds.take 512)) vs os).2 := by
  have u0 : Up w (w.alloc (.cells #[.int .u8 5, .slice A l c] 106)) := (Up.refl w).alloc _
  have hlen : ps.length = vs.length := by rw [← hvs]; simp
  have h16 := hb.1
  have hd : ∀ p ∈ ps, (dig p.2).length ≤ 1024 := fun p hp => hb.2 p.2 (by rw [← hvs]; exact List.mem_map_of_mem hp)
  have CR : Hid (Calls Tabg.prog 156 #[.int .u8 5] (w.alloc (.cells #[.int .u8 5, .slice A l c] 106)) fun e w' => e = .returned (.tuple #[.int .i64 2, .bool false]) ∧ (w.alloc (.cells #[.int .u8 5, .slice A l c] 106)) = w') := room_any 5 (by decide) _
  have CC : Hid (Calls Tabg.prog 157 #[.pointer (some ⟨m, 0, none⟩)] (w.alloc (.cells #[.int .u8 5, .slice A l c] 106)) fun e w' => e = .returned (.bool true) ∧ Up (w.alloc (.cells #[.int .u8 5, .slice A l c] 106)) w') := check_any (h.up u0) (by omega) (fun p hp => by have := hd p hp; omega)
  have H : Hid (MS w0 w m ps os ∧ ps.map Prod.snd = vs ∧ os.length ≤ 4095 ∧ Inp w A l c ds ∧ (∀ p ∈ ps, (dig p.2).length ≤ 1024) ∧ Up w (w.alloc (.cells #[.int .u8 5, .slice A l c] 106)) ∧ (dig (bv (ds.take 512))).length ≤ 1024) := ⟨h, hvs, ho, hin, hd, u0, by
    refine Nat.le_trans (dig_len (hin.1.2.1.take 512)) ?_
    simp
    omega⟩
  generalize bv (ds.take 512) = t at *
  have eI : decide ((3 : Int) < (eng : Int)) = false := decide_eq_false (by omega)
  have eI' : (eng : Int) ≤ 3 := by omega
  clear h hvs hb ho hin hd u0
  go_enter Tabg.func135, Tabg.ntmps135
  go_wp2_with (fail)
  refine (CR.out).mono ?_
  rintro e w' ⟨rfl, rfl⟩
  go_wp2_with (fail)
  refine (CC.out).mono ?_
  rintro e w1 ⟨rfl, u1⟩
  have U1 : Hid (Up w w1) := H.out.2.2.2.2.2.1.trans u1
  have kb0 : w1.cell? ⟨w.heap.size, 0, none⟩ = some (.int .u8 5) := by rw [((Own.new w 106 #[.int .u8 5, .slice A l c]).up u1).cell]; rfl
  have kb1 : w1.cell? ⟨w.heap.size, 1, none⟩ = some (.slice A l c) := by rw [((Own.new w 106 #[.int .u8 5, .slice A l c]).up u1).cell]; rfl
  have HM1 : Hid (MS w0 w1 m ps os ∧ ps.map Prod.snd = vs ∧ os.length ≤ 4095 ∧ Inp w1 A l c ds ∧ (∀ p ∈ ps, (dig p.2).length ≤ 1024) ∧ ps.length = vs.length ∧ True) := ⟨H.out.1.up U1.out, H.out.2.1, H.out.2.2.1, H.out.2.2.2.1.up U1.out, H.out.2.2.2.2.1, hlen, trivial⟩
  obtain ⟨_, vS, vO, hM⟩ := HM1.out.1
  obtain ⟨sa, sc, hvS, hsc, hsa, hsn, hcell⟩ := ownsRow_slice hM.st
  have hc0 : w1.cell? ⟨m, 0, none⟩ = some vS := by rw [hM.own.cell]; rfl
  have hfr := hM.own.free 0
  have HC : Hid (∀ i, i < ps.length → ∃ b, sa = some ⟨b, 0, none⟩ ∧ w1.cell? ⟨b, i, none⟩ = some (entC (pat ps i)) ∧ w1.frozen? ⟨b, i, none⟩ = false) := fun i hi => by
    obtain ⟨b, e1, e2, e3, _⟩ := hcell i hi
    refine ⟨b, e1, ?_, e3⟩
    rw [e2]
    unfold pat
    rw [List.getElem?_map, List.getElem?_eq_getElem hi]
    rfl
  have HV : Hid (∀ i, (pat ps i).2 = vs[i]?.getD 0) := fun i => by
    show (pat ps i).2 = _
    rw [← HM1.out.2.1]
    unfold pat
    rw [List.getElem?_map]
    cases ps[i]? <;> rfl
  have HM : Hid (Mach w0.heap.size w1 m vS vO ps os) := hM
  subst hvS
  obtain ⟨n, hn⟩ : ∃ n, n = ps.length := ⟨_, rfl⟩
  rw [← hn] at hc0 hsc HM
  have Hn : Hid (n = ps.length ∧ n = vs.length) := ⟨hn, hn.trans hlen⟩
  have n16 : n ≤ 16 := by omega
  clear CR CC H hM hcell hsn u1 hn hlen h16
  by_cases z0 : n = 0
  · subst z0
    have er : rowP 5 t vs os = noP vs os := by
      have := Hn.out
      rw [rowP_5, if_pos (by omega)]
    have C2 : Hid (Calls Tabg.prog 158 #[.pointer (some ⟨m, 0, none⟩), .int .i8 (-2)] w1 fun e w' => e = .returned (.tuple #[]) ∧ MS w0 w' m ps (os ++ [-2])) := put_any HM1.out.1 (by have := HM1.out.2.2.1; omega) (-2)
    have HF : Hid (∀ w', MS w0 w' m ps (os ++ [-2]) → MV w0 w' m (rowP 5 t vs os).1 (rowP 5 t vs os).2) := fun w' hw => by rw [er]; exact ⟨ps, HM1.out.2.1, hw⟩
    clear HM HC HV Hn HM1 U1 er
    go_wp2_with (fail)
    refine (C2.out).mono ?_
    rintro e w2 ⟨rfl, h2⟩
    have HQ : Hid (MS w0 w2 m ps (os ++ [-2])) := h2
    go_wp2_with (fail)
    refine bodyPost_ret (results_none rfl _ _ _) rfl ?_
    exact ⟨rfl, HF.out _ HQ.out⟩
  by_cases z1 : n = 1
  · subst z1
    have er : rowP 5 t vs os = noP vs os := by
      have := Hn.out
      rw [rowP_5, if_pos (by omega)]
    have C2 : Hid (Calls Tabg.prog 158 #[.pointer (some ⟨m, 0, none⟩), .int .i8 (-2)] w1 fun e w' => e = .returned (.tuple #[]) ∧ MS w0 w' m ps (os ++ [-2])) := put_any HM1.out.1 (by have := HM1.out.2.2.1; omega) (-2)
    have HF : Hid (∀ w', MS w0 w' m ps (os ++ [-2]) → MV w0 w' m (rowP 5 t vs os).1 (rowP 5 t vs os).2) := fun w' hw => by rw [er]; exact ⟨ps, HM1.out.2.1, hw⟩
    clear HM HC HV Hn HM1 U1 er
    go_wp2_with (fail)
    refine (C2.out).mono ?_
    rintro e w2 ⟨rfl, h2⟩
    have HQ : Hid (MS w0 w2 m ps (os ++ [-2])) := h2
    go_wp2_with (fail)
    refine bodyPost_ret (results_none rfl _ _ _) rfl ?_
    exact ⟨rfl, HF.out _ HQ.out⟩
  have g1 : decide ((n : Int) < 2) = false := decide_eq_false (by omega)
  have g1' : decide (n < 2) = false := decide_eq_false (by omega)
  have g1'' : decide (n = 0) = false := decide_eq_false (by omega)
  have g1b : ((n : Int) == 0) = false := by simp; omega
  have g1i : (2 : Int) ≤ (n : Int) := by omega
  obtain ⟨p1, hp1⟩ : ∃ p1, p1 = n - 1 := ⟨_, rfl⟩
  have e1 : (n : Int) - 1 = (p1 : Int) := by omega
  have Hp1 : Hid (n = p1 + 1) := by show n = p1 + 1; omega
  have p1I : (p1 : Int) < (n : Int) := by omega
  have p10 : (0 : Int) ≤ (p1 : Int) := by omega
  have nI : (n : Int) ≤ 16 := by omega
  obtain ⟨b, rfl, hb1, hf1⟩ := HC.out p1 (by have := Hn.out; omega)
  obtain ⟨A1, L1, eA1⟩ : ∃ A L, entC (pat ps p1) = .slice A L L := ⟨_, _, rfl⟩
  have HV1 : Hid ((pat ps p1).2 = topV vs ∧ pat ps p1 ∈ ps) := ⟨by rw [HV.out p1]; unfold topV; rw [← Hn.out.2, ← hp1], pat_mem (by have := Hn.out; omega)⟩
  rw [eA1] at hb1
  have HE1 : Hid (entC (pat ps p1) = .slice A1 L1 L1) := eA1
  clear hp1 eA1
  obtain ⟨p2, hp2⟩ : ∃ p2, p2 = n - 2 := ⟨_, rfl⟩
  have e2 : (n : Int) - 2 = (p2 : Int) := by omega
  have Hp2 : Hid (n = p2 + 2) := by show n = p2 + 2; omega
  have p2I : (p2 : Int) < (n : Int) := by omega
  have p20 : (0 : Int) ≤ (p2 : Int) := by omega
  obtain ⟨b2, hbe, hb2, hf2⟩ := HC.out p2 (by have := Hn.out; omega)
  cases hbe
  obtain ⟨A2, L2, eA2⟩ : ∃ A L, entC (pat ps p2) = .slice A L L := ⟨_, _, rfl⟩
  have HV2 : Hid ((pat ps p2).2 = lowV vs ∧ pat ps p2 ∈ ps) := ⟨by rw [HV.out p2]; unfold lowV; rw [← Hn.out.2, ← hp2], pat_mem (by have := Hn.out; omega)⟩
  rw [eA2] at hb2
  have HE2 : Hid (entC (pat ps p2) = .slice A2 L2 L2) := eA2
  clear hp2 eA2
  have er : (vs, os ++ [cmpI (lowV vs) (topV vs)]) = rowP 5 t vs os := by
    have q1 := Hn.out
    rw [rowP_5, if_neg (by omega)]
  have C : Hid (Calls Tabg.prog 67 #[.slice A2 L2 L2, .slice A1 L1 L1] w1.drew fun e w'' => e = .returned (.int .i8 (cmpI (lowV vs) (topV vs))) ∧ Up w1.drew w'') := by
    have hM1 := HM1.out.1.up ((Up.refl w1).drew)
    have := cmp_any _ _ _ _ _ _ _ _ w1.drew (hM1.ns HV2.out.2).1 (hM1.ns HV1.out.2).1 (Nat.le_refl _) (Nat.le_refl _) (by have := HM1.out.2.2.2.2.1 _ HV2.out.2; omega) (by have := HM1.out.2.2.2.2.1 _ HV1.out.2; omega)
    rw [bv_dig, bv_dig] at this
    have e1 := HE2.out
    have e2 := HE1.out
    unfold entC at e1 e2
    rw [e1, e2, HV1.out.1, HV2.out.1] at this
    exact this
  have CP : Hid (∀ w', Up w1.drew w' → Calls Tabg.prog 158 #[.pointer (some ⟨m, 0, none⟩), .int .i8 (cmpI (lowV vs) (topV vs))] w' fun e w'' => e = .returned (.tuple #[]) ∧ MV w0 w'' m (rowP 5 t vs os).1 (rowP 5 t vs os).2) := by
    intro w' hu
    refine (put_any (HM1.out.1.up (((Up.refl w1).drew).trans hu)) (by have := HM1.out.2.2.1; omega) (cmpI (lowV vs) (topV vs))).mono ?_
    rintro e w'' ⟨he, hw⟩
    rw [← er]
    exact ⟨he, ps, HM1.out.2.1, hw⟩
  clear HM HC HV Hn HM1 U1 er
  generalize cmpI (lowV vs) (topV vs) = x at *
  have hw1 : IntKind.i64.wrap (p1 : Int) = (p1 : Int) := by rw [IntKind.wrap_i64]; omega
  have hw1' : IntKind.i64.wrap ((n : Int) - 1) = (p1 : Int) := by rw [IntKind.wrap_i64]; omega
  have hw2 : IntKind.i64.wrap (p2 : Int) = (p2 : Int) := by rw [IntKind.wrap_i64]; omega
  have hw2' : IntKind.i64.wrap ((n : Int) - 2) = (p2 : Int) := by rw [IntKind.wrap_i64]; omega
  go_wp2_with (fail)
  go_region_with (first | (go_at_call 67; refine (C.out).mono ?_; rintro e wJ ⟨rfl, hJ⟩; have HJ : Hid (Up w1.drew wJ) := hJ; clear hJ) | (go_at_call 158; refine (CP.out _ HJ.out).mono ?_; rintro e wL ⟨rfl, hL⟩; have HL : Hid (MV w0 wL m (rowP 5 t vs os).1 (rowP 5 t vs os).2) := hL; clear hL))
  all_goals go_wp2_with (fail)
  all_goals go_end0
  all_goals exact ⟨rfl, HL.out⟩
end Go.Proofs.Ygctab
