import Derived.Test.YgctabTowJ
import Derived.BigRegion
namespace Go.Proofs.Ygctab
open Go.RowKit
set_option linter.unusedVariables false
set_option linter.unusedSimpArgs false
set_option exponentiation.threshold 9000

set_option maxRecDepth 100000 in
set_option maxHeartbeats 6400000 in
theorem step_8 {w0 w : World} {m : Nat} {ps : List (Nat × Nat)} {os : List Int} {vs : List Nat} (h : MS w0 w m ps os) (hvs : ps.map Prod.snd = vs) (hb : Bnd vs) (ho : os.length ≤ 4095) (eng : Nat) (he : eng < 4)
    {A : Option Addr} {l c : Nat} {ds : List Nat} (hin : Inp w A l c ds) :
    Calls Tabg.prog 135 #[.int .u8 (eng : Int), .pointer (some ⟨m, 0, none⟩), .agg #[.int .u8 8, .slice A l c]] w fun e w' => e = .returned (.tuple #[]) ∧
      MV w0 w' m (rowP 8 (bv (ds.take 512)) vs os).1 (rowP 8 (bv (ds.take 512)) vs os).2 := by
  have u0 : Up w (w.alloc (.cells #[.int .u8 8, .slice A l c] 106)) := (Up.refl w).alloc _
  have hlen : ps.length = vs.length := by rw [← hvs]; simp
  have h16 := hb.1
  have hd : ∀ p ∈ ps, (dig p.2).length ≤ 1024 := fun p hp => hb.2 p.2 (by rw [← hvs]; exact List.mem_map_of_mem hp)
  have CR : Hid (Calls Tabg.prog 156 #[.int .u8 8] (w.alloc (.cells #[.int .u8 8, .slice A l c] 106)) fun e w' => e = .returned (.tuple #[.int .i64 1, .bool false]) ∧ (w.alloc (.cells #[.int .u8 8, .slice A l c] 106)) = w') := room_any 8 (by decide) _
  have CC : Hid (Calls Tabg.prog 157 #[.pointer (some ⟨m, 0, none⟩)] (w.alloc (.cells #[.int .u8 8, .slice A l c] 106)) fun e w' => e = .returned (.bool true) ∧ Up (w.alloc (.cells #[.int .u8 8, .slice A l c] 106)) w') := check_any (h.up u0) (by omega) (fun p hp => by have := hd p hp; omega)
  have H : Hid (MS w0 w m ps os ∧ ps.map Prod.snd = vs ∧ os.length ≤ 4095 ∧ Inp w A l c ds ∧ (∀ p ∈ ps, (dig p.2).length ≤ 1024) ∧ Up w (w.alloc (.cells #[.int .u8 8, .slice A l c] 106)) ∧ (dig (bv (ds.take 512))).length ≤ 1024) := ⟨h, hvs, ho, hin, hd, u0, by
    refine Nat.le_trans (dig_len (hin.1.2.1.take 512)) ?_
    simp
    omega⟩
  generalize bv (ds.take 512) = t at *
  have eI : decide ((3 : Int) < (eng : Int)) = false := decide_eq_false (by omega)
  have eI' : (eng : Int) ≤ 3 := by omega
  clear h hvs hb ho hin hd u0
  go_enter Tabg.func135, Tabg.ntmps135
  go_wp2_with (fail)
  refine (CR.out).mono ?_
  rintro e w' ⟨rfl, rfl⟩
  go_wp2_with (fail)
  refine (CC.out).mono ?_
  rintro e w1 ⟨rfl, u1⟩
  have U1 : Hid (Up w w1) := H.out.2.2.2.2.2.1.trans u1
  have kb0 : w1.cell? ⟨w.heap.size, 0, none⟩ = some (.int .u8 8) := by rw [((Own.new w 106 #[.int .u8 8, .slice A l c]).up u1).cell]; rfl
  have kb1 : w1.cell? ⟨w.heap.size, 1, none⟩ = some (.slice A l c) := by rw [((Own.new w 106 #[.int .u8 8, .slice A l c]).up u1).cell]; rfl
  have HM1 : Hid (MS w0 w1 m ps os ∧ ps.map Prod.snd = vs ∧ os.length ≤ 4095 ∧ Inp w1 A l c ds ∧ (∀ p ∈ ps, (dig p.2).length ≤ 1024) ∧ ps.length = vs.length ∧ True) := ⟨H.out.1.up U1.out, H.out.2.1, H.out.2.2.1, H.out.2.2.2.1.up U1.out, H.out.2.2.2.2.1, hlen, trivial⟩
  obtain ⟨_, vS, vO, hM⟩ := HM1.out.1
  obtain ⟨sa, sc, hvS, hsc, hsa, hsn, hcell⟩ := ownsRow_slice hM.st
  have hc0 : w1.cell? ⟨m, 0, none⟩ = some vS := by rw [hM.own.cell]; rfl
  have hfr := hM.own.free 0
  have HC : Hid (∀ i, i < ps.length → ∃ b, sa = some ⟨b, 0, none⟩ ∧ w1.cell? ⟨b, i, none⟩ = some (entC (pat ps i)) ∧ w1.frozen? ⟨b, i, none⟩ = false) := fun i hi => by
    obtain ⟨b, e1, e2, e3, _⟩ := hcell i hi
    refine ⟨b, e1, ?_, e3⟩
    rw [e2]
    unfold pat
    rw [List.getElem?_map, List.getElem?_eq_getElem hi]
    rfl
  have HV : Hid (∀ i, (pat ps i).2 = vs[i]?.getD 0) := fun i => by
    show (pat ps i).2 = _
    rw [← HM1.out.2.1]
    unfold pat
    rw [List.getElem?_map]
    cases ps[i]? <;> rfl
  have HM : Hid (Mach w0.heap.size w1 m vS vO ps os) := hM
  subst hvS
  obtain ⟨n, hn⟩ : ∃ n, n = ps.length := ⟨_, rfl⟩
  rw [← hn] at hc0 hsc HM
  have Hn : Hid (n = ps.length ∧ n = vs.length) := ⟨hn, hn.trans hlen⟩
  have n16 : n ≤ 16 := by omega
  clear CR CC H hM hcell hsn u1 hn hlen h16
  by_cases z0 : n = 0
  · subst z0
    have er : rowP 8 t vs os = noP vs os := by
      have := Hn.out
      rw [rowP_8, if_pos (by omega)]
    have C2 : Hid (Calls Tabg.prog 158 #[.pointer (some ⟨m, 0, none⟩), .int .i8 (-2)] w1 fun e w' => e = .returned (.tuple #[]) ∧ MS w0 w' m ps (os ++ [-2])) := put_any HM1.out.1 (by have := HM1.out.2.2.1; omega) (-2)
    have HF : Hid (∀ w', MS w0 w' m ps (os ++ [-2]) → MV w0 w' m (rowP 8 t vs os).1 (rowP 8 t vs os).2) := fun w' hw => by rw [er]; exact ⟨ps, HM1.out.2.1, hw⟩
    clear HM HC HV Hn HM1 U1 er
    go_wp2_with (fail)
    refine (C2.out).mono ?_
    rintro e w2 ⟨rfl, h2⟩
    have HQ : Hid (MS w0 w2 m ps (os ++ [-2])) := h2
    go_wp2_with (fail)
    refine bodyPost_ret (results_none rfl _ _ _) rfl ?_
    exact ⟨rfl, HF.out _ HQ.out⟩
  have g1 : decide ((n : Int) < 1) = false := decide_eq_false (by omega)
  have g1' : decide (n < 1) = false := decide_eq_false (by omega)
  have g1'' : decide (n = 0) = false := decide_eq_false (by omega)
  have g1b : ((n : Int) == 0) = false := by simp; omega
  have g1i : (1 : Int) ≤ (n : Int) := by omega
  obtain ⟨p1, hp1⟩ : ∃ p1, p1 = n - 1 := ⟨_, rfl⟩
  have e1 : (n : Int) - 1 = (p1 : Int) := by omega
  have Hp1 : Hid (n = p1 + 1) := by show n = p1 + 1; omega
  have p1I : (p1 : Int) < (n : Int) := by omega
  have p10 : (0 : Int) ≤ (p1 : Int) := by omega
  have nI : (n : Int) ≤ 16 := by omega
  obtain ⟨b, rfl, hb1, hf1⟩ := HC.out p1 (by have := Hn.out; omega)
  obtain ⟨A1, L1, eA1⟩ : ∃ A L, entC (pat ps p1) = .slice A L L := ⟨_, _, rfl⟩
  have HV1 : Hid ((pat ps p1).2 = topV vs ∧ pat ps p1 ∈ ps) := ⟨by rw [HV.out p1]; unfold topV; rw [← Hn.out.2, ← hp1], pat_mem (by have := Hn.out; omega)⟩
  rw [eA1] at hb1
  have HE1 : Hid (entC (pat ps p1) = .slice A1 L1 L1) := eA1
  clear hp1 eA1
  have hs := fun w' => run_slice_hi0 (P := Tabg.prog) 100 87 1 Tabg.underlying100 (by kernel_rfl) (some ⟨b, 0, none⟩) n sc p1 (Or.inr ⟨b, 0, rfl⟩) .i64 (p1 : Int) rfl (by omega) w'
  have HQ : Hid (MV w0 (w1.setCell ⟨m, 0, none⟩ (.slice (some ⟨b, 0, none⟩) p1 sc)) m (rowP 8 t vs os).1 (rowP 8 t vs os).2) := by
    have q1 := Hn.out
    have q2 := Hp1.out
    have er : rowP 8 t vs os = (vs.take (vs.length - 1), os) := by
      rw [rowP_8, if_neg (by omega)]
    have hst := HM.out.st
    rw [← q1.1] at hst
    have h2 := ownsRow_take hst (m := p1) (by omega)
    rw [← List.map_take] at h2
    have hlk : (ps.take p1).length = p1 := by simp; omega
    rw [er]
    refine ⟨ps.take p1, by rw [List.map_take, HM1.out.2.1]; congr 1; omega, HM1.out.1.1.setCell HM.out.le _, _, _, HM.out.setS (ps' := ps.take p1) (by rw [hlk]; exact h2) (fun p hp => HM.out.ent p (List.mem_of_mem_take hp)) (HM.out.apart.sublist (List.take_sublist _ _))⟩
  clear HM HC HV Hn HM1 U1 HE1 HV1 Hp1 hb1 hf1
  go_wp2_with (fail)
  go_end0
  exact ⟨rfl, HQ.out⟩
end Go.Proofs.Ygctab
