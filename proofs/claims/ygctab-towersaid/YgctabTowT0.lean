import Derived.Test.YgctabTowJ
import Derived.BigRegion
namespace Go.Proofs.Ygctab
open Go.RowKit
set_option linter.unusedVariables false
set_option linter.unusedSimpArgs false
set_option exponentiation.threshold 9000

set_option maxRecDepth 100000 in
set_option maxHeartbeats 6400000 in
theorem step_0 {w0 w : World} {m : Nat} {ps : List (Nat × Nat)} {os : List Int} {vs : List Nat} (h : MS w0 w m ps os) (hvs : ps.map Prod.snd = vs) (hb : Bnd vs) (ho : os.length ≤ 4095) (eng : Nat) (he : eng < 4)
    {A : Option Addr} {l c : Nat} {ds : List Nat} (hin : Inp w A l c ds) :
    Calls Tabg.prog 135 #[.int .u8 (eng : Int), .pointer (some ⟨m, 0, none⟩), .agg #[.int .u8 0, .slice A l c]] w fun e w' => e = .returned (.tuple #[]) ∧
      MV w0 w' m (rowP 0 (bv (ds.take 512)) vs os).1 (rowP 0 (bv (ds.take 512)) vs os).2 := by
  have u0 : Up w (w.alloc (.cells #[.int .u8 0, .slice A l c] 106)) := (Up.refl w).alloc _
  have hlen : ps.length = vs.length := by rw [← hvs]; simp
  have h16 := hb.1
  have hd : ∀ p ∈ ps, (dig p.2).length ≤ 1024 := fun p hp => hb.2 p.2 (by rw [← hvs]; exact List.mem_map_of_mem hp)
  have CR : Hid (Calls Tabg.prog 156 #[.int .u8 0] (w.alloc (.cells #[.int .u8 0, .slice A l c] 106)) fun e w' => e = .returned (.tuple #[.int .i64 0, .bool true]) ∧ (w.alloc (.cells #[.int .u8 0, .slice A l c] 106)) = w') := room_any 0 (by decide) _
  have CC : Hid (Calls Tabg.prog 157 #[.pointer (some ⟨m, 0, none⟩)] (w.alloc (.cells #[.int .u8 0, .slice A l c] 106)) fun e w' => e = .returned (.bool true) ∧ Up (w.alloc (.cells #[.int .u8 0, .slice A l c] 106)) w') := check_any (h.up u0) (by omega) (fun p hp => by have := hd p hp; omega)
  have H : Hid (MS w0 w m ps os ∧ ps.map Prod.snd = vs ∧ os.length ≤ 4095 ∧ Inp w A l c ds ∧ (∀ p ∈ ps, (dig p.2).length ≤ 1024) ∧ Up w (w.alloc (.cells #[.int .u8 0, .slice A l c] 106)) ∧ (dig (bv (ds.take 512))).length ≤ 1024) := ⟨h, hvs, ho, hin, hd, u0, by
    refine Nat.le_trans (dig_len (hin.1.2.1.take 512)) ?_
    simp
    omega⟩
  obtain ⟨t, ht⟩ : ∃ t, bv (ds.take 512) = t := ⟨_, rfl⟩
  have HT : Hid (bv (ds.take 512) = t) := ht
  rw [ht]
  rw [ht] at H
  clear ht
  have eI : decide ((3 : Int) < (eng : Int)) = false := decide_eq_false (by omega)
  have eI' : (eng : Int) ≤ 3 := by omega
  clear h hvs hb ho hin hd u0
  go_enter Tabg.func135, Tabg.ntmps135
  go_wp2_with (fail)
  refine (CR.out).mono ?_
  rintro e w' ⟨rfl, rfl⟩
  go_wp2_with (fail)
  refine (CC.out).mono ?_
  rintro e w1 ⟨rfl, u1⟩
  have U1 : Hid (Up w w1) := H.out.2.2.2.2.2.1.trans u1
  have kb0 : w1.cell? ⟨w.heap.size, 0, none⟩ = some (.int .u8 0) := by rw [((Own.new w 106 #[.int .u8 0, .slice A l c]).up u1).cell]; rfl
  have kb1 : w1.cell? ⟨w.heap.size, 1, none⟩ = some (.slice A l c) := by rw [((Own.new w 106 #[.int .u8 0, .slice A l c]).up u1).cell]; rfl
  have HM1 : Hid (MS w0 w1 m ps os ∧ ps.map Prod.snd = vs ∧ os.length ≤ 4095 ∧ Inp w1 A l c ds ∧ (∀ p ∈ ps, (dig p.2).length ≤ 1024) ∧ ps.length = vs.length ∧ bv (ds.take 512) = t) := ⟨H.out.1.up U1.out, H.out.2.1, H.out.2.2.1, H.out.2.2.2.1.up U1.out, H.out.2.2.2.2.1, hlen, HT.out⟩
  obtain ⟨_, vS, vO, hM⟩ := HM1.out.1
  obtain ⟨sa, sc, hvS, hsc, hsa, hsn, hcell⟩ := ownsRow_slice hM.st
  have hc0 : w1.cell? ⟨m, 0, none⟩ = some vS := by rw [hM.own.cell]; rfl
  have hfr := hM.own.free 0
  have HC : Hid (∀ i, i < ps.length → ∃ b, sa = some ⟨b, 0, none⟩ ∧ w1.cell? ⟨b, i, none⟩ = some (entC (pat ps i)) ∧ w1.frozen? ⟨b, i, none⟩ = false) := fun i hi => by
    obtain ⟨b, e1, e2, e3, _⟩ := hcell i hi
    refine ⟨b, e1, ?_, e3⟩
    rw [e2]
    unfold pat
    rw [List.getElem?_map, List.getElem?_eq_getElem hi]
    rfl
  have HV : Hid (∀ i, (pat ps i).2 = vs[i]?.getD 0) := fun i => by
    show (pat ps i).2 = _
    rw [← HM1.out.2.1]
    unfold pat
    rw [List.getElem?_map]
    cases ps[i]? <;> rfl
  have HM : Hid (Mach w0.heap.size w1 m vS vO ps os) := hM
  subst hvS
  obtain ⟨n, hn⟩ : ∃ n, n = ps.length := ⟨_, rfl⟩
  rw [← hn] at hc0 hsc HM
  have Hn : Hid (n = ps.length ∧ n = vs.length) := ⟨hn, hn.trans hlen⟩
  have n16 : n ≤ 16 := by omega
  clear CR CC H hM hcell hsn u1 hn hlen h16
  by_cases z16 : n = 16
  · subst z16
    have er : rowP 0 t vs os = noP vs os := by
      have := Hn.out
      rw [rowP_0, if_pos (by omega)]
    have C2 : Hid (Calls Tabg.prog 158 #[.pointer (some ⟨m, 0, none⟩), .int .i8 (-2)] w1 fun e w' => e = .returned (.tuple #[]) ∧ MS w0 w' m ps (os ++ [-2])) := put_any HM1.out.1 (by have := HM1.out.2.2.1; omega) (-2)
    have HF : Hid (∀ w', MS w0 w' m ps (os ++ [-2]) → MV w0 w' m (rowP 0 t vs os).1 (rowP 0 t vs os).2) := fun w' hw => by rw [er]; exact ⟨ps, HM1.out.2.1, hw⟩
    clear HM HC HV Hn HM1 U1 er
    go_wp2_with (fail)
    refine (C2.out).mono ?_
    rintro e w2 ⟨rfl, h2⟩
    have HQ : Hid (MS w0 w2 m ps (os ++ [-2])) := h2
    go_wp2_with (fail)
    refine bodyPost_ret (results_none rfl _ _ _) rfl ?_
    exact ⟨rfl, HF.out _ HQ.out⟩
  have g16 : decide ((16 : Int) ≤ (n : Int)) = false := decide_eq_false (by omega)
  have g16' : decide (16 ≤ n) = false := decide_eq_false (by omega)
  have g16i : (n : Int) < 16 := by omega
  have g0 : (0 : Int) ≤ (n : Int) := by omega
  have CT : Hid (Calls Tabg.prog 160 #[.slice A l c] w1 fun e w' => Res w1 w' e t) := by
    have := calcTake_any HM1.out.2.2.2.1
    rw [HM1.out.2.2.2.2.2.2] at this
    exact this
  go_wp2_with (fail)
  refine (CT.out).mono ?_
  rintro e w2 ⟨B, zs, rfl, hB, u2, hz⟩
  have er : rowP 0 t vs os = (vs ++ [t], os) := by
    have := Hn.out
    rw [rowP_0, if_neg (by omega)]
  obtain ⟨hE, hA⟩ := Res.ent HM1.out.1 hB hz
  have C3 : Hid (Calls Tabg.prog 159 #[.pointer (some ⟨m, 0, none⟩), .slice (nrmA (some ⟨B, 0, none⟩) t) (dig t).length (dig t).length] w2 fun e w' => e = .returned (.tuple #[]) ∧ MS w0 w' m (ps ++ [(B, t)]) os) := push_any (HM1.out.1.up u2) (by have := Hn.out; omega) (B, t) hE hA
  have HF : Hid (∀ w', MS w0 w' m (ps ++ [(B, t)]) os → MV w0 w' m (rowP 0 t vs os).1 (rowP 0 t vs os).2) := fun w' hw => by rw [er]; exact ⟨_, by rw [List.map_append, HM1.out.2.1]; rfl, hw⟩
  clear HM HC HV Hn HM1 U1 er hE hA hz hB u2
  generalize nrmA (some ⟨B, 0, none⟩) t = P at *
  generalize (dig t).length = LL at *
  go_wp2_with (fail)
  refine (C3.out).mono ?_
  rintro e w3 ⟨rfl, h3⟩
  have HQ : Hid (MS w0 w3 m (ps ++ [(B, t)]) os) := h3
  go_wp2_with (fail)
  go_end0
  exact ⟨rfl, HF.out _ HQ.out⟩
end Go.Proofs.Ygctab
