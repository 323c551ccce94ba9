import Derived.Test.YgctabTowV
import Derived.Test.YgctabTowX
import Derived.Deep.RegionHeld3
namespace Go.Proofs.Ygctab
open Go.RowKit
set_option linter.unusedVariables false
set_option linter.unusedSimpArgs false

theorem cutScript_short (a : Option Addr) (n c : Nat) (w : World) (hn : n ≤ 129) : Calls Tabg.prog 75 #[.slice a n c] w fun e w' => e = .returned (.slice a n c) ∧ w = w' := by
  have g : (n : Int) ≤ 129 := by omega
  have g' : decide ((129 : Int) < (n : Int)) = false := decide_eq_false (by omega)
  go_enter Tabg.func75, Tabg.ntmps75
  go_wp2
  go_ret
  exact ⟨rfl, rfl⟩
theorem cutScript_long (b off n c : Nat) (w : World) (hn : 129 < n) (hc : n ≤ c) : Calls Tabg.prog 75 #[.slice (some ⟨b, off, none⟩) n c] w fun e w' => e = .returned (.slice (some ⟨b, off, none⟩) 129 129) ∧ w = w' := by
  have g : (129 : Int) < (n : Int) := by omega
  have hs := fun w' => run_slice0 (P := Tabg.prog) 22 106 2 (by kernel_rfl) (by kernel_rfl) b off n c 129 129 .i64 .i64 (129 : Int) (129 : Int) rfl rfl (Nat.le_refl _) (by omega) w'
  go_enter Tabg.func75, Tabg.ntmps75
  go_wp2
  go_ret
  exact ⟨rfl, rfl⟩

set_option maxRecDepth 100000 in
set_option maxHeartbeats 1600000 in
theorem isOutcome_yes {w : World} {sa o a o2 : Option Addr} {n c k oc : Nat} {vs : List Nat} {os : List Int} (h : OC w sa o vs os) (h2 : LS w (.slice a n c) (.slice o2 k oc) vs os) (hb : Bnd vs) (ho : os.length ≤ 4095) :
    Calls Tabg.prog 79 #[.agg #[.bool false, .slice sa vs.length vs.length, .slice o os.length os.length], .slice a n c, .slice o2 k oc] w fun e w' => e = .returned (.bool true) ∧ Up w w' := by
  obtain ⟨hn, hk, hc⟩ := h2.lens
  have h16 := hb.1
  obtain ⟨⟨es, hR, hH⟩, hO⟩ := h
  have hO2 : RdI .i8 w o2 os.length os := by
    obtain ⟨_, h4⟩ := h2
    obtain ⟨a', c', hv, _, _, hcell⟩ := h4.sl
    cases hv
    refine ⟨rfl, fun i hi => ?_⟩
    obtain ⟨b, e, h1⟩ := hcell i hi
    exact ⟨b, 0, e, by rw [Nat.zero_add, h1, ints_at .i8 hi]⟩
  have CS : Hid (∀ w', Up w w' → Calls Tabg.prog 137 #[.slice o k k, .slice o2 k oc] w' fun e w'' => e = .returned (.bool true) ∧ Up w' w'') := by
    intro w' hu
    rw [hk]
    exact sameOut_yes o o2 os.length os.length oc os w' (hO.up hu) (hO2.up hu) (by omega)
  have HC : Hid (∀ i, i < n → ∃ sb so A b A' L, sa = some ⟨sb, so, none⟩ ∧ a = some ⟨b, 0, none⟩ ∧ w.cell? ⟨sb, so + i, none⟩ = some (.slice A L L) ∧ w.cell? ⟨b, i, none⟩ = some (.slice A' L L) ∧ L ≤ 1024 ∧ ∀ w', Up w w' → Calls Tabg.prog 67 #[.slice A L L, .slice A' L L] w' fun e w'' => e = .returned (.int .i8 0) ∧ Up w' w'') := by
    intro i hi
    have hi' : i < es.length := by rw [← hR.1]; omega
    obtain ⟨sb, so, e1, e2⟩ := hR.2 i hi'
    have hns := hH.2 i hi'
    obtain ⟨b, q, e3, e4, e5, e6⟩ := h2.at (i := i) (by omega)
    have hv := e5.ns
    have hL : (entAt es i).2 = (dig q.2).length := by rw [e6]; exact hns.len
    have bL : (dig q.2).length ≤ 1024 := by rw [e6]; exact hb.at i
    rw [← e6] at hns
    refine ⟨sb, so, (entAt es i).1, b, nrmA (some ⟨q.1, 0, none⟩) q.2, (dig q.2).length, e1, e3, ?_, e4, bL, fun w' hu => ?_⟩
    · rw [e2]
      unfold slE
      rw [hL]
    · have hns2 := hns
      rw [hL] at hns2
      have := cmp_any _ _ _ _ _ _ _ _ w' (hns2.up hu).1 (hv.up hu).1 (Nat.le_refl _) (Nat.le_refl _) (by omega) (by omega)
      have e0 : cmpI (bv (dig q.2)) (bv (dig q.2)) = 0 := by unfold cmpI; rw [if_neg (Nat.lt_irrefl _), if_neg (Nat.lt_irrefl _)]
      rw [e0] at this
      exact this
  have hU0 : Hid (Up w (w.alloc (.cells #[.bool false, .slice sa n n, .slice o k k] 109)) ∧ Own (w.alloc (.cells #[.bool false, .slice sa n n, .slice o k k] 109)) w.heap.size 109 [.bool false, .slice sa n n, .slice o k k]) := ⟨(Up.refl w).alloc _, Own.new w 109 #[.bool false, .slice sa n n, .slice o k k]⟩
  rw [← hn, ← hk]
  have n16 : n ≤ 16 := by omega
  have nI : (n : Int) ≤ 16 := by omega
  have n0 : (0 : Int) ≤ (n : Int) := by omega
  have kI : (k : Int) ≤ 4095 := by omega
  clear h2 hb hR hH hO hO2 hk hn h16 ho
  go_enter Tabg.func79, Tabg.ntmps79
  go_wp2_with (fail)
  refine (CS.out _ hU0.out.1).mono ?_
  rintro e w1 ⟨rfl, u1⟩
  have HU1 : Hid (Up w w1 ∧ Own w1 w.heap.size 109 [.bool false, .slice sa n n, .slice o k k]) := ⟨hU0.out.1.trans u1, hU0.out.2.up u1⟩
  clear CS hU0 u1
  go_wp2
  go_loopw [7] (fun u wr => ∃ i : Nat, u = .int .i64 i ∧ i ≤ n ∧ Hid (Up w wr ∧ Own wr w.heap.size 109 [.bool false, .slice sa n n, .slice o k k])) (fun u _ => n - (intOf u).toNat)
  case atStart => exact ⟨0, rfl, by omega, HU1⟩
  case round =>
    obtain ⟨i, rfl, hi, HU⟩ := hrel
    clear HU1
    have i0 : (0 : Int) ≤ (i : Int) := by omega
    by_cases hlt : i < n
    · obtain ⟨sb, so, A, b, A', L, rfl, rfl, c1, c2, hL, CC⟩ := HC.out i hlt
      replace c1 := HU.out.1.cell c1
      replace c2 := HU.out.1.cell c2
      have c0 : wr.cell? ⟨w.heap.size, 1, none⟩ = some (.slice (some ⟨sb, so, none⟩) n n) := by rw [HU.out.2.cell]; rfl
      have iN : (i : Int) < (n : Int) := by omega
      have LI : (L : Int) ≤ 1024 := by omega
      have CC' : Hid (∀ w', Up wr w' → Calls Tabg.prog 67 #[.slice A L L, .slice A' L L] w' fun e w'' => e = .returned (.int .i8 0) ∧ (w''.cell? ⟨w.heap.size, 1, none⟩ = some (.slice (some ⟨sb, so, none⟩) n n) ∧ w''.cell? ⟨sb, so + i, none⟩ = some (.slice A L L) ∧ w''.cell? ⟨b, i, none⟩ = some (.slice A' L L)) ∧ Hid (Up wr w'')) := by
        intro w' hu
        refine (CC w' (HU.out.1.trans hu)).mono ?_
        rintro e w'' ⟨he, hu2⟩
        have hu3 := hu.trans hu2
        exact ⟨he, ⟨hu3.cell c0, hu3.cell c1, hu3.cell c2⟩, hu3⟩
      clear HC CC
      go_wp2_with (fail)
      go_region_held3 (fun w' => w'.cell? ⟨w.heap.size, 1, none⟩ = some (.slice (some ⟨sb, so, none⟩) n n) ∧ w'.cell? ⟨sb, so + i, none⟩ = some (.slice A L L) ∧ w'.cell? ⟨b, i, none⟩ = some (.slice A' L L)) (first | assumption | go_keep)
        (first | (go_at_call 67; refine (CC'.out _ (by first | exact (Up.refl _).drew | exact Up.refl _ | exact Hid.out (by assumption))).mono ?_; rintro e wL ⟨rfl, hS, HL⟩))
      all_goals go_wp2
      all_goals go_roundw
      all_goals first | exact ⟨i + 1, by go_num, by omega, HU.out.1.trans HL.out, HU.out.2.up HL.out⟩ | (simp [intOf]; omega)
    · obtain rfl : i = n := by omega
      clear HC
      go_wp2
      go_ret
      exact ⟨rfl, HU.out.1⟩
end Go.Proofs.Ygctab
