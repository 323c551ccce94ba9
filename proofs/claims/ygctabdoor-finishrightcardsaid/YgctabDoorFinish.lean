import Derived.Test.YgctabDoorRound
import Derived.Test.YgctabDoorFinW
import Derived.Test.YgctabDoorAccI
namespace Go.Proofs.YgctabDoor
open Go.RowKit
set_option linter.unusedVariables false
set_option linter.unusedSimpArgs false
set_option exponentiation.threshold 6000

theorem Ap_prefix : ∀ (us vs : List Int) (K : Nat), Ap K (us ++ vs) → Ap K us
  | [], _, _, _ => trivial
  | u :: us, vs, K, h => ⟨h.1, h.2.1, Ap_prefix us vs _ h.2.2⟩
theorem Ap_two : ∀ (us : List Int) (y z : Int) (K : Nat), Ap K (us ++ [y] ++ [z]) → z ≠ 0 ∧ ((2 ^ (y.natAbs.log2 + 1) : Nat) : Int) ∣ z
  | [], y, z, K, h => ⟨h.2.2.1, h.2.2.2.1⟩
  | u :: us, y, z, K, h => Ap_two us y z _ h.2.2
/-- The list the other way round. -/
theorem ap_dn : ∀ (l : List Int) (z : Int) (K : Nat), Ap K (l.reverse ++ [z]) → z ≠ 0 ∧ ∃ L, ((2 ^ L : Nat) : Int) ∣ z ∧ Dn L l
  | [], z, K, h => ⟨h.1, 0, by simp, trivial⟩
  | y :: l, z, K, h => by
    rw [List.reverse_cons] at h
    obtain ⟨h1, h2⟩ := Ap_two l.reverse y z K h
    obtain ⟨h3, L, h4, h5⟩ := ap_dn l y K (Ap_prefix _ _ _ h)
    exact ⟨h1, y.natAbs.log2 + 1, h2, h3, Nat.lt_log2_self, L, h4, h5⟩
theorem sumI_reverse (l : List Int) : sumI l.reverse = sumI l := by
  induction l with
  | nil => rfl
  | cons x l ih => rw [List.reverse_cons, sumI_append, ih]; simp only [sumI]; omega
theorem magsI_reverse (l : List Int) : magsI l.reverse = magsI l := by
  induction l with
  | nil => rfl
  | cons x l ih => rw [List.reverse_cons, magsI_append, ih]; simp only [magsI]; omega

/-- What a state that passes gives. -/
theorem chk_spec {N : Nat} {ps : List Nat} (hF : F64s ps) (h : chkB N ps = true) : ps.length ≤ 2098 ∧ (∀ p ∈ ps, Fin64 p) ∧ (∀ p ∈ ps, fval p ≠ 0) ∧ (sumI (vals ps)).natAbs < 2 ^ 2096 ∧
    (0 < ps.length → Ph1 ps (rnd (sumI (vals ps))) (ps.length - 1) (ps[ps.length - 1]?.getD 0) ∧ sumI (vals ps) ≠ 0) := by
  unfold chkB at h
  simp only [Bool.and_eq_true, decide_eq_true_eq] at h
  obtain ⟨h1, h2, h3, h4⟩ := h
  have hfin := apartL_fin _ ps h3
  have hp : ∀ p ∈ ps, Fin64 p := fun p hp => ⟨hF p hp, by rw [hfin p hp]; exact Nat.le_refl 1⟩
  have hap := (apartL_iff ps (-5000) hp).1 h3
  have hm : magsL ps ≤ 2 ^ 2085 := by
    refine Nat.le_trans h4 (Nat.le_trans (Nat.mul_le_mul_right _ h1) ?_)
    decide
  have hsum : (sumI (vals ps)).natAbs ≤ 2 ^ 2085 := by
    refine Nat.le_trans (sumI_le _) ?_
    rw [← magsL_vals]
    exact hm
  refine ⟨h2, hp, fun p hpm => fval_ne (hfin p hpm), Nat.lt_of_le_of_lt hsum (by decide), fun h0 => ?_⟩
  obtain ⟨m, hm1⟩ : ∃ m, ps.length = m + 1 := ⟨ps.length - 1, by omega⟩
  have hlt : m < ps.length := by omega
  have htake : ps = ps.take m ++ [ps[m]?.getD 0] := by
    have := List.take_add_one (l := ps) (i := m)
    rw [← hm1, List.take_of_length_le (Nat.le_refl _), List.getElem?_eq_getElem hlt] at this
    rw [List.getElem?_eq_getElem hlt]
    exact this
  have hv : vals ps = (below ps m).reverse ++ [fval (ps[m]?.getD 0)] := by
    unfold below
    rw [List.reverse_reverse]
    conv => lhs; rw [htake, vals_append]
    rfl
  rw [hv] at hap
  obtain ⟨g1, L, g2, g3⟩ := ap_dn _ _ _ hap
  have hs : sumI (vals ps) = fval (ps[m]?.getD 0) + sumI (below ps m) := by
    rw [hv, sumI_append, sumI_reverse]
    simp only [sumI]
    omega
  have hmg : (fval (ps[m]?.getD 0)).natAbs + magsI (below ps m) = magsL ps := by
    rw [magsL_vals, hv, magsI_append, magsI_reverse]
    simp only [magsI]
    omega
  rw [show ps.length - 1 = m by omega]
  refine ⟨⟨hp _ (by rw [List.getElem?_eq_getElem hlt]; exact List.getElem_mem hlt), g1, ⟨L, g2, g3⟩, ?_, by rw [hs]⟩, ?_⟩
  · rw [hmg, capM_eq]
    exact Nat.le_trans hm (Nat.pow_le_pow_right (by decide) (by decide))
  · rw [hs]
    have h5 := Dn_sum _ _ g3
    have h6 := dvd_natAbs_le g1 g2
    omega
theorem rnd_ne {S : Int} (h : S ≠ 0) : rnd S ≠ 0 := by
  intro h0
  have h1 := rnd_abs S
  rw [h0] at h1
  have h2 : rndN S.natAbs ≠ 0 := by
    unfold rndN
    exact Nat.mul_ne_zero (rne_pos (by omega)) (Nat.ne_of_gt (two_pos _))
  simp at h1
  omega

set_option maxRecDepth 100000 in
theorem same_refl (x : Nat) (w : World) : Calls Tabg.prog 7 #[.float .f64 x, .float .f64 x] w fun e w' => e = .returned (.bool true) ∧ w = w' := by
  have c := b64_any x
  go_enter Tabg.func7, Tabg.ntmps7
  go_wp2_with (go_at_call 16; refine (c _).mono ?_; rintro e w' ⟨rfl, rfl⟩)
  go_ret
  exact ⟨rfl, rfl⟩

/-- Finish and Round answer alike. -/
theorem finish_round (a : Option Addr) (n c b N : Nat) (ps : List Nat) (xs : List Int) (w : World) (h : RdF w a n ps) (hF : F64s ps) (hk : chkB N ps = true) (hA : AccAt w b xs) (hv : num xs = (sumI (vals ps) * 2 ^ 1074) % W ^ 68) (hT : TabG w) :
    ∃ r, (Calls Tabg.prog 8 #[.slice a n c] w fun e w' => e = .returned (.float .f64 r) ∧ w = w') ∧ (Calls Tabg.prog 9 #[.pointer (some ⟨b, 0, none⟩)] w fun e w' => e = .returned (.float .f64 r) ∧ Up w w') := by
  obtain ⟨k1, k2, k3, k4, k5⟩ := chk_spec hF hk
  have hn := h.1
  by_cases h0 : ps.length = 0
  · obtain rfl : ps = [] := List.length_eq_zero_iff.1 h0
    obtain rfl : n = 0 := hn
    refine ⟨0, finish_nil a c w, round_zero b xs w hA ?_⟩
    rw [hv]
    simp [vals, sumI]
  · obtain ⟨g1, g2⟩ := k5 (by omega)
    rw [← hn] at g1
    have f1 := finish_some a n c ps w _ h (by omega) (by omega) k2 k3 g1
    have f2 := round_some b xs w _ hA hT g2 k4 hv
    obtain ⟨e0, w0, fr, ⟨r, -, hr1, hr2, -⟩, -⟩ := f1 []
    have hne : fval r ≠ 0 := by rw [hr2]; exact rnd_ne g2
    refine ⟨r, f1.mono ?_, f2.mono ?_⟩
    · rintro e w' ⟨r', rfl, h1, h2, rfl⟩
      rw [fval_inj hr1 h1 hne (by rw [hr2, h2])]
      exact ⟨rfl, rfl⟩
    · rintro e w' ⟨r', rfl, h1, h2, h3⟩
      rw [fval_inj hr1 h1 hne (by rw [hr2, h2])]
      exact ⟨rfl, h3⟩

set_option maxRecDepth 100000 in
set_option maxHeartbeats 1600000 in
theorem finishRight_no (a : Option Addr) (n c N : Nat) (ps : List Nat) (w : World) (h : RdU w a n c ps) (hN : N < 65536) (hF : F64s ps) (hg : chkB N ps = false) :
    Calls Tabg.prog 3 #[.agg #[.slice a n c, .int .u16 N]] w fun e w' => e = .returned (.bool true) ∧ Up w w' := by
  have cG := fun w' (u : Up w w') => check_any a n c N ps w' (h.up u) hN hF
  rw [hg] at cG
  go_enter Tabg.func3, Tabg.ntmps3
  go_wp2_with (go_at_call 4; refine (cG _ ((Up.refl w).alloc _)).mono ?_; rintro e w1 ⟨rfl, hu⟩)
  go_ret
  exact ⟨rfl, ((Up.refl w).alloc _).trans hu⟩

set_option maxRecDepth 100000 in
set_option maxHeartbeats 1600000 in
theorem finishRight_yes (a : Option Addr) (n c N : Nat) (ps : List Nat) (w : World) (h : RdU w a n c ps) (hN : N < 65536) (hF : F64s ps) (hT : TabG w) (hg : chkB N ps = true) :
    Calls Tabg.prog 3 #[.agg #[.slice a n c, .int .u16 N]] w fun e w' => e = .returned (.bool true) ∧ Up w w' := by
  have cG := fun w' (u : Up w w') => check_any a n c N ps w' (h.up u) hN hF
  rw [hg] at cG
  obtain ⟨k1, k2, k3, k4, k5⟩ := chk_spec hF hg
  have hBx := Own.new w 25 #[Value.slice a n c, Value.int IntKind.u16 N]
  have HB : Hid (Own (w.alloc (.cells #[Value.slice a n c, Value.int IntKind.u16 N] 25)) w.heap.size 25 [Value.slice a n c, Value.int IntKind.u16 N]) := hBx
  have CG : Hid (∀ w', Up w w' → Calls Tabg.prog 4 #[.agg #[.slice a n c, .int .u16 N]] w' fun e w'' => e = .returned (.bool true) ∧ Up w' w'') := cG
  have CP : Hid (∀ w', Up w w' → Calls Tabg.prog 5 #[.slice a n c, .int .i64 0] w' fun e w'' => ∃ a' c', e = .returned (.slice a' n c') ∧ RdF w'' a' n ps ∧ Up w' w'') := fun w' u => patterns0 a n c ps w' (h.up u) (by omega)
  have HS : Hid (n = ps.length ∧ ps.length ≤ 2098 ∧ (∀ p ∈ ps, Fin64 p) ∧ F64s ps ∧ chkB N ps = true ∧ TabG w ∧ RdU w a n c ps) := ⟨h.1, k1, k2, hF, hg, hT, h⟩
  clear h cG hBx hF hg hT k1 k2 k3 k4 k5 hN
  go_enter Tabg.func3, Tabg.ntmps3
  go_wp2_with (fail)
  refine (CG.out _ ((Up.refl w).alloc _)).mono ?_
  rintro e w1 ⟨rfl, hu⟩
  have cb0 := Own.cell (Own.up HB.out hu) 0
  have U1 : Hid (Up (w.alloc (.cells #[Value.slice a n c, Value.int IntKind.u16 N] 25)) w1) := hu
  clear hu CG
  go_wp2_with (fail)
  refine (CP.out w1 (((Up.refl w).alloc _).trans U1.out)).mono ?_
  rintro e w2 ⟨a2, c2, rfl, r2, u2⟩
  have R2 : Hid (RdF w2 a2 n ps) := r2
  have U2 : Hid (Up w1 w2) := u2
  clear r2 u2 cb0 CP
  go_wp2_with (fail)
  refine (accTotal_any a2 n _ ps w2 R2.out (by have := HS.out; omega) HS.out.2.2.1).mono ?_
  rintro e w3 ⟨xs, rfl, hxl, hxw, hxv, u3⟩
  have HX : Hid (xs.length = 68 ∧ Words xs ∧ num xs = (sumI (vals ps) * 2 ^ 1074) % W ^ 68) := ⟨hxl, hxw, hxv⟩
  have U3 : Hid (Up w2 w3) := u3
  clear hxl hxw hxv u3
  have HZ : Hid (AccAt (w3.alloc (.cells Z68 31)) w3.heap.size (List.replicate 68 0)) := AccAt.zero w3
  go_wp2_with (refine wpList_store40 rfl _ _ rfl w3.heap.size rfl xs rfl HX.out.1 _ HZ.out ?_)
  have HA4 : Hid (AccAt (setAcc (w3.alloc (.cells Z68 31)) w3.heap.size xs) w3.heap.size xs) := AccAt.setAcc HZ.out HX.out.1 HX.out.2.1
  have U4 : Hid (Up w3 (setAcc (w3.alloc (.cells Z68 31)) w3.heap.size xs)) := Up.ofMod ((Up.refl w3).alloc _) ((Mod.refl _ _).setAcc xs) (Nat.le_refl _)
  generalize setAcc (w3.alloc (.cells Z68 31)) w3.heap.size xs = w4 at *
  generalize w3.heap.size = b4 at *
  have U14 : Hid (Up w1 w4) := U2.out.trans (U3.out.trans U4.out)
  have UW4 : Hid (Up w w4) := (((Up.refl w).alloc _).trans U1.out).trans U14.out
  have R4 : Hid (RdF w4 a2 n ps) := RdF.up R2.out (U3.out.trans U4.out)
  obtain ⟨r, f1, f2⟩ := finish_round a2 n c2 b4 N ps xs w4 R4.out HS.out.2.2.2.1 HS.out.2.2.2.2.1 HA4.out HX.out.2.2 (TabG.up HS.out.2.2.2.2.2.1 UW4.out)
  have F1 : Hid (Calls Tabg.prog 8 #[.slice a2 n c2] w4 fun e w' => e = .returned (.float .f64 r) ∧ w4 = w') := f1
  have F2 : Hid (Calls Tabg.prog 9 #[.pointer (some ⟨b4, 0, none⟩)] w4 fun e w' => e = .returned (.float .f64 r) ∧ Up w4 w') := f2
  have UB4 : Hid (Own w4 w.heap.size 25 [Value.slice a n c, Value.int IntKind.u16 N]) := Own.up (Own.up HB.out U1.out) U14.out
  clear f1 f2 U2 U3 U4 HZ R2 HX HA4 U14 U1 HB
  refine (F1.out).mono ?_
  rintro e w' ⟨rfl, rfl⟩
  go_wp2_with (fail)
  refine (F2.out).mono ?_
  rintro e w5 ⟨rfl, u5⟩
  have R5 : Hid (RdF w5 a2 n ps) := RdF.up R4.out u5
  have UW5 : Hid (Up w w5) := UW4.out.trans u5
  have cb5 := Own.cell (Own.up UB4.out u5) 0
  clear u5 F1 F2 UB4 UW4 R4
  have cs := same_refl r
  have CS : Hid (∀ w, Calls Tabg.prog 7 #[.float .f64 r, .float .f64 r] w fun e w' => e = .returned (.bool true) ∧ w = w') := cs
  clear cs
  go_wp2_with (fail)
  refine (CS.out _).mono ?_
  rintro e w' ⟨rfl, rfl⟩
  clear CS
  have c10 := sameBits_yes a2 a n c2 c ps w5 R5.out (by have := HS.out; omega) (RdU.at (RdU.up HS.out.2.2.2.2.2.2 UW5.out))
  have C10 : Hid (Calls Tabg.prog 10 #[.slice a2 n c2, .slice a n c] w5 fun e w' => e = .returned (.bool true) ∧ Up w5 w') := c10
  clear c10 R5
  go_wp2_with (fail)
  refine (C10.out).mono ?_
  rintro e w6 ⟨rfl, u6⟩
  have UW6 : Hid (Up w w6) := UW5.out.trans u6
  clear u6 C10 UW5 cb5
  go_wp2
  go_ret
  exact ⟨rfl, UW6.out⟩

theorem finishRight_any (a : Option Addr) (n c N : Nat) (ps : List Nat) (w : World) (h : RdU w a n c ps) (hN : N < 65536) (hF : F64s ps) (hT : TabG w) :
    Calls Tabg.prog 3 #[.agg #[.slice a n c, .int .u16 N]] w fun e w' => e = .returned (.bool true) ∧ Up w w' := by
  cases hg : chkB N ps
  · exact finishRight_no a n c N ps w h hN hF hg
  · exact finishRight_yes a n c N ps w h hN hF hT hg
end Go.Proofs.YgctabDoor
