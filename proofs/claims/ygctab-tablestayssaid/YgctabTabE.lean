import Derived.Test.YgctabTabD
namespace Go.Proofs.Ygctab
open Go.RowKit
set_option linter.unusedVariables false
set_option linter.unusedSimpArgs false

/-- A slice cut at both ends of its room, from its start. -/
theorem run_slice0 {P : Program} (t e : TypeId) (sz : Nat) (ht : P.underlying t = some (.slice e)) (hz : (P.info? e).map (·.size) = some sz) (b off len cap h m : Nat) (k2 k3 : IntKind) (H M : Int)
    (eH : H = h) (eM : M = m) (h2 : h ≤ m) (h3 : m ≤ cap) (w : World) :
    (Instr.slice t (.slice (some ⟨b, off, none⟩) len cap) none (some (.int k2 H)) (some (.int k3 M))).run P w = .ok (.slice (some ⟨b, off, none⟩) h m) w := by
  subst eH eM
  have ee : P.elem t = e := by simp [Program.elem, ht]
  have ht' : P.underlying t = some (.slice (P.elem t)) := by rw [ee]; exact ht
  rw [run_slice_hm w t _ len cap ht' k2 k3 h m (by omega) (by omega) (by omega), ee]
  cases hq : P.info? e with
  | none => simp [hq] at hz
  | some i =>
    have hi : i.size = sz := by simpa [hq] using hz
    by_cases hm : m = 0 <;> simp [sizeOf, typeInfo, hq, hi, sliced, hm, Addr.add]

theorem RdC.take {w : World} {a : Option Addr} {n m : Nat} {zs : List (Nat × Nat)} (h : RdC w a n zs) (hm : m ≤ n) : RdC w a m (zs.take m) := by
  have h1 := h.1
  refine ⟨by simp; omega, fun i hi => ?_⟩
  have hi' : i < m := by simp at hi; omega
  obtain ⟨b, off, e, hc⟩ := h.2 i (by omega)
  refine ⟨b, off, e, ?_⟩
  rw [hc]
  simp [zat, List.getElem?_take, hi']

theorem pairL_bits {ps : List Nat} (h : F64s ps) : ∀ z ∈ pairL ps, z.1 < 18446744073709551616 ∧ z.2 < 18446744073709551616 := by
  have hg : ∀ j : Nat, ps[j]?.getD 0 < 18446744073709551616 := by
    intro j
    cases hj : ps[j]? with
    | none => simp
    | some v => exact h v (List.mem_of_getElem? hj)
  intro z hz
  simp only [pairL, List.mem_map] at hz
  obtain ⟨i, _, rfl⟩ := hz
  exact ⟨hg _, hg _⟩

set_option maxRecDepth 100000 in
set_option maxHeartbeats 3200000 in
theorem tabs_any (a0 a1 : Option Addr) (n0 c0 n1 c1 t : Nat) (ps qs : List Nat) (w : World) (h0 : RdU w a0 n0 c0 ps) (h1 : RdU w a1 n1 c1 qs) (hn0 : n0 ≤ 35184372088832) (hn1 : n1 ≤ 35184372088832) (hF : F64s ps) (ht8 : t < 256) :
    Calls Tabg.prog 10 #[.slice a0 n0 c0, .slice a1 n1 c1, .int .u8 t] w fun e w' => e = .returned (.bool true) ∧ Up w w' := by
  have CP0 : Hid (Calls Tabg.prog 45 #[.slice a0 n0 c0] w fun e w' => e = .returned (.slice (some ⟨w.heap.size, 0, none⟩) (pairL ps).length (pairL ps).length) ∧ Up w w' ∧ Own w' w.heap.size 27 (cxs (pairL ps))) := pairs_any a0 n0 c0 ps w h0 hn0
  have CP1 : Hid (∀ w', Up w w' → Calls Tabg.prog 45 #[.slice a1 n1 c1] w' fun e w'' => e = .returned (.slice (some ⟨w'.heap.size, 0, none⟩) (pairL qs).length (pairL qs).length) ∧ Up w' w'' ∧ Own w'' w'.heap.size 27 (cxs (pairL qs))) := fun w' hu => pairs_any a1 n1 c1 qs w' (h1.up hu) hn1
  have HB : Hid (∀ z ∈ pairL ps, z.1 < 18446744073709551616 ∧ z.2 < 18446744073709551616) := pairL_bits hF
  have hlX : (pairL ps).length ≤ 35184372088832 := by rw [pairL_length, ← h0.1]; omega
  have hlY : (pairL qs).length ≤ 35184372088832 := by rw [pairL_length, ← h1.1]; omega
  clear h0 h1 hF
  generalize pairL ps = X at *
  generalize pairL qs = Y at *
  generalize hN : X.length = n at *
  generalize hH : Y.length = h at *
  have HN : Hid (X.length = n ∧ Y.length = h) := ⟨hN, hH⟩
  clear hN hH
  go_enter Tabg.func10, Tabg.ntmps10
  go_wp2_with (fail)
  refine (CP0.out).mono ?_
  rintro e w1 ⟨rfl, hu1, ho1⟩
  have HU1 : Hid (Up w w1) := hu1
  have HO1 : Hid (Own w1 w.heap.size 27 (cxs X)) := ho1
  clear hu1 ho1 CP0
  go_wp2_with (fail)
  refine (CP1.out _ HU1.out).mono ?_
  rintro e w2 ⟨rfl, hu2, ho2⟩
  have HU2 : Hid (Up w w2) := (HU1.out).trans hu2
  have HX : Hid (RdC w2 (some ⟨w.heap.size, 0, none⟩) n X) := rdC_len (Own.up HO1.out hu2) HN.out.1 (Up.refl _)
  have HY : Hid (RdC w2 (some ⟨w1.heap.size, 0, none⟩) h Y) := rdC_len ho2 HN.out.2 (Up.refl _)
  clear hu2 ho2 CP1 HU1 HO1
  have CG : Hid (∀ p q w', Up w2 w' → p ≤ n → q ≤ h → p ≤ 2048 → q ≤ 2048 → Calls Tabg.prog 46 #[.slice (some ⟨w.heap.size, 0, none⟩) p p, .slice (some ⟨w1.heap.size, 0, none⟩) q q, .int .u8 t] w' fun e w'' => e = .returned (.bool true) ∧ Up w' w'') := fun p q w' hu hp hq hp2 hq2 =>
    tableStays_any w.heap.size 0 p p w1.heap.size 0 q q t (X.take p) (Y.take q) w' (((HX.out).take hp).up hu) (((HY.out).take hq).up hu) hp2 hq2 ht8 (fun z hz => HB.out z (List.mem_of_mem_take hz))
  clear HX HY HB HN
  have t0 : (0 : Int) ≤ (t : Int) := by omega
  have tI : (t : Int) < 256 := by omega
  have hs0 := fun (w' : World) => run_slice0 (P := Tabg.prog) 71 27 1 Tabg.underlying71 (by kernel_rfl) w.heap.size 0 n n 2048 2048 .i64 .i64 2048 2048 rfl rfl
  have hs1 := fun (w' : World) => run_slice0 (P := Tabg.prog) 71 27 1 Tabg.underlying71 (by kernel_rfl) w1.heap.size 0 h h 2048 2048 .i64 .i64 2048 2048 rfl rfl
  by_cases gn : 2048 < n
  · have gnI : (2048 : Int) < (n : Int) := by omega
    have hsn := fun w' => hs0 w' (by omega) (by omega) w'
    by_cases gh : 2048 < h
    · have ghI : (2048 : Int) < (h : Int) := by omega
      have hsh := fun w' => hs1 w' (by omega) (by omega) w'
      clear hs0 hs1
      have C1 : Hid (∀ w', Up w2 w' → Calls Tabg.prog 46 #[.slice (some ⟨w.heap.size, 0, none⟩) 2048 2048, .slice (some ⟨w1.heap.size, 0, none⟩) 2048 2048, .int .u8 t] w' fun e w'' => e = .returned (.bool true) ∧ Up w' w'') := fun w' hu => CG.out 2048 2048 w' hu (by omega) (by omega) (by omega) (by omega)
      have C2 : Hid (∀ p q w', Up w2 w' → p ≤ 2048 → q ≤ 2048 → p ≤ 2048 → q ≤ 2048 → Calls Tabg.prog 46 #[.slice (some ⟨w.heap.size, 0, none⟩) p p, .slice (some ⟨w1.heap.size, 0, none⟩) q q, .int .u8 t] w' fun e w'' => e = .returned (.bool true) ∧ Up w' w'') := fun p q w' hu a b c d => CG.out p q w' hu (by omega) (by omega) c d
      clear CG
      go_wp2_with (fail)
      refine (C1.out w2 (Up.refl _)).mono ?_
      rintro e w3 ⟨rfl, hu3⟩
      have HU3 : Hid (Up w2 w3) := hu3
      clear hu3 C1
      go_wp2_with (fail)
      refine (lcut2 2048 w3 (by omega)).mono ?_
      rintro e w' ⟨rfl, (⟨hn0, rfl⟩ | ⟨kk, k1, k2, k3, rfl⟩)⟩
      · go_wp2_with (fail)
        go_ret
        exact ⟨rfl, (HU2.out).trans HU3.out⟩
      · obtain ⟨P, hP⟩ : ∃ P, P = 2 ^ kk := ⟨_, rfl⟩
        have hP2 : P ≤ 2048 := by rw [hP]; exact Nat.pow_le_pow_right (by decide) k1
        have hPN : P ≤ 2048 := by rw [hP]; exact k2
        have hP1 : 1 ≤ P := by rw [hP]; exact Nat.two_pow_pos kk
        have s1 : IntKind.i64.wrap (2 ^ kk) = (P : Int) := by rw [← pow_cast, ← hP, IntKind.wrap_i64]; omega
        obtain ⟨Q, hQ⟩ : ∃ Q, Q = P / 2 := ⟨_, rfl⟩
        have s2 : (P : Int) / 2 = (Q : Int) := by omega
        have kkI : (kk : Int) ≤ 11 := by omega
        have kk0 : (0 : Int) ≤ (kk : Int) := by omega
        have p0 : (0 : Int) ≤ (P : Int) := by omega
        have pI : (P : Int) ≤ 2048 := by omega
        by_cases hlt : 2048 < Q
        · have g1 : decide ((2048 : Int) < (Q : Int)) = true := decide_eq_true (by omega)
          have g2 : decide (2048 < Q) = true := decide_eq_true hlt
          clear k1 k2 k3 hP hQ hP2 hPN hP1 hlt C2
          go_wp2_with (fail)
          go_ret
          exact ⟨rfl, (HU2.out).trans HU3.out⟩
        · have g1 : decide ((2048 : Int) < (Q : Int)) = false := decide_eq_false (by omega)
          have g2 : decide (2048 < Q) = false := decide_eq_false hlt
          have CE : Hid (∀ w', Up w2 w' → Calls Tabg.prog 46 #[.slice (some ⟨w.heap.size, 0, none⟩) P P, .slice (some ⟨w1.heap.size, 0, none⟩) Q Q, .int .u8 t] w' fun e w'' => e = .returned (.bool true) ∧ Up w' w'') := fun w' hu => C2.out P Q w' hu (by omega) (by omega) (by omega) (by omega)
          have hs1 := fun w' => run_slice0 (P := Tabg.prog) 71 27 1 Tabg.underlying71 (by kernel_rfl) w.heap.size 0 2048 2048 P P .i64 .i64 (P : Int) (P : Int) rfl rfl (by omega) (by omega) w'
          have hs2 := fun w' => run_slice0 (P := Tabg.prog) 71 27 1 Tabg.underlying71 (by kernel_rfl) w1.heap.size 0 2048 2048 Q Q .i64 .i64 (Q : Int) (Q : Int) rfl rfl (by omega) (by omega) w'
          clear k1 k2 k3 hP hQ hP2 hPN hP1 hlt C2
          go_wp2_with (fail)
          go_region_with (first | (go_at_call 46; refine (CE.out _ ((HU3.out).drewN _)).mono ?_; rintro e wL ⟨rfl, uL⟩; have HUL : Hid (Up w2 wL) := Up.trans ((HU3.out).drewN _) uL; clear uL))
          all_goals go_wp2
          all_goals go_ret
          all_goals first | exact ⟨rfl, (HU2.out).trans HUL.out⟩ | exact ⟨rfl, ((HU2.out).trans HUL.out).drewN _⟩
    · have ghI : (h : Int) ≤ 2048 := by omega
      have ghD : decide ((2048 : Int) < (h : Int)) = false := decide_eq_false (by omega)
      clear hs0 hs1
      have C1 : Hid (∀ w', Up w2 w' → Calls Tabg.prog 46 #[.slice (some ⟨w.heap.size, 0, none⟩) 2048 2048, .slice (some ⟨w1.heap.size, 0, none⟩) h h, .int .u8 t] w' fun e w'' => e = .returned (.bool true) ∧ Up w' w'') := fun w' hu => CG.out 2048 h w' hu (by omega) (by omega) (by omega) (by omega)
      have C2 : Hid (∀ p q w', Up w2 w' → p ≤ 2048 → q ≤ h → p ≤ 2048 → q ≤ 2048 → Calls Tabg.prog 46 #[.slice (some ⟨w.heap.size, 0, none⟩) p p, .slice (some ⟨w1.heap.size, 0, none⟩) q q, .int .u8 t] w' fun e w'' => e = .returned (.bool true) ∧ Up w' w'') := fun p q w' hu a b c d => CG.out p q w' hu (by omega) (by omega) c d
      clear CG
      go_wp2_with (fail)
      refine (C1.out w2 (Up.refl _)).mono ?_
      rintro e w3 ⟨rfl, hu3⟩
      have HU3 : Hid (Up w2 w3) := hu3
      clear hu3 C1
      go_wp2_with (fail)
      refine (lcut2 2048 w3 (by omega)).mono ?_
      rintro e w' ⟨rfl, (⟨hn0, rfl⟩ | ⟨kk, k1, k2, k3, rfl⟩)⟩
      · go_wp2_with (fail)
        go_ret
        exact ⟨rfl, (HU2.out).trans HU3.out⟩
      · obtain ⟨P, hP⟩ : ∃ P, P = 2 ^ kk := ⟨_, rfl⟩
        have hP2 : P ≤ 2048 := by rw [hP]; exact Nat.pow_le_pow_right (by decide) k1
        have hPN : P ≤ 2048 := by rw [hP]; exact k2
        have hP1 : 1 ≤ P := by rw [hP]; exact Nat.two_pow_pos kk
        have s1 : IntKind.i64.wrap (2 ^ kk) = (P : Int) := by rw [← pow_cast, ← hP, IntKind.wrap_i64]; omega
        obtain ⟨Q, hQ⟩ : ∃ Q, Q = P / 2 := ⟨_, rfl⟩
        have s2 : (P : Int) / 2 = (Q : Int) := by omega
        have kkI : (kk : Int) ≤ 11 := by omega
        have kk0 : (0 : Int) ≤ (kk : Int) := by omega
        have p0 : (0 : Int) ≤ (P : Int) := by omega
        have pI : (P : Int) ≤ 2048 := by omega
        by_cases hlt : h < Q
        · have g1 : decide ((h : Int) < (Q : Int)) = true := decide_eq_true (by omega)
          have g2 : decide (h < Q) = true := decide_eq_true hlt
          clear k1 k2 k3 hP hQ hP2 hPN hP1 hlt C2
          go_wp2_with (fail)
          go_ret
          exact ⟨rfl, (HU2.out).trans HU3.out⟩
        · have g1 : decide ((h : Int) < (Q : Int)) = false := decide_eq_false (by omega)
          have g2 : decide (h < Q) = false := decide_eq_false hlt
          have CE : Hid (∀ w', Up w2 w' → Calls Tabg.prog 46 #[.slice (some ⟨w.heap.size, 0, none⟩) P P, .slice (some ⟨w1.heap.size, 0, none⟩) Q Q, .int .u8 t] w' fun e w'' => e = .returned (.bool true) ∧ Up w' w'') := fun w' hu => C2.out P Q w' hu (by omega) (by omega) (by omega) (by omega)
          have hs1 := fun w' => run_slice0 (P := Tabg.prog) 71 27 1 Tabg.underlying71 (by kernel_rfl) w.heap.size 0 2048 2048 P P .i64 .i64 (P : Int) (P : Int) rfl rfl (by omega) (by omega) w'
          have hs2 := fun w' => run_slice0 (P := Tabg.prog) 71 27 1 Tabg.underlying71 (by kernel_rfl) w1.heap.size 0 h h Q Q .i64 .i64 (Q : Int) (Q : Int) rfl rfl (by omega) (by omega) w'
          clear k1 k2 k3 hP hQ hP2 hPN hP1 hlt C2
          go_wp2_with (fail)
          go_region_with (first | (go_at_call 46; refine (CE.out _ ((HU3.out).drewN _)).mono ?_; rintro e wL ⟨rfl, uL⟩; have HUL : Hid (Up w2 wL) := Up.trans ((HU3.out).drewN _) uL; clear uL))
          all_goals go_wp2
          all_goals go_ret
          all_goals first | exact ⟨rfl, (HU2.out).trans HUL.out⟩ | exact ⟨rfl, ((HU2.out).trans HUL.out).drewN _⟩
  · have gnI : (n : Int) ≤ 2048 := by omega
    have gnD : decide ((2048 : Int) < (n : Int)) = false := decide_eq_false (by omega)
    by_cases gh : 2048 < h
    · have ghI : (2048 : Int) < (h : Int) := by omega
      have hsh := fun w' => hs1 w' (by omega) (by omega) w'
      clear hs0 hs1
      have C1 : Hid (∀ w', Up w2 w' → Calls Tabg.prog 46 #[.slice (some ⟨w.heap.size, 0, none⟩) n n, .slice (some ⟨w1.heap.size, 0, none⟩) 2048 2048, .int .u8 t] w' fun e w'' => e = .returned (.bool true) ∧ Up w' w'') := fun w' hu => CG.out n 2048 w' hu (by omega) (by omega) (by omega) (by omega)
      have C2 : Hid (∀ p q w', Up w2 w' → p ≤ n → q ≤ 2048 → p ≤ 2048 → q ≤ 2048 → Calls Tabg.prog 46 #[.slice (some ⟨w.heap.size, 0, none⟩) p p, .slice (some ⟨w1.heap.size, 0, none⟩) q q, .int .u8 t] w' fun e w'' => e = .returned (.bool true) ∧ Up w' w'') := fun p q w' hu a b c d => CG.out p q w' hu (by omega) (by omega) c d
      clear CG
      go_wp2_with (fail)
      refine (C1.out w2 (Up.refl _)).mono ?_
      rintro e w3 ⟨rfl, hu3⟩
      have HU3 : Hid (Up w2 w3) := hu3
      clear hu3 C1
      go_wp2_with (fail)
      refine (lcut2 n w3 (by omega)).mono ?_
      rintro e w' ⟨rfl, (⟨hn0, rfl⟩ | ⟨kk, k1, k2, k3, rfl⟩)⟩
      · go_wp2_with (fail)
        go_ret
        exact ⟨rfl, (HU2.out).trans HU3.out⟩
      · obtain ⟨P, hP⟩ : ∃ P, P = 2 ^ kk := ⟨_, rfl⟩
        have hP2 : P ≤ 2048 := by rw [hP]; exact Nat.pow_le_pow_right (by decide) k1
        have hPN : P ≤ n := by rw [hP]; exact k2
        have hP1 : 1 ≤ P := by rw [hP]; exact Nat.two_pow_pos kk
        have s1 : IntKind.i64.wrap (2 ^ kk) = (P : Int) := by rw [← pow_cast, ← hP, IntKind.wrap_i64]; omega
        obtain ⟨Q, hQ⟩ : ∃ Q, Q = P / 2 := ⟨_, rfl⟩
        have s2 : (P : Int) / 2 = (Q : Int) := by omega
        have kkI : (kk : Int) ≤ 11 := by omega
        have kk0 : (0 : Int) ≤ (kk : Int) := by omega
        have p0 : (0 : Int) ≤ (P : Int) := by omega
        have pI : (P : Int) ≤ 2048 := by omega
        by_cases hlt : 2048 < Q
        · have g1 : decide ((2048 : Int) < (Q : Int)) = true := decide_eq_true (by omega)
          have g2 : decide (2048 < Q) = true := decide_eq_true hlt
          clear k1 k2 k3 hP hQ hP2 hPN hP1 hlt C2
          go_wp2_with (fail)
          go_ret
          exact ⟨rfl, (HU2.out).trans HU3.out⟩
        · have g1 : decide ((2048 : Int) < (Q : Int)) = false := decide_eq_false (by omega)
          have g2 : decide (2048 < Q) = false := decide_eq_false hlt
          have CE : Hid (∀ w', Up w2 w' → Calls Tabg.prog 46 #[.slice (some ⟨w.heap.size, 0, none⟩) P P, .slice (some ⟨w1.heap.size, 0, none⟩) Q Q, .int .u8 t] w' fun e w'' => e = .returned (.bool true) ∧ Up w' w'') := fun w' hu => C2.out P Q w' hu (by omega) (by omega) (by omega) (by omega)
          have hs1 := fun w' => run_slice0 (P := Tabg.prog) 71 27 1 Tabg.underlying71 (by kernel_rfl) w.heap.size 0 n n P P .i64 .i64 (P : Int) (P : Int) rfl rfl (by omega) (by omega) w'
          have hs2 := fun w' => run_slice0 (P := Tabg.prog) 71 27 1 Tabg.underlying71 (by kernel_rfl) w1.heap.size 0 2048 2048 Q Q .i64 .i64 (Q : Int) (Q : Int) rfl rfl (by omega) (by omega) w'
          clear k1 k2 k3 hP hQ hP2 hPN hP1 hlt C2
          go_wp2_with (fail)
          go_region_with (first | (go_at_call 46; refine (CE.out _ ((HU3.out).drewN _)).mono ?_; rintro e wL ⟨rfl, uL⟩; have HUL : Hid (Up w2 wL) := Up.trans ((HU3.out).drewN _) uL; clear uL))
          all_goals go_wp2
          all_goals go_ret
          all_goals first | exact ⟨rfl, (HU2.out).trans HUL.out⟩ | exact ⟨rfl, ((HU2.out).trans HUL.out).drewN _⟩
    · have ghI : (h : Int) ≤ 2048 := by omega
      have ghD : decide ((2048 : Int) < (h : Int)) = false := decide_eq_false (by omega)
      clear hs0 hs1
      have C1 : Hid (∀ w', Up w2 w' → Calls Tabg.prog 46 #[.slice (some ⟨w.heap.size, 0, none⟩) n n, .slice (some ⟨w1.heap.size, 0, none⟩) h h, .int .u8 t] w' fun e w'' => e = .returned (.bool true) ∧ Up w' w'') := fun w' hu => CG.out n h w' hu (by omega) (by omega) (by omega) (by omega)
      have C2 : Hid (∀ p q w', Up w2 w' → p ≤ n → q ≤ h → p ≤ 2048 → q ≤ 2048 → Calls Tabg.prog 46 #[.slice (some ⟨w.heap.size, 0, none⟩) p p, .slice (some ⟨w1.heap.size, 0, none⟩) q q, .int .u8 t] w' fun e w'' => e = .returned (.bool true) ∧ Up w' w'') := fun p q w' hu a b c d => CG.out p q w' hu (by omega) (by omega) c d
      clear CG
      go_wp2_with (fail)
      refine (C1.out w2 (Up.refl _)).mono ?_
      rintro e w3 ⟨rfl, hu3⟩
      have HU3 : Hid (Up w2 w3) := hu3
      clear hu3 C1
      go_wp2_with (fail)
      refine (lcut2 n w3 (by omega)).mono ?_
      rintro e w' ⟨rfl, (⟨hn0, rfl⟩ | ⟨kk, k1, k2, k3, rfl⟩)⟩
      · go_wp2_with (fail)
        go_ret
        exact ⟨rfl, (HU2.out).trans HU3.out⟩
      · obtain ⟨P, hP⟩ : ∃ P, P = 2 ^ kk := ⟨_, rfl⟩
        have hP2 : P ≤ 2048 := by rw [hP]; exact Nat.pow_le_pow_right (by decide) k1
        have hPN : P ≤ n := by rw [hP]; exact k2
        have hP1 : 1 ≤ P := by rw [hP]; exact Nat.two_pow_pos kk
        have s1 : IntKind.i64.wrap (2 ^ kk) = (P : Int) := by rw [← pow_cast, ← hP, IntKind.wrap_i64]; omega
        obtain ⟨Q, hQ⟩ : ∃ Q, Q = P / 2 := ⟨_, rfl⟩
        have s2 : (P : Int) / 2 = (Q : Int) := by omega
        have kkI : (kk : Int) ≤ 11 := by omega
        have kk0 : (0 : Int) ≤ (kk : Int) := by omega
        have p0 : (0 : Int) ≤ (P : Int) := by omega
        have pI : (P : Int) ≤ 2048 := by omega
        by_cases hlt : h < Q
        · have g1 : decide ((h : Int) < (Q : Int)) = true := decide_eq_true (by omega)
          have g2 : decide (h < Q) = true := decide_eq_true hlt
          clear k1 k2 k3 hP hQ hP2 hPN hP1 hlt C2
          go_wp2_with (fail)
          go_ret
          exact ⟨rfl, (HU2.out).trans HU3.out⟩
        · have g1 : decide ((h : Int) < (Q : Int)) = false := decide_eq_false (by omega)
          have g2 : decide (h < Q) = false := decide_eq_false hlt
          have CE : Hid (∀ w', Up w2 w' → Calls Tabg.prog 46 #[.slice (some ⟨w.heap.size, 0, none⟩) P P, .slice (some ⟨w1.heap.size, 0, none⟩) Q Q, .int .u8 t] w' fun e w'' => e = .returned (.bool true) ∧ Up w' w'') := fun w' hu => C2.out P Q w' hu (by omega) (by omega) (by omega) (by omega)
          have hs1 := fun w' => run_slice0 (P := Tabg.prog) 71 27 1 Tabg.underlying71 (by kernel_rfl) w.heap.size 0 n n P P .i64 .i64 (P : Int) (P : Int) rfl rfl (by omega) (by omega) w'
          have hs2 := fun w' => run_slice0 (P := Tabg.prog) 71 27 1 Tabg.underlying71 (by kernel_rfl) w1.heap.size 0 h h Q Q .i64 .i64 (Q : Int) (Q : Int) rfl rfl (by omega) (by omega) w'
          clear k1 k2 k3 hP hQ hP2 hPN hP1 hlt C2
          go_wp2_with (fail)
          go_region_with (first | (go_at_call 46; refine (CE.out _ ((HU3.out).drewN _)).mono ?_; rintro e wL ⟨rfl, uL⟩; have HUL : Hid (Up w2 wL) := Up.trans ((HU3.out).drewN _) uL; clear uL))
          all_goals go_wp2
          all_goals go_ret
          all_goals first | exact ⟨rfl, (HU2.out).trans HUL.out⟩ | exact ⟨rfl, ((HU2.out).trans HUL.out).drewN _⟩

end Go.Proofs.Ygctab
