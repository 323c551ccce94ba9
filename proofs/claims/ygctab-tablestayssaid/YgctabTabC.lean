import Derived.Test.YgctabTabA
namespace Go.Proofs.Ygctab
open Go.RowKit
set_option linter.unusedVariables false
set_option linter.unusedSimpArgs false

set_option maxRecDepth 100000 in
set_option maxHeartbeats 3200000 in
theorem ts_one (bx ox n cx bt ot h ct t : Nat) (xs tab : List (Nat × Nat)) (S F I : Nat → Cx) (w : World)
    (hx : RdC w (some ⟨bx, ox, none⟩) n xs) (ht : RdC w (some ⟨bt, ot, none⟩) h tab) (hn : n ≤ 2048) (hh : h ≤ 2048) (ht8 : t < 256)
    (CS' : ∀ (w' : World) (b : Nat), Up w w' → w.heap.size ≤ b → Own w' b 27 (cxs xs) → Calls Tabg.prog 104 #[.slice (some ⟨b, 0, none⟩) n n, .slice (some ⟨bt, ot, none⟩) h ct, .int .u8 t] w' fun e w'' => e = .returned (.tuple #[]) ∧ Mod b w' w'' ∧ ∃ ys, ys.length = n ∧ Own w'' b 27 (cxs ys) ∧ ∀ i, i < n → clsC (zat ys i) = S i)
    (CO' : ∀ (w' : World) (b : Nat), Up w w' → w.heap.size ≤ b → Own w' b 27 (cxs xs) → Calls Tabg.prog 105 #[.slice (some ⟨b, 0, none⟩) n n, .slice (some ⟨bt, ot, none⟩) h ct] w' fun e w'' => e = .returned (.bool true) ∧ Mod b w' w'' ∧ ∃ ys, ys.length = n ∧ Own w'' b 27 (cxs ys) ∧ ∀ i, i < n → clsC (zat ys i) = F i)
    (CI' : ∀ (w' : World) (b : Nat), Up w w' → w.heap.size ≤ b → Own w' b 27 (cxs xs) → Calls Tabg.prog 106 #[.slice (some ⟨b, 0, none⟩) n n, .slice (some ⟨bt, ot, none⟩) h ct] w' fun e w'' => e = .returned (.bool true) ∧ Mod b w' w'' ∧ ∃ ys, ys.length = n ∧ Own w'' b 27 (cxs ys) ∧ ∀ i, i < n → clsC (zat ys i) = I i)
    (CD' : ∀ w', Up w w' → Calls Tabg.prog 107 #[.slice (some ⟨bx, ox, none⟩) n cx, .slice (some ⟨bt, ot, none⟩) h ct] w' fun e w'' => ∃ B, e = .returned (.slice (some ⟨B, 0, none⟩) n n) ∧ Up w' w'')
    (hS : ∀ i, i < n → S i = clsC (zat xs i)) (hF : ∀ i, i < n → F i = clsC (zat xs i)) (hI : ∀ i, i < n → I i = clsC (zat xs i)) (hn1 : n = 1) (hh0 : h = 0) :
    Calls Tabg.prog 46 #[.slice (some ⟨bx, ox, none⟩) n cx, .slice (some ⟨bt, ot, none⟩) h ct, .int .u8 t] w fun e w' => e = .returned (.bool true) ∧ Up w w' := by
  have CS : Hid (∀ (w' : World) (b : Nat), Up w w' → w.heap.size ≤ b → Own w' b 27 (cxs xs) → Calls Tabg.prog 104 #[.slice (some ⟨b, 0, none⟩) n n, .slice (some ⟨bt, ot, none⟩) h ct, .int .u8 t] w' fun e w'' => e = .returned (.tuple #[]) ∧ Mod b w' w'' ∧ ∃ ys, ys.length = n ∧ Own w'' b 27 (cxs ys) ∧ ∀ i, i < n → clsC (zat ys i) = S i) := CS'
  have CO : Hid (∀ (w' : World) (b : Nat), Up w w' → w.heap.size ≤ b → Own w' b 27 (cxs xs) → Calls Tabg.prog 105 #[.slice (some ⟨b, 0, none⟩) n n, .slice (some ⟨bt, ot, none⟩) h ct] w' fun e w'' => e = .returned (.bool true) ∧ Mod b w' w'' ∧ ∃ ys, ys.length = n ∧ Own w'' b 27 (cxs ys) ∧ ∀ i, i < n → clsC (zat ys i) = F i) := CO'
  have CI : Hid (∀ (w' : World) (b : Nat), Up w w' → w.heap.size ≤ b → Own w' b 27 (cxs xs) → Calls Tabg.prog 106 #[.slice (some ⟨b, 0, none⟩) n n, .slice (some ⟨bt, ot, none⟩) h ct] w' fun e w'' => e = .returned (.bool true) ∧ Mod b w' w'' ∧ ∃ ys, ys.length = n ∧ Own w'' b 27 (cxs ys) ∧ ∀ i, i < n → clsC (zat ys i) = I i) := CI'
  have CD : Hid (∀ w', Up w w' → Calls Tabg.prog 107 #[.slice (some ⟨bx, ox, none⟩) n cx, .slice (some ⟨bt, ot, none⟩) h ct] w' fun e w'' => ∃ B, e = .returned (.slice (some ⟨B, 0, none⟩) n n) ∧ Up w' w'') := CD'
  have CX : Hid (∀ w', Up w w' → Calls Tabg.prog 103 #[.slice (some ⟨bx, ox, none⟩) n cx] w' fun e w'' => e = .returned (.slice (some ⟨w'.heap.size, 0, none⟩) n n) ∧ Up w' w'' ∧ Own w'' w'.heap.size 27 (cxs xs)) := fun w' hu => copyC_some bx ox n cx xs w' (hx.up hu) (by omega)
  have CT : Hid (∀ w', Up w w' → Calls Tabg.prog 103 #[.slice (some ⟨bt, ot, none⟩) h ct] w' fun e w'' => e = .returned (.slice (some ⟨w'.heap.size, 0, none⟩) h h) ∧ Up w' w'' ∧ Own w'' w'.heap.size 27 (cxs tab)) := fun w' hu => copyC_some bt ot h ct tab w' (ht.up hu) (by omega)
  have CW : Hid (∀ w' (m : Int), Up w w' → -1 ≤ m → m ≤ 8192 → Calls Tabg.prog 108 #[.slice (some ⟨bt, ot, none⟩) h ct, .int .i64 m] w' fun e w'' => (∃ p q, e = .returned (.complex .f64 p q)) ∧ w' = w'') := fun w' m hu h1 h2 => w_any _ h ct m tab w' (ht.up hu) (by omega) h1 h2
  have HX : Hid (RdC w (some ⟨bx, ox, none⟩) n xs) := hx
  have HT : Hid (RdC w (some ⟨bt, ot, none⟩) h tab) := ht
  have ht0 : (0 : Int) ≤ (t : Int) := by omega
  have HE : Hid ((∀ i, i < n → S i = clsC (zat xs i)) ∧ (∀ i, i < n → F i = clsC (zat xs i)) ∧ (∀ i, i < n → I i = clsC (zat xs i))) := ⟨hS, hF, hI⟩
  clear hS hF hI
  have HN : Hid (n = 1 ∧ h = 0) := ⟨hn1, hh0⟩
  clear hn1 hh0
  have htI : (t : Int) < 256 := by omega
  clear CS' CO' CI' CD' hx ht
  go_enter Tabg.func46, Tabg.ntmps46
  go_wp2_with (fail)
  refine (CT.out _ (Up.refl _)).mono ?_
  rintro e w1 ⟨rfl, hu1, ho1⟩
  have HU1 : Hid (Up w w1) := hu1
  have HK1 : Hid (Own w1 w.heap.size 27 (cxs tab)) := ho1
  clear hu1 ho1 CT
  go_wp2_with (fail)
  refine (CX.out _ HU1.out).mono ?_
  rintro e w2 ⟨rfl, hu2, ho2⟩
  have HU2 : Hid (Up w w2) := (HU1.out).trans hu2
  have HK2 : Hid (Own w2 w.heap.size 27 (cxs tab)) := Own.up HK1.out hu2
  have HA2 : Hid (Own w2 w1.heap.size 27 (cxs xs)) := ho2
  have hb1 : Hid (w.heap.size < w1.heap.size) := (HK1.out).lt
  clear hu2 ho2 HU1 HK1
  go_wp2_with (fail)
  refine (CX.out _ HU2.out).mono ?_
  rintro e w3 ⟨rfl, hu3, ho3⟩
  have HU3 : Hid (Up w w3) := (HU2.out).trans hu3
  have HK3 : Hid (Own w3 w.heap.size 27 (cxs tab)) := Own.up HK2.out hu3
  have HA3 : Hid (Own w3 w1.heap.size 27 (cxs xs)) := Own.up HA2.out hu3
  have HB3 : Hid (Own w3 w2.heap.size 27 (cxs xs)) := ho3
  have hb2 : Hid (w1.heap.size < w2.heap.size) := (HA2.out).lt
  clear hu3 ho3 HU2 HK2 HA2
  go_wp2_with (fail)
  refine (CX.out _ HU3.out).mono ?_
  rintro e w4 ⟨rfl, hu4, ho4⟩
  have HU4 : Hid (Up w w4) := (HU3.out).trans hu4
  have HK4 : Hid (Own w4 w.heap.size 27 (cxs tab)) := Own.up HK3.out hu4
  have HA4 : Hid (Own w4 w1.heap.size 27 (cxs xs)) := Own.up HA3.out hu4
  have HB4 : Hid (Own w4 w2.heap.size 27 (cxs xs)) := Own.up HB3.out hu4
  have HC4 : Hid (Own w4 w3.heap.size 27 (cxs xs)) := ho4
  have hb3 : Hid (w2.heap.size < w3.heap.size) := (HB3.out).lt
  have HB : Hid (w.heap.size < w1.heap.size ∧ w1.heap.size < w2.heap.size ∧ w2.heap.size < w3.heap.size) := ⟨hb1.out, hb2.out, hb3.out⟩
  clear hu4 ho4 HU3 HK3 HA3 HB3 CX hb1 hb2 hb3
  go_wp2_with (fail)
  refine (CS.out w4 w1.heap.size HU4.out (by have := HB.out; omega) HA4.out).mono ?_
  rintro e w5 ⟨rfl, hm5, ys1, hl1, ho5, hy1⟩
  have HU5 : Hid (Up w w5) := (HU4.out).ofMod hm5 (by have := HB.out; omega)
  have HK5 : Hid (Own w5 w.heap.size 27 (cxs tab)) := Own.mod HK4.out hm5 (by have := HB.out; omega)
  have HA5 : Hid (Own w5 w1.heap.size 27 (cxs ys1)) := ho5
  have HB5 : Hid (Own w5 w2.heap.size 27 (cxs xs)) := Own.mod HB4.out hm5 (by have := HB.out; omega)
  have HC5 : Hid (Own w5 w3.heap.size 27 (cxs xs)) := Own.mod HC4.out hm5 (by have := HB.out; omega)
  have HY1 : Hid (ys1.length = n ∧ ∀ i, i < n → clsC (zat ys1 i) = S i) := ⟨hl1, hy1⟩
  clear hm5 hl1 ho5 hy1 HU4 HK4 HA4 HB4 HC4 CS
  go_wp2_with (fail)
  refine (CO.out w5 w2.heap.size HU5.out (by have := HB.out; omega) HB5.out).mono ?_
  rintro e w6 ⟨rfl, hm6, ys2, hl2, ho6, hy2⟩
  have HU6 : Hid (Up w w6) := (HU5.out).ofMod hm6 (by have := HB.out; omega)
  have HK6 : Hid (Own w6 w.heap.size 27 (cxs tab)) := Own.mod HK5.out hm6 (by have := HB.out; omega)
  have HA6 : Hid (Own w6 w1.heap.size 27 (cxs ys1)) := Own.mod HA5.out hm6 (by have := HB.out; omega)
  have HB6 : Hid (Own w6 w2.heap.size 27 (cxs ys2)) := ho6
  have HC6 : Hid (Own w6 w3.heap.size 27 (cxs xs)) := Own.mod HC5.out hm6 (by have := HB.out; omega)
  have HY2 : Hid (ys2.length = n ∧ ∀ i, i < n → clsC (zat ys2 i) = F i) := ⟨hl2, hy2⟩
  clear hm6 hl2 ho6 hy2 HU5 HK5 HA5 HB5 HC5 CO
  go_wp2_with (fail)
  refine (CI.out w6 w3.heap.size HU6.out (by have := HB.out; omega) HC6.out).mono ?_
  rintro e w7 ⟨rfl, hm7, ys3, hl3, ho7, hy3⟩
  have HU7 : Hid (Up w w7) := (HU6.out).ofMod hm7 (by have := HB.out; omega)
  have HK7 : Hid (Own w7 w.heap.size 27 (cxs tab)) := Own.mod HK6.out hm7 (by have := HB.out; omega)
  have HA7 : Hid (Own w7 w1.heap.size 27 (cxs ys1)) := Own.mod HA6.out hm7 (by have := HB.out; omega)
  have HB7 : Hid (Own w7 w2.heap.size 27 (cxs ys2)) := Own.mod HB6.out hm7 (by have := HB.out; omega)
  have HC7 : Hid (Own w7 w3.heap.size 27 (cxs ys3)) := ho7
  have HY3 : Hid (ys3.length = n ∧ ∀ i, i < n → clsC (zat ys3 i) = I i) := ⟨hl3, hy3⟩
  clear hm7 hl3 ho7 hy3 HU6 HK6 HA6 HB6 HC6 CI
  go_wp2_with (fail)
  refine (CD.out w7 HU7.out).mono ?_
  rintro e w8 ⟨B, rfl, hu8⟩
  have HU8 : Hid (Up w w8) := (HU7.out).trans hu8
  have HR8 : Hid (Own w8 w.heap.size 27 (cxs tab) ∧ Own w8 w1.heap.size 27 (cxs ys1) ∧ Own w8 w2.heap.size 27 (cxs ys2) ∧ Own w8 w3.heap.size 27 (cxs ys3)) := ⟨Own.up HK7.out hu8, Own.up HA7.out hu8, Own.up HB7.out hu8, Own.up HC7.out hu8⟩
  clear hu8 HU7 HK7 HA7 HB7 HC7 CD
  have C1 : Hid (Calls Tabg.prog 108 #[.slice (some ⟨bt, ot, none⟩) h ct, .int .i64 t] w8 fun e w'' => (∃ p q, e = .returned (.complex .f64 p q)) ∧ w8 = w'') := CW.out w8 t HU8.out (by omega) (by omega)
  have C2 : Hid (Calls Tabg.prog 108 #[.slice (some ⟨bt, ot, none⟩) h ct, .int .i64 (-1)] w8 fun e w'' => (∃ p q, e = .returned (.complex .f64 p q)) ∧ w8 = w'') := CW.out w8 (-1) HU8.out (by omega) (by omega)
  have C3 : Hid (Calls Tabg.prog 108 #[.slice (some ⟨bt, ot, none⟩) h ct, .int .i64 (2 * (h : Int))] w8 fun e w'' => (∃ p q, e = .returned (.complex .f64 p q)) ∧ w8 = w'') := CW.out w8 (2 * (h : Int)) HU8.out (by omega) (by omega)
  clear CW
  have hhI : (h : Int) ≤ 2048 := by omega
  go_wp2_with (fail)
  refine (C1.out).mono ?_
  rintro e w' ⟨⟨p1, q1, rfl⟩, rfl⟩
  go_wp2_with (fail)
  refine (C2.out).mono ?_
  rintro e w' ⟨⟨p2, q2, rfl⟩, rfl⟩
  go_wp2_with (fail)
  refine (C3.out).mono ?_
  rintro e w' ⟨⟨p3, q3, rfl⟩, rfl⟩
  clear C1 C2 C3
  go_wp2_with (fail)
  go_loopw [15] (fun u wr => ∃ i : Nat, u = .int .i64 i ∧ i ≤ h ∧ Hid (Up w8 wr)) (fun u _ => h - (intOf u).toNat)
  case atStart => exact ⟨0, rfl, by omega, Up.refl _⟩
  case round =>
    obtain ⟨i, rfl, hi, HUr⟩ := hrel
    by_cases hlt : i < h
    · obtain ⟨b', off', eb, c1⟩ := (HT.out).2 i (by rw [← (HT.out).1]; exact hlt)
      cases eb
      replace c1 := (HUr.out).cell ((HU8.out).cell c1)
      have c2 := (HUr.out).cell (Own.cx HR8.out.1 (i := i) (by rw [← (HT.out).1]; exact hlt))
      generalize zat tab i = z at *
      obtain ⟨z1, z2⟩ := z
      have cA := fun w => lf (b64_any z1 w)
      have cB := fun w => lf (b64_any z2 w)
      have cC := fun w => lf (bitsC_self z1 z2 w)
      have i0 : (0 : Int) ≤ (i : Int) := by omega
      have im : (i : Int) < (h : Int) := by omega
      go_upto_region 13 with fail
      go_quiet (first | (go_at_call 44; first | exact Calls.quiet_of_same (cA _) | exact Calls.quiet_of_same (cB _)) | (go_at_call 109; exact Calls.quiet_of_same (cC _)))
      clear cA cB cC
      go_wp2_with (fail)
      go_roundw
      case rel => exact ⟨i + 1, by go_num, by omega, (HUr.out).drewN _⟩
      case measure => simp [intOf]; omega
    · obtain rfl : h = i := by omega
      have HUW : Hid (Up w wr) := (HU8.out).trans HUr.out
      have HR : Hid (Own wr w1.heap.size 27 (cxs ys1) ∧ Own wr w2.heap.size 27 (cxs ys2) ∧ Own wr w3.heap.size 27 (cxs ys3)) := ⟨Own.up HR8.out.2.1 HUr.out, Own.up HR8.out.2.2.1 HUr.out, Own.up HR8.out.2.2.2 HUr.out⟩
      clear HUr HR8 HU8
      go_wp2_with (fail)
      refine (lcut2 n wr (by omega)).mono ?_
      rintro e w' ⟨rfl, (⟨hn0, rfl⟩ | ⟨kk, k1, k2, k3, rfl⟩)⟩
      · exact absurd hn0 (by rw [HN.out.1]; decide)
      · have hk0 : kk = 0 := by
          have hn1 := HN.out.1
          rw [hn1] at k2
          cases kk with
          | zero => rfl
          | succ m => have := Nat.pow_le_pow_right (n := 2) (by decide) (show 1 ≤ m + 1 by omega); omega
        subst hk0
        have CA : Hid (∀ w', Up wr w' → Calls Tabg.prog 110 #[.slice (some ⟨w1.heap.size, 0, none⟩) n n, .slice (some ⟨bx, ox, none⟩) n cx] w' fun e w'' => e = .returned (.bool true) ∧ Up w' w'') := fun w' hu =>
          allSameC_yes _ _ n n cx ys1 xs w' (rdC_len HR.out.1 HY1.out.1 hu) ((HX.out).up ((HUW.out).trans hu)) (by omega) (clsL_ext HY1.out.1 (HX.out).1.symm (fun i hi => by rw [HY1.out.2 i hi, HE.out.1 i hi]))
        have CB : Hid (∀ w', Up wr w' → Calls Tabg.prog 110 #[.slice (some ⟨w2.heap.size, 0, none⟩) n n, .slice (some ⟨bx, ox, none⟩) n cx] w' fun e w'' => e = .returned (.bool true) ∧ Up w' w'') := fun w' hu =>
          allSameC_yes _ _ n n cx ys2 xs w' (rdC_len HR.out.2.1 HY2.out.1 hu) ((HX.out).up ((HUW.out).trans hu)) (by omega) (clsL_ext HY2.out.1 (HX.out).1.symm (fun i hi => by rw [HY2.out.2 i hi, HE.out.2.1 i hi]))
        have CC : Hid (∀ w', Up wr w' → Calls Tabg.prog 110 #[.slice (some ⟨w3.heap.size, 0, none⟩) n n, .slice (some ⟨bx, ox, none⟩) n cx] w' fun e w'' => e = .returned (.bool true) ∧ Up w' w'') := fun w' hu =>
          allSameC_yes _ _ n n cx ys3 xs w' (rdC_len HR.out.2.2 HY3.out.1 hu) ((HX.out).up ((HUW.out).trans hu)) (by omega) (clsL_ext HY3.out.1 (HX.out).1.symm (fun i hi => by rw [HY3.out.2 i hi, HE.out.2.2 i hi]))
        have hn1 := HN.out.1
        have hh0 := HN.out.2
        have a2 : decide ((h : Int) = 0) = true := decide_eq_true (by omega)
        have a2' : decide (h = 0) = true := decide_eq_true (by omega)
        have a3 : decide ((n : Int) = 1) = true := decide_eq_true (by omega)
        have a3' : decide (n = 1) = true := decide_eq_true (by omega)
        have b2 : ((h : Int) == 0) = true := by simp; omega
        have b3 : ((n : Int) == 1) = true := by simp; omega
        clear k1 k2 k3 hn1 hh0
        go_wp2_with (fail)
        refine (CA.out _ (Up.refl _)).mono ?_
        rintro e v1 ⟨rfl, u1⟩
        have V1 : Hid (Up wr v1) := u1
        clear u1
        go_wp2_with (fail)
        refine (CB.out _ V1.out).mono ?_
        rintro e v2 ⟨rfl, u2⟩
        have V2 : Hid (Up wr v2) := (V1.out).trans u2
        clear u2
        go_wp2_with (fail)
        refine (CC.out _ V2.out).mono ?_
        rintro e v3 ⟨rfl, u3⟩
        have V3 : Hid (Up wr v3) := (V2.out).trans u3
        clear u3
        go_wp2_with (fail)
        go_ret
        exact ⟨rfl, (HUW.out).trans V3.out⟩

end Go.Proofs.Ygctab
