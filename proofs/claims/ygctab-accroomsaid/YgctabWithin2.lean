import Derived.Test.YgctabWithin
namespace Go.Proofs.Ygctab
open Go.RowKit
set_option linter.unusedVariables false
set_option linter.unusedSimpArgs false
set_option exponentiation.threshold 6000

set_option maxRecDepth 100000 in
set_option maxHeartbeats 1600000 in
theorem within_any (b n : Nat) (hn : n < 4294967296) (xs : List Int) (w : World) (h : AccAt w b xs) :
    Calls Tabg.prog 24 #[.pointer (some ⟨b, 0, none⟩), .int .u32 n] w fun e w' => e = .returned (.bool (inB n (sv (num xs)))) ∧ Up w w' := by
  have HB : Hid (AccAt w b xs) := h
  clear h
  go_enter Tabg.func24, Tabg.ntmps24
  go_wp2_with (fail)
  refine (roomOf_any n hn w).mono ?_
  rintro e w0 ⟨ys, rfl, hyl, hyw, hyv, hu0⟩
  have HR : Hid (Row ys) := ⟨hyl, hyw⟩
  have HV : Hid (num ys = (n : Int) * 2 ^ 4196) := hyv
  have HU0 : Hid (Up w w0) := hu0
  clear hyl hyw hyv hu0
  have hZ : Hid (AccAt (w0.alloc (.cells Tabg.zeroCells40 40)) w0.heap.size (List.replicate 68 0)) := AccAt.zero' w0
  have HY0 : Hid (AccAt (setAcc (w0.alloc (.cells Tabg.zeroCells40 40)) w0.heap.size ys) w0.heap.size ys) := AccAt.setAcc hZ.out HR.out.1 HR.out.2
  have HU1 : Hid (Up w0 (setAcc (w0.alloc (.cells Tabg.zeroCells40 40)) w0.heap.size ys)) := Up.ofMod ((Up.refl w0).alloc _) ((Mod.refl _ _).setAcc ys) (Nat.le_refl _)
  go_wp2_with (first | (refine wpList_store40 rfl _ _ rfl w0.heap.size rfl ys rfl HR.out.1 _ hZ.out ?_) | (refine wpList_load40 rfl _ rfl w0.heap.size rfl ys HY0.out ?_))
  generalize setAcc (w0.alloc (.cells Tabg.zeroCells40 40)) w0.heap.size ys = w1 at *
  have HUW : Hid (Up w w1) := HU0.out.trans HU1.out
  generalize w0.heap.size = b5 at *
  clear hZ HU1 HU0
  refine (negV_any ys w1 HR.out).mono ?_
  rintro e w2 ⟨zs, rfl, hzr, hzv, hu2⟩
  have HZR : Hid (Row zs) := hzr
  have HU2 : Hid (Up w1 w2) := hu2
  have HY2 : Hid (AccAt w2 b5 ys) := AccAt.up HY0.out hu2
  have hc1 : Hid (sgn (sv (num zs) - sv (num xs)) ≤ 0 ↔ -((n : Int) * 2 ^ 4196) ≤ sv (num xs)) := by
    show _ ↔ _
    rw [sgn_le, hzv, HV.out, sv_negroom hn]; omega
  have hc2 : Hid (sgn (sv (num xs) - sv (num ys)) ≤ 0 ↔ sv (num xs) ≤ (n : Int) * 2 ^ 4196) := by
    show _ ↔ _
    rw [sgn_le, HV.out, ← room_num hn, sv_room hn, room_num hn]; omega
  clear hzr hzv hu2 HY0 HV
  have hZ2 : Hid (AccAt (w2.alloc (.cells Tabg.zeroCells40 40)) w2.heap.size (List.replicate 68 0)) := AccAt.zero' w2
  have HZ3 : Hid (AccAt (setAcc (w2.alloc (.cells Tabg.zeroCells40 40)) w2.heap.size zs) w2.heap.size zs) := AccAt.setAcc hZ2.out HZR.out.1 HZR.out.2
  have HU23 : Hid (Up w2 (setAcc (w2.alloc (.cells Tabg.zeroCells40 40)) w2.heap.size zs)) := Up.ofMod ((Up.refl w2).alloc _) ((Mod.refl _ _).setAcc zs) (Nat.le_refl _)
  go_wp2_with (first | (refine wpList_store40 rfl _ _ rfl w2.heap.size rfl zs rfl HZR.out.1 _ hZ2.out ?_))
  generalize setAcc (w2.alloc (.cells Tabg.zeroCells40 40)) w2.heap.size zs = w3 at *
  generalize w2.heap.size = b6 at *
  have HU03 : Hid (Up w w3) := HUW.out.trans (HU2.out.trans HU23.out)
  have HA3 : Hid (AccAt w3 b xs) := AccAt.up HB.out HU03.out
  have HY3 : Hid (AccAt w3 b5 ys) := AccAt.up HY2.out HU23.out
  clear hZ2 HUW HU2 HU23 HY2 HB
  refine (order_any b6 b zs xs w3 HZ3.out HA3.out).mono ?_
  rintro e w4 ⟨rfl, hu4⟩
  have HA4 : Hid (AccAt w4 b xs) := AccAt.up HA3.out hu4
  have HY4 : Hid (AccAt w4 b5 ys) := AccAt.up HY3.out hu4
  have HU4 : Hid (Up w w4) := HU03.out.trans hu4
  have c2 := order_any b b5 xs ys w4 HA4.out HY4.out
  have C2 : Hid (Calls Tabg.prog 96 #[.pointer (some ⟨b, 0, none⟩), .pointer (some ⟨b5, 0, none⟩)] w4 fun e w' => e = .returned (.int .i8 (sgn (sv (num xs) - sv (num ys)))) ∧ Up w4 w') := c2
  clear hu4 HZ3 HA3 HY3 HU03 c2 HA4 HY4
  have HI : Hid (inB n (sv (num xs)) = (decide (sgn (sv (num zs) - sv (num xs)) ≤ 0) && decide (sgn (sv (num xs) - sv (num ys)) ≤ 0))) := by
    show _ = _
    unfold inB
    rw [decide_eq_decide.2 hc1.out, decide_eq_decide.2 hc2.out]
  clear hc1 hc2
  generalize sgn (sv (num zs) - sv (num xs)) = g1 at *
  generalize sgn (sv (num xs) - sv (num ys)) = g2 at *
  by_cases h1 : g1 ≤ 0
  · by_cases h2 : g2 ≤ 0
    · go_wp2_with (fail)
      refine Calls.mono C2.out ?_
      rintro e w5 ⟨rfl, hu5⟩
      have HU5 : Hid (Up w w5) := HU4.out.trans hu5
      clear hu5 C2 HU4
      go_wp2
      go_ret
      exact ⟨ret_bool (by rw [HI.out, decide_eq_true h1, decide_eq_true h2]; rfl), HU5.out⟩
    · have h2' : decide (g2 ≤ 0) = false := decide_eq_false h2
      go_wp2_with (fail)
      refine Calls.mono C2.out ?_
      rintro e w5 ⟨rfl, hu5⟩
      have HU5 : Hid (Up w w5) := HU4.out.trans hu5
      clear hu5 C2 HU4
      go_wp2
      go_ret
      exact ⟨ret_bool (by rw [HI.out, decide_eq_true h1, h2']; rfl), HU5.out⟩
  · have h1' : decide (g1 ≤ 0) = false := decide_eq_false h1
    go_wp2_with (fail)
    go_ret
    exact ⟨ret_bool (by rw [HI.out, h1']; rfl), HU4.out⟩

theorem neg_emod_emod' (s m : Int) : -(s % m) % m = (-s) % m := by
  have e : -(s % m) = -s + m * (s / m) := by have := Int.emod_add_mul_ediv s m; omega
  rw [e, Int.add_mul_emod_self_left]
theorem num_sv {n : Int} (h0 : 0 ≤ n) (h1 : n < W ^ 68) : n = sv n % W ^ 68 := by
  unfold sv
  split
  · rw [Int.emod_eq_of_lt h0 h1]
  · rw [← Int.add_emod_right, Int.sub_add_cancel, Int.emod_eq_of_lt h0 h1]

set_option maxRecDepth 100000 in
set_option maxHeartbeats 800000 in
theorem accAbs_any (b : Nat) (xs : List Int) (w : World) (h : AccAt w b xs) :
    Calls Tabg.prog 28 #[.pointer (some ⟨b, 0, none⟩)] w fun e w' => e = .returned (.tuple #[]) ∧ Mod b w w' ∧ ∃ ys, AccAt w' b ys ∧ num ys = ((sv (num xs)).natAbs : Int) % W ^ 68 := by
  have hr := h.range
  have hsv := num_sv hr.1 hr.2
  by_cases h0 : sv (num xs) < 0
  · have hs : sgn (sv (num xs)) = -1 := by unfold sgn; rw [if_pos h0]
    have c1 := accSign_any b xs w h
    rw [hs] at c1
    have c2 := accNeg_any b xs w h
    have C1 : Hid (Calls Tabg.prog 33 #[.pointer (some ⟨b, 0, none⟩)] w fun e w' => e = .returned (.int .i8 (-1)) ∧ w = w') := c1
    have C2 : Hid (Calls Tabg.prog 95 #[.pointer (some ⟨b, 0, none⟩)] w fun e w' => e = .returned (.tuple #[]) ∧ Mod b w w' ∧ ∃ ys, AccAt w' b ys ∧ num ys = (-num xs) % W ^ 68) := c2
    have HE : Hid ((-num xs) % W ^ 68 = ((sv (num xs)).natAbs : Int) % W ^ 68) := by
      show _ = _
      rw [show ((sv (num xs)).natAbs : Int) = -sv (num xs) by omega]
      conv => lhs; rw [hsv]
      exact neg_emod_emod' _ _
    clear c1 c2 hr hsv h0 hs h
    go_enter Tabg.func28, Tabg.ntmps28
    go_wp2_with (fail)
    refine Calls.mono C1.out ?_
    rintro e w' ⟨rfl, rfl⟩
    go_wp2_with (fail)
    refine Calls.mono C2.out ?_
    rintro e w' ⟨rfl, hm, ys, hy, hyv⟩
    have HP : Hid (Mod b w w' ∧ ∃ ys, AccAt w' b ys ∧ num ys = ((sv (num xs)).natAbs : Int) % W ^ 68) := ⟨hm, ys, hy, by rw [hyv, HE.out]⟩
    clear hm hy hyv C1 C2 HE
    go_wp2
    go_end0
    exact ⟨rfl, HP.out⟩
  · have hs : ¬ sgn (sv (num xs)) < 0 := by unfold sgn; rw [if_neg h0]; split <;> decide
    have c1 := accSign_any b xs w h
    have C1 : Hid (Calls Tabg.prog 33 #[.pointer (some ⟨b, 0, none⟩)] w fun e w' => e = .returned (.int .i8 (sgn (sv (num xs)))) ∧ w = w') := c1
    have HP : Hid (Mod b w w ∧ ∃ ys, AccAt w b ys ∧ num ys = ((sv (num xs)).natAbs : Int) % W ^ 68) := ⟨Mod.refl _ _, xs, h, by
      rw [show ((sv (num xs)).natAbs : Int) = sv (num xs) by omega]; exact hsv⟩
    have hs' : decide (sgn (sv (num xs)) < 0) = false := decide_eq_false hs
    clear c1 hr hsv h0 h
    generalize sgn (sv (num xs)) = g at *
    go_enter Tabg.func28, Tabg.ntmps28
    go_wp2_with (fail)
    refine Calls.mono C1.out ?_
    rintro e w' ⟨rfl, rfl⟩
    go_wp2
    go_end0
    exact ⟨rfl, HP.out⟩

set_option maxRecDepth 100000 in
set_option maxHeartbeats 800000 in
theorem stays_any (n : Nat) (hn : n < 4294967296) (xs : List Int) (h : Row xs) (w : World) :
    Calls Tabg.prog 31 #[accV xs, .int .u32 n] w fun e w' => e = .returned (.bool (inB n (sv (num xs)))) ∧ Up w w' := by
  have hA : Hid (AccAt (w.alloc (.cells (ints .u64 xs).toArray 40)) w.heap.size xs) := AccAt.box w h
  have hu : Hid (Up w (w.alloc (.cells (ints .u64 xs).toArray 40))) := (Up.refl w).alloc _
  unfold accV
  go_enter Tabg.func31, Tabg.ntmps31
  go_wp2_with (fail)
  refine (within_any w.heap.size n hn xs _ hA.out).mono ?_
  rintro e w1 ⟨rfl, hu1⟩
  have C2 : Hid (Calls Tabg.prog 23 #[.pointer (some ⟨w.heap.size, 0, none⟩), .int .u32 n] w1 fun e w' => e = .returned (.bool (inB n (sv (num xs)))) ∧ Up w1 w') := accWithin_any w.heap.size n hn xs w1 (AccAt.up hA.out hu1)
  have HU1 : Hid (Up w w1) := hu.out.trans hu1
  clear hu1 hA hu h
  generalize hG : inB n (sv (num xs)) = g at *
  have HG : Hid (g = inB n (sv (num xs))) := hG.symm
  clear hG
  cases g
  · go_wp2_with (fail)
    go_ret
    exact ⟨ret_bool HG.out, HU1.out⟩
  · go_wp2_with (fail)
    refine Calls.mono C2.out ?_
    rintro e w2 ⟨rfl, hu2⟩
    have HU2 : Hid (Up w w2) := HU1.out.trans hu2
    clear hu2 C2 HU1
    go_wp2
    go_ret
    exact ⟨ret_bool HG.out, HU2.out⟩
end Go.Proofs.Ygctab
