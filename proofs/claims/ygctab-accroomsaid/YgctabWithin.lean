import Derived.Test.YgctabProd
namespace Go.Proofs.Ygctab
open Go.RowKit
set_option linter.unusedVariables false
set_option linter.unusedSimpArgs false
set_option exponentiation.threshold 6000

/-- The magnitude is at most n * 2^2048. -/
def inB (n : Nat) (v : Int) : Bool := decide (-((n : Int) * 2 ^ 4196) ≤ v) && decide (v ≤ (n : Int) * 2 ^ 4196)
theorem sgn_le (z : Int) : sgn z ≤ 0 ↔ z ≤ 0 := by unfold sgn; split <;> (try split) <;> omega
theorem sgn_range (z : Int) : -1 ≤ sgn z ∧ sgn z ≤ 1 := by unfold sgn; split <;> (try split) <;> omega

theorem half_eq : Half = 2 ^ 4351 := by
  unfold Half
  rw [W_eq]; decide
theorem w68_eq : W ^ 68 = 2 ^ 4352 := by rw [W_eq]; decide
/-- A number of that range is told by its remainder. -/
theorem sv_mod {z : Int} (h0 : -Half ≤ z) (h1 : z < Half) : sv (z % W ^ 68) = z := by
  have hh := half_two
  unfold sv
  by_cases hz : 0 ≤ z
  · rw [Int.emod_eq_of_lt hz (by omega), if_pos h1]
  · have e : z % W ^ 68 = z + W ^ 68 := by
      rw [← Int.add_emod_right, Int.emod_eq_of_lt (by omega) (by omega)]
    rw [e, if_neg (by omega)]
    omega
theorem room_half {n : Nat} (hn : n < 4294967296) : 0 ≤ (n : Int) * 2 ^ 4196 ∧ (n : Int) * 2 ^ 4196 < Half := by
  have h1 : (0 : Int) < 2 ^ 4196 := ipow_pos _
  refine ⟨Int.mul_nonneg (by omega) (by omega), ?_⟩
  rw [half_eq]
  have h2 : (n : Int) * 2 ^ 4196 < 4294967296 * 2 ^ 4196 := Int.mul_lt_mul_of_pos_right (by omega) h1
  refine Int.lt_of_lt_of_le h2 ?_
  decide
theorem sv_room {n : Nat} (hn : n < 4294967296) : sv ((n : Int) * 2 ^ 4196 % W ^ 68) = (n : Int) * 2 ^ 4196 := by
  have := room_half hn
  exact sv_mod (by omega) this.2
theorem sv_negroom {n : Nat} (hn : n < 4294967296) : sv (-((n : Int) * 2 ^ 4196) % W ^ 68) = -((n : Int) * 2 ^ 4196) := by
  have := room_half hn
  exact sv_mod (by omega) (by omega)
theorem room_num {n : Nat} (hn : n < 4294967296) : (n : Int) * 2 ^ 4196 % W ^ 68 = (n : Int) * 2 ^ 4196 := by
  have := room_half hn
  have hh := half_two
  exact Int.emod_eq_of_lt this.1 (by omega)

theorem zero40_list : Tabg.zeroCells40.toList = ints .u64 (List.replicate 68 0) := by kernel_rfl
theorem num_place : num ((List.replicate 68 (0 : Int)).set 65 68719476736) = 2 ^ 4196 := by
  rw [num_set (by simp), num_zeros, W_eq]
  simp only [List.getElem?_replicate]
  decide

set_option maxRecDepth 100000 in
set_option maxHeartbeats 1600000 in
theorem accWithin_any (b n : Nat) (hn : n < 4294967296) (xs : List Int) (w : World) (h : AccAt w b xs) :
    Calls Tabg.prog 23 #[.pointer (some ⟨b, 0, none⟩), .int .u32 n] w fun e w' => e = .returned (.bool (inB n (sv (num xs)))) ∧ Up w w' := by
  have hA0 := AccAt.zero' w
  have c0 : (w.alloc (.cells Tabg.zeroCells40 40)).cell? ⟨w.heap.size, 65, none⟩ = some (.int .u64 0) := hA0.own.int (i := 65) (by simp)
  have f0 := hA0.own.free 65
  have hA1 : Hid (AccAt (w.alloc (.cells (Tabg.zeroCells40.setIfInBounds 65 (.int .u64 68719476736)) 40)) w.heap.size ((List.replicate 68 0).set 65 68719476736)) := by
    refine ⟨?_, by rw [List.length_set]; rfl, hA0.words.set _ _ (by decide) (by decide)⟩
    have := Own.new w 40 (Tabg.zeroCells40.setIfInBounds 65 (.int .u64 68719476736))
    rw [Array.toList_setIfInBounds, zero40_list, ints_set] at this
    exact this
  have hU1 : Hid (Up w (w.alloc (.cells (Tabg.zeroCells40.setIfInBounds 65 (.int .u64 68719476736)) 40))) := (Up.refl w).alloc _
  have HB : Hid (AccAt w b xs) := h
  have hbl := h.lt
  clear h hA0
  go_enter Tabg.func23, Tabg.ntmps23
  go_wp2_with (fail)
  refine (accMulSmall_any w.heap.size n _ _ hA1.out (by omega) (by omega)).mono ?_
  rintro e w1 ⟨rfl, hm, ys, hy, hyv⟩
  rw [num_place, Int.mul_comm, room_num hn] at hyv
  have HY : Hid (AccAt w1 w.heap.size ys) := hy
  have HV : Hid (num ys = (n : Int) * 2 ^ 4196) := hyv
  have HU : Hid (Up w w1) := Up.ofMod hU1.out hm (Nat.le_refl _)
  have HB1 : Hid (AccAt w1 b xs) := AccAt.up HB.out HU.out
  have hs1 : w.heap.size < w1.heap.size := hy.lt
  clear hy hyv hm hU1 hA1 HB c0 f0
  have hZ : Hid (AccAt (w1.alloc (.cells Tabg.zeroCells40 40)) w1.heap.size (List.replicate 68 0)) := AccAt.zero' w1
  go_wp2_with (first | (refine wpList_load40 rfl _ rfl w.heap.size rfl ys HY.out ?_) | (refine wpList_store40 rfl _ _ rfl w1.heap.size rfl ys rfl (AccAt.len HY.out) _ hZ.out ?_))
  have HC : Hid (AccAt (setAcc (w1.alloc (.cells Tabg.zeroCells40 40)) w1.heap.size ys) w1.heap.size ys) := AccAt.setAcc hZ.out (AccAt.len HY.out) (AccAt.words HY.out)
  have HU2 : Hid (Up w1 (setAcc (w1.alloc (.cells Tabg.zeroCells40 40)) w1.heap.size ys)) := Up.ofMod ((Up.refl w1).alloc _) ((Mod.refl _ _).setAcc ys) (Nat.le_refl _)
  generalize setAcc (w1.alloc (.cells Tabg.zeroCells40 40)) w1.heap.size ys = w2 at *
  refine (accNeg_any w1.heap.size ys w2 HC.out).mono ?_
  rintro e w3 ⟨rfl, hm, zs, hz, hzv⟩
  have HU3 : Hid (Up w1 w3) := Up.ofMod HU2.out hm (Nat.le_refl _)
  have HA3 : Hid (AccAt w3 b xs) := AccAt.up HB1.out HU3.out
  have HY3 : Hid (AccAt w3 w.heap.size ys) := AccAt.up HY.out HU3.out
  have HZ3 : Hid (AccAt w3 w1.heap.size zs) := hz
  have HU03 : Hid (Up w w3) := HU.out.trans HU3.out
  have hc1 : Hid (sgn (sv (num zs) - sv (num xs)) ≤ 0 ↔ -((n : Int) * 2 ^ 4196) ≤ sv (num xs)) := by
    show _ ↔ _
    rw [sgn_le, hzv, HV.out, sv_negroom hn]; omega
  have hc2 : Hid (sgn (sv (num xs) - sv (num ys)) ≤ 0 ↔ sv (num xs) ≤ (n : Int) * 2 ^ 4196) := by
    show _ ↔ _
    rw [sgn_le, HV.out, ← room_num hn, sv_room hn, room_num hn]; omega
  clear hz hm hzv HU2 HC hZ HY HU HB1 HU3 HV
  generalize w1.heap.size = b6 at *
  go_wp2_with (fail)
  refine (accCmp_any b6 b zs xs w3 HZ3.out HA3.out).mono ?_
  rintro e w4 ⟨rfl, hu4⟩
  have HA4 : Hid (AccAt w4 b xs) := AccAt.up HA3.out hu4
  have HY4 : Hid (AccAt w4 w.heap.size ys) := AccAt.up HY3.out hu4
  have HU4 : Hid (Up w w4) := HU03.out.trans hu4
  have c2 := accCmp_any b w.heap.size xs ys w4 HA4.out HY4.out
  have C2 : Hid (Calls Tabg.prog 32 #[.pointer (some ⟨b, 0, none⟩), .pointer (some ⟨w.heap.size, 0, none⟩)] w4 fun e w' => e = .returned (.int .i8 (sgn (sv (num xs) - sv (num ys)))) ∧ Up w4 w') := c2
  clear hu4 HZ3 HA3 HY3 HU03 c2 HA4 HY4
  have HI : Hid (inB n (sv (num xs)) = (decide (sgn (sv (num zs) - sv (num xs)) ≤ 0) && decide (sgn (sv (num xs) - sv (num ys)) ≤ 0))) := by
    show _ = _
    unfold inB
    rw [decide_eq_decide.2 hc1.out, decide_eq_decide.2 hc2.out]
  clear hc1 hc2
  generalize sgn (sv (num zs) - sv (num xs)) = g1 at *
  generalize sgn (sv (num xs) - sv (num ys)) = g2 at *
  by_cases h1 : g1 ≤ 0
  · by_cases h2 : g2 ≤ 0
    · go_wp2_with (fail)
      refine Calls.mono C2.out ?_
      rintro e w5 ⟨rfl, hu5⟩
      have HU5 : Hid (Up w w5) := HU4.out.trans hu5
      clear hu5 C2 HU4
      go_wp2
      go_ret
      exact ⟨ret_bool (by rw [HI.out, decide_eq_true h1, decide_eq_true h2]; rfl), HU5.out⟩
    · have h2' : decide (g2 ≤ 0) = false := decide_eq_false h2
      go_wp2_with (fail)
      refine Calls.mono C2.out ?_
      rintro e w5 ⟨rfl, hu5⟩
      have HU5 : Hid (Up w w5) := HU4.out.trans hu5
      clear hu5 C2 HU4
      go_wp2
      go_ret
      exact ⟨ret_bool (by rw [HI.out, decide_eq_true h1, h2']; rfl), HU5.out⟩
  · have h1' : decide (g1 ≤ 0) = false := decide_eq_false h1
    go_wp2_with (fail)
    go_ret
    exact ⟨ret_bool (by rw [HI.out, h1']; rfl), HU4.out⟩
end Go.Proofs.Ygctab
