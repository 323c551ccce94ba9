import Derived.Test.YgctabDoorCheckB
namespace Go.Proofs.YgctabDoor
open Go.RowKit
set_option linter.unusedVariables false
set_option linter.unusedSimpArgs false
set_option exponentiation.threshold 6000

theorem magsL_append : ∀ (xs ys : List Nat), magsL (xs ++ ys) = magsL xs + magsL ys
  | [], ys => by simp [magsL]
  | x :: xs, ys => by rw [List.cons_append, magsL, magsL, magsL_append xs ys]; omega
theorem magsL_take {ps : List Nat} {i : Nat} (h : i < ps.length) : magsL (ps.take (i + 1)) = magsL (ps.take i) + (fval (ps[i]?.getD 0)).natAbs := by
  rw [List.take_succ_eq_append_getElem h, magsL_append, List.getElem?_eq_getElem h]
  simp [magsL]
theorem magsL_le : ∀ ps : List Nat, magsL ps ≤ ps.length * 2 ^ 2098
  | [] => by simp [magsL]
  | p :: ps => by
    have h1 := magsL_le ps
    have h2 := fval_lt p
    rw [magsL, List.length_cons, Nat.add_mul, Nat.one_mul]
    generalize 2 ^ 2098 = c at *
    generalize ps.length * c = d at *
    omega

theorem and_not_sign (p : Nat) (h : p < 18446744073709551616) : bits .andNot .u64 (p : Int) 9223372036854775808 = ((p % 9223372036854775808 : Nat) : Int) := by
  have := u64_andNot_nat p 9223372036854775808 h (by decide)
  rw [show 18446744073709551615 - 9223372036854775808 = 9223372036854775807 from rfl, show p &&& 9223372036854775807 = p % 9223372036854775808 from Nat.and_two_pow_sub_one_eq_mod p 63] at this
  exact this

theorem AccAt.zero' (w : World) : AccAt (w.alloc (.cells Z68 31)) w.heap.size (List.replicate 68 0) := by
  refine ⟨?_, by simp, words_zeros 68⟩
  have := Own.new w 31 Z68
  rw [show Z68.toList = ints .u64 (List.replicate 68 0) by rw [← ints_replicate]; kernel_rfl] at this
  exact this

theorem W68 : W ^ 68 = 2 ^ 4352 := by rw [W_eq]; decide
theorem acc_small {m : Nat} (h : m < 2 ^ 2200) : ((m : Int) * 2 ^ 1074) % W ^ 68 = (m : Int) * 2 ^ 1074 ∧ (m : Int) * 2 ^ 1074 < 2 ^ 3274 := by
  have h1 : m * 2 ^ 1074 < 2 ^ 2200 * 2 ^ 1074 := Nat.mul_lt_mul_of_pos_right h (two_pos _)
  rw [← Nat.pow_add] at h1
  have h2 : (m : Int) * 2 ^ 1074 < 2 ^ 3274 := by exact_mod_cast h1
  refine ⟨Int.emod_eq_of_lt (by exact_mod_cast Nat.zero_le _) ?_, h2⟩
  rw [W68]
  exact Int.lt_trans h2 (by decide)

theorem AccAt.room {w : World} {b : Nat} (h : AccAt w b (List.replicate 68 0)) : AccAt (w.setCell ⟨b, 49, none⟩ (.int .u64 8192)) b ((List.replicate 68 0).set 49 8192) := by
  refine ⟨h.own.setInt 49 8192, by simp, ?_⟩
  intro x hx
  rcases List.mem_or_eq_of_mem_set hx with hx | rfl
  · exact h.words x hx
  · decide

theorem room_le {m N : Nat} (hm : m < 2 ^ 2200) (hN : N ≤ 1024) {X Y : Int} (hX : X = (m : Int) * 2 ^ 1074) (hY : Y = (2 ^ 3149 * (N : Int)) % W ^ 68) :
    decide (sgn (sv X - sv Y) ≤ 0) = decide (m ≤ N * 2 ^ 2075) := by
  have h1 := (acc_small hm).2
  rw [← hX] at h1
  have e1 : (2 : Int) ^ 3149 * (N : Int) ≤ 2 ^ 3149 * 1024 := Int.mul_le_mul_of_nonneg_left (by omega) (by decide)
  have e0 : 0 ≤ (2 : Int) ^ 3149 * (N : Int) := Int.mul_nonneg (by decide) (by omega)
  have hH : (2 : Int) ^ 3274 < Half := by
    have := half_two
    rw [W68] at this
    have h2 : (2 : Int) * 2 ^ 3274 < 2 ^ 4352 := by decide
    omega
  have h3 : (2 : Int) ^ 3149 * 1024 < 2 ^ 3274 := by decide
  have hHW : Half < W ^ 68 := by rw [← half_two]; omega
  rw [Int.emod_eq_of_lt e0 (by omega)] at hY
  have hX0 : 0 ≤ X := by rw [hX]; exact Int.mul_nonneg (by omega) (by decide)
  have sX : sv X = X := by unfold sv; rw [if_pos (by omega)]
  have sY : sv Y = Y := by unfold sv; rw [if_pos (by omega)]
  rw [sX, sY]
  have hs : sgn (X - Y) ≤ 0 ↔ X ≤ Y := by unfold sgn; split <;> (try split) <;> omega
  have hk : X ≤ Y ↔ m ≤ N * 2 ^ 2075 := by
    rw [hX, hY, show (2 : Int) ^ 3149 = 2 ^ 2075 * 2 ^ 1074 by rw [← Int.pow_add], Int.mul_assoc, Int.mul_comm (2 ^ 1074) (N : Int), ← Int.mul_assoc, Int.mul_comm (2 ^ 2075) (N : Int)]
    constructor
    · intro hh
      have := Int.le_of_mul_le_mul_right hh (by decide)
      exact_mod_cast this
    · intro hh
      refine Int.mul_le_mul_of_nonneg_right ?_ (by decide)
      exact_mod_cast hh
  rw [decide_eq_decide, hs, hk]

/-- A state that may go on. -/
def chkB (N : Nat) (ps : List Nat) : Bool := decide (N ≤ 1024) && (decide (ps.length ≤ 2098) && (apartL (-5000) ps && decide (magsL ps ≤ N * 2 ^ 2075)))

theorem apartL_fin : ∀ (last : Int) (ps : List Nat), apartL last ps = true → ∀ p ∈ ps, fcls p = 1
  | _, [], _, p, hp => by simp at hp
  | last, q :: ps, h, p, hp => by
    simp only [apartL, Bool.and_eq_true, decide_eq_true_eq] at h
    rcases List.mem_cons.1 hp with rfl | hp
    · exact h.1
    · exact apartL_fin _ ps h.2.2 p hp

set_option maxRecDepth 100000 in
set_option maxHeartbeats 1600000 in
theorem check_main (a : Option Addr) (n c N : Nat) (ps : List Nat) (w : World) (h : RdU w a n c ps) (hN : N ≤ 1024) (hF : F64s ps) (hx : n ≤ 2098) (ha : apartL (-5000) ps = true) :
    Calls Tabg.prog 4 #[.agg #[.slice a n c, .int .u16 N]] w fun e w' => e = .returned (.bool (decide (magsL ps ≤ N * 2 ^ 2075))) ∧ Up w w' := by
  have hNI : (N : Int) ≤ 1024 := by omega
  have hxI : (n : Int) ≤ 2098 := by omega
  have cP := fun w' (u : Up w w') => patterns0 a n c ps w' (h.up u) (by have := h.1; omega)
  go_enter Tabg.func4, Tabg.ntmps4
  go_wp2_with (first | (go_at_call 5; refine (cP _ ((Up.refl w).alloc _)).mono ?_; rintro e w1 ⟨a', c', rfl, hrd, hu⟩) | (go_at_call 11; refine (apart_any a' n c' ps _ hrd (by unfold maxLen; omega) hF).mono ?_; rintro e w' ⟨rfl, rfl⟩) | (refine wpList_alloc _ rfl 40 rfl Z68 alloc40 ?_; simp only [Act.put, List.setIfInBounds_toArray, List.set_cons_succ, List.set_cons_zero]))
  have hA0 : AccAt ((w1.alloc (Obj.cells Z68 31)).alloc (Obj.cells Z68 31)) w1.heap.size (List.replicate 68 0) := (AccAt.zero' w1).up ((Up.refl _).alloc _)
  have hB0 : AccAt ((w1.alloc (Obj.cells Z68 31)).alloc (Obj.cells Z68 31)) (w1.heap.size + 1) (List.replicate 68 0) := by
    have := AccAt.zero' (w1.alloc (Obj.cells Z68 31))
    rwa [show (w1.alloc (Obj.cells Z68 31)).heap.size = w1.heap.size + 1 by simp] at this
  have hU1 : Up w1 ((w1.alloc (Obj.cells Z68 31)).alloc (Obj.cells Z68 31)) := ((Up.refl _).alloc _).alloc _
  have hBx : Own w1 w.heap.size 25 [Value.slice a n c, Value.int IntKind.u16 N] := (Own.new w 25 #[Value.slice a n c, Value.int IntKind.u16 N]).up hu
  have hlt1 := hBx.lt
  have hRd := h.up (((Up.refl w).alloc _).trans hu)
  have hsz : w.heap.size + 1 ≤ w1.heap.size := by have := hu.size; simpa using this
  generalize ((w1.alloc (Obj.cells Z68 31)).alloc (Obj.cells Z68 31)) = W2 at *
  obtain ⟨hn, -⟩ := h
  subst hn
  go_loopw [6] (fun t wr => ∃ (i : Nat) (xs : List Int), t = .int .i64 i ∧ i ≤ ps.length ∧ Mod w1.heap.size W2 wr ∧ AccAt wr w1.heap.size xs ∧ Hid (num xs = (magsL (ps.take i) : Int) * 2 ^ 1074)) (fun t _ => ps.length - (intOf t).toNat)
  case atStart => exact ⟨0, _, rfl, by omega, Mod.refl _ _, hA0, by show _ = _; rw [num_zeros]; simp [magsL]⟩
  case round =>
    obtain ⟨i, xs, rfl, hi, hm, hA, HV⟩ := hrel
    by_cases hlt : i < ps.length
    · obtain ⟨b, off, rfl, hc⟩ := hRd.at i hlt
      have hbl : b < w1.heap.size := cell_lt hc
      have cc := hm.cell (by show b ≠ _; omega) (hU1.cell hc)
      have cb0 : wr.cell? ⟨w.heap.size, 0, none⟩ = some (.slice (some ⟨b, off, none⟩) ps.length c) := hm.cell (by show w.heap.size ≠ _; omega) (hU1.cell (by rw [hBx.cell]; rfl))
      have hp := hF.at i
      have hcl : fcls (ps[i]?.getD 0) = 1 := apartL_fin _ ps ha _ (by rw [List.getElem?_eq_getElem hlt]; exact List.getElem_mem hlt)
      have hst := magsL_take hlt
      have hmb := magsL_le (ps.take (i + 1))
      generalize ps[i]?.getD 0 = p at *
      have han := and_not_sign p hp
      obtain ⟨v1, v2, v3⟩ := fval_abs hp
      generalize p % 9223372036854775808 = p' at *
      have cF := f64_any p'
      have cA := addFloat_yes w1.heap.size p' v3 (by omega) xs
      go_wp2_with (first | (go_at_call 13; refine (cF _).mono ?_; rintro e w' ⟨rfl, rfl⟩) | (go_at_call 12; refine (cA _ hA).mono ?_; rintro e w' ⟨rfl, hmm, ys, hY, hyv⟩))
      go_roundw
      case rel =>
        refine ⟨i + 1, ys, by go_num, by omega, hm.trans hmm, hY, ?_⟩
        show _ = _
        rw [hyv, HV.out, v1, ← Int.add_mul, hst, ← Int.natCast_add]
        refine (acc_small ?_).1
        rw [← hst]
        refine Nat.lt_of_le_of_lt hmb ?_
        have : (ps.take (i + 1)).length ≤ 4096 := by simp; omega
        exact Nat.lt_of_le_of_lt (Nat.mul_le_mul_right _ this) (by decide)
      case measure => simp [intOf]; omega
    · obtain rfl : i = ps.length := by omega
      rw [List.take_of_length_le (Nat.le_refl _)] at HV
      have hB := hB0.mod hm (by omega)
      have cb1 : wr.cell? ⟨w.heap.size, 1, none⟩ = some (.int .u16 N) := hm.cell (by show w.heap.size ≠ _; omega) (hU1.cell (by rw [hBx.cell]; rfl))
      have cB : wr.cell? ⟨w1.heap.size + 1, 49, none⟩ = some (.int .u64 0) := hB.own.int (i := 49) (by simp)
      have fB := hB.own.free 49
      have hB' := hB.room
      have HR : Hid (num ((List.replicate 68 (0 : Int)).set 49 8192) = 2 ^ 3149) := num_room
      generalize (List.replicate 68 (0 : Int)).set 49 8192 = rs at *
      have hA' : AccAt (wr.setCell ⟨w1.heap.size + 1, 49, none⟩ (.int .u64 8192)) w1.heap.size xs := ⟨hA.own.other (by show w1.heap.size ≠ w1.heap.size + 1; omega) _, hA.len, hA.words⟩
      have cM := accMulSmall_any (w1.heap.size + 1) N _ _ hB' (by omega) (by omega)
      have hN0 : (0 : Int) ≤ N := by omega
      have hne : w1.heap.size ≠ w.heap.size := by omega
      have hne2 : w1.heap.size + 1 ≠ w.heap.size := by omega
      have hup : Up w W2 := (((Up.refl w).alloc _).trans hu).trans hU1
      have hml := magsL_le ps
      go_wp2_with (first | (go_at_call 14; refine cM.mono ?_; rintro e w4 ⟨rfl, hm4, ys, hY, hyv⟩) | (go_at_call 15; refine (accCmp_any w1.heap.size (w1.heap.size + 1) xs ys _ (hA'.mod hm4 (by omega)) hY).mono ?_; rintro e w5 ⟨rfl, hu5⟩))
      go_ret
      refine ⟨ret_bool (room_le ?_ hN HV.out (by first | rw [hyv, HR.out] | rw [HR.out])), ?_⟩
      · exact Nat.lt_of_le_of_lt hml (Nat.lt_of_le_of_lt (Nat.mul_le_mul_right _ (show ps.length ≤ 4096 by omega)) (by decide))
      · exact ((((hup.ofMod hm (by omega)).setCell (by show w.heap.size ≤ w1.heap.size + 1; omega) _).ofMod hm4 (by omega))).trans hu5

theorem check_any (a : Option Addr) (n c N : Nat) (ps : List Nat) (w : World) (h : RdU w a n c ps) (hN : N < 65536) (hF : F64s ps) :
    Calls Tabg.prog 4 #[.agg #[.slice a n c, .int .u16 N]] w fun e w' => e = .returned (.bool (chkB N ps)) ∧ Up w w' := by
  have hn := h.1
  unfold chkB
  by_cases h1 : N ≤ 1024
  · by_cases h2 : n ≤ 2098
    · rw [decide_eq_true h1, decide_eq_true (show ps.length ≤ 2098 by omega), Bool.true_and, Bool.true_and]
      cases h3 : apartL (-5000) ps
      · exact check_apart a n c N ps w h h1 hF h2 h3
      · rw [Bool.true_and]
        exact check_main a n c N ps w h h1 hF h2 h3
    · rw [decide_eq_true h1, decide_eq_false (show ¬ ps.length ≤ 2098 by omega), Bool.true_and, Bool.false_and]
      exact check_long a n c N ps w h h1 hF (by omega)
  · rw [decide_eq_false h1, Bool.false_and]
    exact check_far a n c N ps w h hN hF (by omega)
end Go.Proofs.YgctabDoor
