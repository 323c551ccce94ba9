import Derived.Test.YgctabOrd
import Derived.Test.YgctabAccT
namespace Go.Proofs.Ygctab
open Go.RowKit
set_option linter.unusedVariables false
set_option linter.unusedSimpArgs false
set_option exponentiation.threshold 6000

theorem word_small {xs : List Int} (h : Words xs) {q s : Nat} (hq : q < xs.length) (hn : num xs < 2 ^ (64 * q + s)) : xs[q]?.getD 0 < 2 ^ s := by
  have h1 := word_div h hq
  have h2 := num_range (words_drop h (q + 1))
  rw [W_two] at hn
  have h3 : num xs / W ^ q < 2 ^ s := by
    rw [Int.ediv_lt_iff_lt_mul (W_pos q), Int.mul_comm]
    exact hn
  have h4 : 0 ≤ W * num (xs.drop (q + 1)) := Int.mul_nonneg (by decide) h2.1
  omega
theorem or_top (x : Int) (s : Nat) (hs : s < 64) (h0 : 0 ≤ x) (h1 : x < 2 ^ s) : bits .or .u64 x (2 ^ s) = x + 2 ^ s := by
  obtain ⟨m, rfl⟩ : ∃ m : Nat, x = m := ⟨x.toNat, by omega⟩
  have e : (2 : Int) ^ s = ((2 ^ s : Nat) : Int) := by simp
  rw [e] at h1 ⊢
  have hm : m < 2 ^ s := by omega
  have hlt : 2 ^ s ≤ 2 ^ 63 := Nat.pow_le_pow_right (by decide) (by omega)
  have := u64_or_nat m (2 ^ s) (by omega) (by omega)
  rw [this]
  have h2 : m ||| 2 ^ s = m + 2 ^ s := by
    have := Nat.two_pow_add_eq_or_of_lt hm 1
    rw [Nat.mul_one] at this
    rw [Nat.or_comm, ← this, Nat.add_comm]
  rw [h2]
  simp
theorem bit_and32 (n i : Nat) (h : n < 4294967296) : bits .and .u32 ((n : Int) / 2 ^ i) 1 = ((n / 2 ^ i % 2 : Nat) : Int) := by
  have e : (n : Int) / 2 ^ i = ((n / 2 ^ i : Nat) : Int) := by simp
  rw [e]
  have hd : n / 2 ^ i ≤ n := Nat.div_le_self _ _
  have := u32_and_nat (n / 2 ^ i) 1 (by omega) (by decide)
  rw [nat_mask1] at this
  exact this

theorem room_step {n i : Nat} : n % 2 ^ (i + 1) = n % 2 ^ i + n / 2 ^ i % 2 * 2 ^ i := by
  rw [Nat.pow_succ, Nat.mod_mul, Nat.mul_comm]

set_option maxRecDepth 100000 in
set_option maxHeartbeats 1600000 in
theorem roomOf_any (n : Nat) (hn : n < 4294967296) (w : World) :
    Calls Tabg.prog 36 #[.int .u32 n] w fun e w' => ∃ xs, e = .returned (accV xs) ∧ xs.length = 68 ∧ Words xs ∧ num xs = (n : Int) * 2 ^ 4196 ∧ Up w w' := by
  have hA : Hid (AccAt (w.alloc (.cells Tabg.zeroCells40 40)) w.heap.size (List.replicate 68 0)) := AccAt.zero' w
  have hB : Hid (AccAt ((w.alloc (.cells Tabg.zeroCells40 40)).alloc (.cells Tabg.zeroCells40 40)) (w.heap.size + 1) (List.replicate 68 0)) := by
    have := AccAt.zero' (w.alloc (.cells Tabg.zeroCells40 40))
    show AccAt _ _ _
    simpa using this
  go_enter Tabg.func36, Tabg.ntmps36
  go_wp2
  go_loopw [4] (fun t wr => ∃ (i : Nat) (xs : List Int), t = .int .i64 i ∧ i ≤ 32 ∧ Mod (w.heap.size + 1) ((w.alloc (.cells Tabg.zeroCells40 40)).alloc (.cells Tabg.zeroCells40 40)) wr ∧ Hid (AccAt wr (w.heap.size + 1) xs) ∧ Hid (num xs = ((n % 2 ^ i : Nat) : Int) * 2 ^ 4196)) (fun t _ => 32 - (intOf t).toNat)
  case atStart => exact ⟨0, _, rfl, by omega, Mod.refl _ _, hB, by show _ = _; rw [num_zeros]; simp [Nat.mod_one]⟩
  case round =>
    obtain ⟨i, xs, rfl, hi, hm, hx, HV⟩ := hrel
    by_cases hlt : i < 32
    · have b1 := bit_and32 n i hn
      have hi0 : (0 : Int) ≤ (i : Int) := by omega
      have hstep : n % 2 ^ (i + 1) = n % 2 ^ i + n / 2 ^ i % 2 * 2 ^ i := room_step
      have HS : Hid (n % 2 ^ (i + 1) = n % 2 ^ i + n / 2 ^ i % 2 * 2 ^ i) := hstep
      clear hstep
      by_cases hb : n / 2 ^ i % 2 = 1
      · rw [hb] at b1
        obtain ⟨q, s, hq, hs, hqs⟩ : ∃ q s : Nat, q < 68 ∧ s < 64 ∧ 4196 + i = 64 * q + s := ⟨(4196 + i) / 64, (4196 + i) % 64, by omega, by omega, by omega⟩
        obtain ⟨p, hp⟩ : ∃ p : Nat, p = 4196 + i := ⟨_, rfl⟩
        have hp4 : p < 5000 := by omega
        have ai : IntKind.i64.wrap (4196 + (i : Int)) = (p : Int) := by rw [IntKind.wrap_i64]; omega
        have a1 : (p : Int) / 64 = (q : Int) := by omega
        have a2 : (p : Int) % 64 = (s : Int) := by omega
        have d0 : (0 : Int) ≤ (p : Int) / 64 := by omega
        have d1 : (p : Int) / 64 < 68 := by omega
        have d2 : ((p : Int) / 64).toNat = q := by omega
        have d3 : p / 64 = q := by omega
        have d4 : p / 64 < 68 := by omega
        have s0 : (0 : Int) ≤ (s : Int) := by omega
        have s3 : (s : Int) ≤ 64 := by omega
        have q68 : (q : Int) < 68 := by omega
        have q0 : (0 : Int) ≤ (q : Int) := by omega
        have c0 : wr.cell? ⟨w.heap.size + 1, q, none⟩ = some (.int .u64 (xs[q]?.getD 0)) := (AccAt.own hx.out).int (by rw [AccAt.len hx.out]; omega)
        have f0 := (AccAt.own hx.out).free q
        have hsm : xs[q]?.getD 0 < 2 ^ s := word_small (AccAt.words hx.out) (by rw [AccAt.len hx.out]; omega) (by
          rw [HV.out, ← hqs, Int.pow_add, Int.mul_comm]
          exact Int.mul_lt_mul_of_pos_left (by
            have := Nat.mod_lt n (two_pos i)
            have e : ((2 ^ i : Nat) : Int) = 2 ^ i := by simp
            rw [← e]; omega) (ipow_pos _))
        have x0 := (AccAt.words hx.out).at q
        have b2 := or_top (xs[q]?.getD 0) s hs x0.1 hsm
        have p1 : (2 : Int) ^ s < 18446744073709551616 := by
          have e : (18446744073709551616 : Int) = 2 ^ 64 := by decide
          rw [e]
          exact Int.pow_lt_pow_of_lt (by decide) (by omega)
        have p0 := ipow_pos s
        have b3 : IntKind.u64.wrap (1 * 2 ^ s) = 2 ^ s := by rw [IntKind.wrap_u64]; omega
        have b4 : IntKind.u64.wrap (2 ^ s) = 2 ^ s := by rw [IntKind.wrap_u64]; omega
        have HQ : Hid (num (xs.set q (xs[q]?.getD 0 + 2 ^ s)) = num xs + 2 ^ (4196 + i)) := by
          show _ = _
          rw [num_set (by rw [AccAt.len hx.out]; omega), hqs, W_two, Int.mul_comm]
          congr 2
          omega
        have HW : Hid (xs[q]?.getD 0 + 2 ^ s < 18446744073709551616) := by
          show _ < _
          have e : (18446744073709551616 : Int) = 2 * 2 ^ 63 := by decide
          have : (2 : Int) ^ s ≤ 2 ^ 63 := by
            have := Nat.pow_le_pow_right (n := 2) (by decide) (show s ≤ 63 by omega)
            have e1 : (2 : Int) ^ s = ((2 ^ s : Nat) : Int) := by simp
            rw [e1]
            have e2 : (2 : Int) ^ 63 = ((2 ^ 63 : Nat) : Int) := by simp
            rw [e2]
            omega
          omega
        have HX0 : Hid (0 ≤ xs[q]?.getD 0) := x0.1
        clear hsm x0 p1 hqs hp
        generalize hxq : xs[q]?.getD 0 = xq at *
        clear hxq
        go_wp2
        go_region
        go_wp2
        go_roundw
        case rel =>
          refine ⟨i + 1, xs.set q (xq + 2 ^ s), by go_num, by omega, hm.setCell _ _ |>.up (Up.refl _).drew, ?_, ?_⟩
          · exact ⟨((AccAt.own hx.out).setInt q _).drew, by rw [List.length_set]; exact AccAt.len hx.out, (AccAt.words hx.out).set _ _ (by have := HX0.out; omega) HW.out⟩
          · show _ = _
            rw [HQ.out, HV.out, HS.out, hb, Nat.one_mul, Int.pow_add, Int.natCast_add, Int.add_mul, Int.mul_comm (2 ^ 4196)]
            congr 2
        case measure => simp [intOf]; omega
      · have hb0 : n / 2 ^ i % 2 = 0 := by omega
        rw [hb0] at b1
        go_wp2
        go_roundw
        case rel =>
          refine ⟨i + 1, xs, by go_num, by omega, hm, hx, ?_⟩
          show _ = _
          rw [HV.out, HS.out, hb0, Nat.zero_mul, Nat.add_zero]
        case measure => simp [intOf]; omega
    · obtain rfl : i = 32 := by omega
      have hA1 : Hid (AccAt wr w.heap.size (List.replicate 68 0)) := AccAt.mod (AccAt.up hA.out ((Up.refl _).alloc _)) hm (by omega)
      have hup : Hid (Up w (setAcc wr w.heap.size xs)) := Up.ofMod (Up.ofMod (((Up.refl w).alloc _).alloc _) hm (by omega)) ((Mod.refl _ wr).setAcc xs) (Nat.le_refl _)
      clear hm
      go_wp2_with (first | (refine wpList_load40 rfl _ rfl (w.heap.size + 1) rfl xs hx.out ?_) | (refine wpList_store40 rfl _ _ rfl w.heap.size rfl xs rfl (AccAt.len hx.out) _ hA1.out ?_))
      refine bodyPost_ret (ret40 rfl _ _ w.heap.size rfl xs (AccAt.setAcc hA1.out (AccAt.len hx.out) (AccAt.words hx.out))) rfl ?_
      refine ⟨xs, rfl, AccAt.len hx.out, AccAt.words hx.out, ?_, hup.out⟩
      rw [HV.out, Nat.mod_eq_of_lt hn]
end Go.Proofs.Ygctab
