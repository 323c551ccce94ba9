import Derived.Test.YgctabAccG
import Derived.Test.YgctabOrdP
namespace Go.Proofs.Ygctab
open Go.RowKit
set_option linter.unusedVariables false
set_option linter.unusedSimpArgs false
set_option exponentiation.threshold 6000

theorem bit_and (x : Int) (s : Nat) (h0 : 0 ≤ x) (h1 : x < 18446744073709551616) : bits .and .u64 (x / 2 ^ s) 1 = x / 2 ^ s % 2 := by
  obtain ⟨m, rfl⟩ : ∃ m : Nat, x = m := ⟨x.toNat, by omega⟩
  have e : (m : Int) / 2 ^ s = ((m / 2 ^ s : Nat) : Int) := by simp
  rw [e]
  have hd : m / 2 ^ s ≤ m := Nat.div_le_self _ _
  have := u64_and_nat (m / 2 ^ s) 1 (by omega) (by decide)
  rw [nat_mask1] at this
  rw [show (1 : Int) = ((1 : Nat) : Int) from rfl, this]
  omega

set_option maxRecDepth 100000 in
set_option maxHeartbeats 1600000 in
theorem order_same (b d : Nat) (xs ys : List Int) (w : World) (h : AccAt w b xs) (k : AccAt w d ys) (ht : xs[67]?.getD 0 / 9223372036854775808 = ys[67]?.getD 0 / 9223372036854775808) :
    Calls Tabg.prog 96 #[.pointer (some ⟨b, 0, none⟩), .pointer (some ⟨d, 0, none⟩)] w fun e w' => e = .returned (.int .i8 (sgn (num xs - num ys))) ∧ Up w w' := by
  have e0 : w.cell? ⟨b, 67, none⟩ = some (.int .u64 (xs[67]?.getD 0)) := h.own.int (by rw [h.len]; decide)
  have e1 : w.cell? ⟨d, 67, none⟩ = some (.int .u64 (ys[67]?.getD 0)) := k.own.int (by rw [k.len]; decide)
  have HH : Hid (AccAt w b xs) := h
  have HK : Hid (AccAt w d ys) := k
  have x67 := h.words.at 67
  have y67 := k.words.at 67
  have tq : ys[67]?.getD 0 / 9223372036854775808 = xs[67]?.getD 0 / 9223372036854775808 := ht.symm
  have rX := h.range
  have rY := k.range
  have HRX : Hid (0 ≤ num xs ∧ num xs < W ^ 68) := rX
  have HRY : Hid (0 ≤ num ys ∧ num ys < W ^ 68) := rY
  clear h k ht rX rY
  generalize xs[67]?.getD 0 = tx at *
  generalize ys[67]?.getD 0 = ty at *
  go_enter Tabg.func96, Tabg.ntmps96
  go_wp2
  go_quiet (fail)
  go_wp2
  clear e0 e1 tq x67 y67
  go_loopw [7] (fun u wr => ∃ n : Nat, u = .int .i64 ((n : Int) - 1) ∧ n ≤ 4352 ∧ Up w wr ∧ Hid (num xs / 2 ^ n = num ys / 2 ^ n)) (fun u _ => (intOf u + 1).toNat)
  case atStart =>
    refine ⟨4352, rfl, by omega, (Up.refl _).drewN _, ?_⟩
    show _ = _
    have e : (2 : Int) ^ 4352 = W ^ 68 := by rw [W_eq]; decide
    rw [e, Int.ediv_eq_zero_of_lt HRX.out.1 HRX.out.2, Int.ediv_eq_zero_of_lt HRY.out.1 HRY.out.2]
  case round =>
    obtain ⟨n, rfl, hn, hU, HD⟩ := hrel
    cases n with
    | zero =>
      go_wp2
      go_ret
      have hd := HD.out
      rw [Int.pow_zero, Int.ediv_one, Int.ediv_one] at hd
      exact ⟨ret_int (cmp_eq hd).symm, hU⟩
    | succ i =>
      obtain ⟨q, s, hq, hs, hqs⟩ : ∃ q s : Nat, q < 68 ∧ s < 64 ∧ i = 64 * q + s := ⟨i / 64, i % 64, by omega, by omega, by omega⟩
      have i0 : ((i + 1 : Nat) : Int) - 1 = (i : Int) := by omega
      rw [i0]
      have a1 : (i : Int) / 64 = (q : Int) := by omega
      have a2 : (i : Int) % 64 = (s : Int) := by omega
      have s0 : (0 : Int) ≤ (s : Int) := by omega
      have s3 : (s : Int) ≤ 64 := by omega
      have q68 : (q : Int) < 68 := by omega
      have q0 : (0 : Int) ≤ (q : Int) := by omega
      have c0 : wr.cell? ⟨b, q, none⟩ = some (.int .u64 (xs[q]?.getD 0)) := (AccAt.up HH.out hU).own.int (by rw [AccAt.len HH.out]; omega)
      have c1 : wr.cell? ⟨d, q, none⟩ = some (.int .u64 (ys[q]?.getD 0)) := (AccAt.up HK.out hU).own.int (by rw [AccAt.len HK.out]; omega)
      have B1 := bit_and (xs[q]?.getD 0) s ((AccAt.words HH.out).at q).1 ((AccAt.words HH.out).at q).2
      have B2 := bit_and (ys[q]?.getD 0) s ((AccAt.words HK.out).at q).1 ((AccAt.words HK.out).at q).2
      rw [← word_bit (AccAt.words HH.out) (by rw [AccAt.len HH.out]; omega) hs, ← hqs] at B1
      rw [← word_bit (AccAt.words HK.out) (by rw [AccAt.len HK.out]; omega) hs, ← hqs] at B2
      have N1 := bit_next (num xs) i
      have N2 := bit_next (num ys) i
      have M1 : 0 ≤ num xs / 2 ^ i % 2 ∧ num xs / 2 ^ i % 2 ≤ 1 := by omega
      have M2 : 0 ≤ num ys / 2 ^ i % 2 ∧ num ys / 2 ^ i % 2 ≤ 1 := by omega
      have HN : Hid ((num xs / 2 ^ i = 2 * (num xs / 2 ^ (i + 1)) + num xs / 2 ^ i % 2) ∧ (num ys / 2 ^ i = 2 * (num ys / 2 ^ (i + 1)) + num ys / 2 ^ i % 2)) := ⟨N1, N2⟩
      clear N1 N2 hqs i0
      generalize hxb : num xs / 2 ^ i % 2 = xb at *
      generalize hyb : num ys / 2 ^ i % 2 = yb at *
      clear hxb hyb
      generalize xs[q]?.getD 0 = xq at *
      generalize ys[q]?.getD 0 = yq at *
      rcases Int.lt_trichotomy xb yb with hlt | heq | hgt
      · go_wp2
        go_quiet (fail)
        go_wp2
        go_ret
        refine ⟨ret_int (cmp_lt (lt_of_div (i := i) ?_)).symm, hU.drewN _⟩
        have h1 := HN.out
        have h2 := HD.out
        omega
      · subst heq
        have hirr : ¬ xb < xb := by omega
        go_wp2
        go_quiet (fail)
        go_wp2
        go_roundw
        case rel =>
          refine ⟨i, by go_num, by omega, hU.drewN _, ?_⟩
          show _ = _
          have h1 := HN.out
          have h2 := HD.out
          omega
        case measure => first | (simp [intOf]; done) | (simp [intOf]; omega)
      · have hnl : ¬ xb < yb := by omega
        go_wp2
        go_quiet (fail)
        go_wp2
        go_ret
        refine ⟨ret_int (cmp_gt (lt_of_div (i := i) ?_)).symm, hU.drewN _⟩
        have h1 := HN.out
        have h2 := HD.out
        omega

set_option maxRecDepth 100000 in
set_option maxHeartbeats 1600000 in
theorem order_lt (b d : Nat) (xs ys : List Int) (w : World) (h : AccAt w b xs) (k : AccAt w d ys) (hx : (9223372036854775808 : Int) ≤ xs[67]?.getD 0) (hy : ys[67]?.getD 0 < 9223372036854775808) :
    Calls Tabg.prog 96 #[.pointer (some ⟨b, 0, none⟩), .pointer (some ⟨d, 0, none⟩)] w fun e w' => e = .returned (.int .i8 (-1)) ∧ Up w w' := by
  have e0 : w.cell? ⟨b, 67, none⟩ = some (.int .u64 (xs[67]?.getD 0)) := h.own.int (by rw [h.len]; decide)
  have e1 : w.cell? ⟨d, 67, none⟩ = some (.int .u64 (ys[67]?.getD 0)) := k.own.int (by rw [k.len]; decide)
  have x67 := h.words.at 67
  have y67 := k.words.at 67
  clear h k
  generalize xs[67]?.getD 0 = tx at *
  generalize ys[67]?.getD 0 = ty at *
  have t1 : tx / 9223372036854775808 = 1 := by omega
  have t2 : ty / 9223372036854775808 = 0 := by omega
  go_enter Tabg.func96, Tabg.ntmps96
  go_wp2
  go_quiet (fail)
  go_wp2
  go_ret
  exact ⟨rfl, (Up.refl _).drewN _⟩

set_option maxRecDepth 100000 in
set_option maxHeartbeats 1600000 in
theorem order_gt (b d : Nat) (xs ys : List Int) (w : World) (h : AccAt w b xs) (k : AccAt w d ys) (hy : (9223372036854775808 : Int) ≤ ys[67]?.getD 0) (hx : xs[67]?.getD 0 < 9223372036854775808) :
    Calls Tabg.prog 96 #[.pointer (some ⟨b, 0, none⟩), .pointer (some ⟨d, 0, none⟩)] w fun e w' => e = .returned (.int .i8 1) ∧ Up w w' := by
  have e0 : w.cell? ⟨b, 67, none⟩ = some (.int .u64 (xs[67]?.getD 0)) := h.own.int (by rw [h.len]; decide)
  have e1 : w.cell? ⟨d, 67, none⟩ = some (.int .u64 (ys[67]?.getD 0)) := k.own.int (by rw [k.len]; decide)
  have x67 := h.words.at 67
  have y67 := k.words.at 67
  clear h k
  generalize xs[67]?.getD 0 = tx at *
  generalize ys[67]?.getD 0 = ty at *
  have t1 : tx / 9223372036854775808 = 0 := by omega
  have t2 : ty / 9223372036854775808 = 1 := by omega
  go_enter Tabg.func96, Tabg.ntmps96
  go_wp2
  go_quiet (fail)
  go_wp2
  go_ret
  exact ⟨rfl, (Up.refl _).drewN _⟩

theorem order_any (b d : Nat) (xs ys : List Int) (w : World) (h : AccAt w b xs) (k : AccAt w d ys) :
    Calls Tabg.prog 96 #[.pointer (some ⟨b, 0, none⟩), .pointer (some ⟨d, 0, none⟩)] w fun e w' => e = .returned (.int .i8 (sgn (sv (num xs) - sv (num ys)))) ∧ Up w w' := by
  have tX := top_half h.words h.len
  have tY := top_half k.words k.len
  have x67 := h.words.at 67
  have y67 := k.words.at 67
  have rX := h.range
  have rY := k.range
  have hh := half_two
  by_cases hx : xs[67]?.getD 0 < 9223372036854775808
  · by_cases hy : ys[67]?.getD 0 < 9223372036854775808
    · rw [sv_sub_same (by rw [tX, tY]; exact ⟨fun _ => hy, fun _ => hx⟩)]
      exact order_same b d xs ys w h k (by omega)
    · have e : sgn (sv (num xs) - sv (num ys)) = 1 := cmp_gt (by
        unfold sv
        rw [if_pos (tX.2 hx), if_neg (fun hc => hy (tY.1 hc))]
        omega)
      rw [e]
      exact order_gt b d xs ys w h k (by omega) hx
  · by_cases hy : ys[67]?.getD 0 < 9223372036854775808
    · have e : sgn (sv (num xs) - sv (num ys)) = -1 := cmp_lt (by
        unfold sv
        rw [if_pos (tY.2 hy), if_neg (fun hc => hx (tX.1 hc))]
        omega)
      rw [e]
      exact order_lt b d xs ys w h k (by omega) hy
    · rw [sv_sub_same (by rw [tX, tY]; exact ⟨fun hc => absurd hc hx, fun hc => absurd hc hy⟩)]
      exact order_same b d xs ys w h k (by omega)
end Go.Proofs.Ygctab
