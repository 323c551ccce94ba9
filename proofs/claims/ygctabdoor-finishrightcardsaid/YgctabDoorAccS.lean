import Derived.Test.YgctabDoorAccR
namespace Go.Proofs.YgctabDoor
open Go.RowKit
set_option linter.unusedVariables false
set_option linter.unusedSimpArgs false
set_option exponentiation.threshold 6000

/-- What stands below a place of a row of words. -/
theorem below_num {xs : List Int} (h : Words xs) {q s : Nat} (hq : q < xs.length) (hs : s < 64) {a N : Nat} (ha : xs[q]?.getD 0 = a) (hN : num xs = N) :
    N % 2 ^ (64 * q + s) = 0 ↔ (num (xs.take q) = 0 ∧ a % 2 ^ s = 0) := by
  have h1 := num_split hq
  have h2 := num_range (words_take h q)
  have hl : (xs.take q).length = q := by simp; omega
  rw [hl] at h2
  have h3 := num_range (words_drop h (q + 1))
  obtain ⟨T, hT⟩ : ∃ T : Nat, num (xs.take q) = T := ⟨(num (xs.take q)).toNat, by omega⟩
  obtain ⟨R, hR⟩ : ∃ R : Nat, num (xs.drop (q + 1)) = R := ⟨(num (xs.drop (q + 1))).toNat, by omega⟩
  rw [ha, hT, hR, hN] at h1
  rw [hT] at h2 ⊢
  have hWq : (W : Int) ^ q = ((2 ^ (64 * q) : Nat) : Int) := by
    have := W_two q 0
    rw [Nat.add_zero, Int.pow_zero, Int.mul_one] at this
    rw [← this]
    simp
  have hWq1 : (W : Int) ^ (q + 1) = ((2 ^ (64 * q) * 18446744073709551616 : Nat) : Int) := by
    rw [Int.pow_succ, hWq, W_eq]
    simp
  rw [hWq, hWq1] at h1
  rw [hWq] at h2
  have hNat : N = T + 2 ^ (64 * q) * (a + 18446744073709551616 * R) := by
    have : (N : Int) = ((T + 2 ^ (64 * q) * (a + 18446744073709551616 * R) : Nat) : Int) := by
      rw [h1, Nat.mul_add, ← Nat.mul_assoc]
      simp only [Int.natCast_add, Int.natCast_mul]
      rw [Int.mul_comm (a : Int), Int.add_assoc]
    omega
  have hTl : T < 2 ^ (64 * q) := by omega
  have hmod : N % 2 ^ (64 * q + s) = T + 2 ^ (64 * q) * (a % 2 ^ s) := by
    rw [hNat, Nat.pow_add]
    have e : a + 18446744073709551616 * R = a % 2 ^ s + 2 ^ s * (a / 2 ^ s + 2 ^ (64 - s) * R) := by
      rw [Nat.mul_add, ← Nat.mul_assoc, ← Nat.pow_add, show s + (64 - s) = 64 by omega, ← Nat.add_assoc, Nat.mod_add_div]
    rw [e, Nat.mul_add, ← Nat.add_assoc, ← Nat.mul_assoc, Nat.add_mul_mod_self_left, Nat.mod_eq_of_lt]
    have h5 : 2 ^ (64 * q) * (a % 2 ^ s + 1) ≤ 2 ^ (64 * q) * 2 ^ s := Nat.mul_le_mul_left _ (Nat.mod_lt _ (two_pos s))
    rw [Nat.mul_add, Nat.mul_one] at h5
    omega
  rw [hmod]
  have hp := two_pos (64 * q)
  constructor
  · intro hz
    have h6 : 2 ^ (64 * q) * (a % 2 ^ s) = 0 := by omega
    rcases Nat.mul_eq_zero.1 h6 with h7 | h7
    · omega
    · exact ⟨by omega, h7⟩
  · rintro ⟨h6, h7⟩
    rw [h7, Nat.mul_zero]
    omega

set_option maxRecDepth 100000 in
set_option maxHeartbeats 800000 in
theorem anyBelow_any (b i N : Nat) (hi : i < 4352) (xs : List Int) (w : World) (h : AccAt w b xs) (hN : num xs = N) :
    Calls Tabg.prog 23 #[.pointer (some ⟨b, 0, none⟩), .int .i64 i] w fun e w' => e = .returned (.bool (!decide (N % 2 ^ i = 0))) ∧ w = w' := by
  obtain ⟨q, s, hq, hs, hqs⟩ : ∃ q s : Nat, q < 68 ∧ s < 64 ∧ i = 64 * q + s := ⟨i / 64, i % 64, by omega, by omega, by omega⟩
  have a1 : (i : Int) / 64 = (q : Int) := by omega
  have a2 : (i : Int) % 64 = (s : Int) := by omega
  have s0 : (0 : Int) ≤ (s : Int) := by omega
  have s1 : (0 : Int) ≤ 64 - (s : Int) := by omega
  have s2 : (64 - (s : Int)).toNat = 64 - s := by omega
  have s3 : (s : Int) ≤ 64 := by omega
  have q68 : (q : Int) < 68 := by omega
  have q0 : (0 : Int) ≤ (q : Int) := by omega
  have sw : IntKind.i64.wrap (64 - (s : Int)) = 64 - (s : Int) := by rw [IntKind.wrap_i64]; omega
  have HA : Hid (AccAt w b xs) := h
  have c0 : w.cell? ⟨b, q, none⟩ = some (.int .u64 (xs[q]?.getD 0)) := h.own.int (by rw [h.len]; omega)
  obtain ⟨a, ha, hal⟩ := word_nat h.words q
  have hb := below_num h.words (by rw [h.len]; omega) hs ha hN
  rw [← hqs] at hb
  rw [ha] at c0
  obtain ⟨v, hv⟩ : ∃ v : Nat, v = 2 ^ (64 - s) * (a % 2 ^ s) := ⟨_, rfl⟩
  have B1 : IntKind.u64.wrap ((a : Int) * 2 ^ (64 - s)) = (v : Int) := by
    rw [IntKind.wrap_u64, show (2 : Int) ^ (64 - s) = ((2 ^ (64 - s) : Nat) : Int) by simp, ← Int.natCast_mul]
    have h1 : a * 2 ^ (64 - s) % 18446744073709551616 = 2 ^ (64 - s) * (a % 2 ^ s) := by
      rw [show (18446744073709551616 : Nat) = 2 ^ (64 - s) * 2 ^ s by rw [← Nat.pow_add, show 64 - s + s = 64 by omega], Nat.mul_comm a, Nat.mul_mod_mul_left]
    rw [hv, ← h1]
    omega
  have hv0 : v = 0 ↔ a % 2 ^ s = 0 := by
    rw [hv]
    have := two_pos (64 - s)
    constructor
    · intro hz
      rcases Nat.mul_eq_zero.1 hz with h7 | h7
      · omega
      · exact h7
    · intro hz; rw [hz, Nat.mul_zero]
  have HB : Hid (N % 2 ^ i = 0 ↔ (num (xs.take q) = 0 ∧ v = 0)) := by
    show _ ↔ _
    rw [hb, hv0]
  clear hv hv0 hb hal ha hqs hs h hN
  go_enter Tabg.func23, Tabg.ntmps23
  go_wp2
  go_loop [5] (fun t => ∃ j : Nat, t = .int .i64 j ∧ j ≤ q ∧ Hid (num (xs.take j) = 0)) (fun t => q - (intOf t).toNat)
  case atStart => exact ⟨0, rfl, by omega, rfl⟩
  case round =>
    obtain ⟨j, rfl, hj, HZ⟩ := hrel
    by_cases hjq : j < q
    · have c1 : w.cell? ⟨b, j, none⟩ = some (.int .u64 (xs[j]?.getD 0)) := (AccAt.own HA.out).int (by rw [AccAt.len HA.out]; omega)
      have hjI : (j : Int) < (q : Int) := by omega
      have hj68 : (j : Int) < 68 := by omega
      have hj0 : (0 : Int) ≤ (j : Int) := by omega
      have htk := num_take_succ (xs := xs) (i := j) (by rw [AccAt.len HA.out]; omega)
      have HT : Hid (num (xs.take (j + 1)) = num (xs.take j) + xs[j]?.getD 0 * W ^ j) := htk
      clear htk
      obtain ⟨x, hx⟩ : ∃ x, x = xs[j]?.getD 0 := ⟨_, rfl⟩
      have HX : Hid (x = xs[j]?.getD 0) := hx
      rw [← hx] at c1
      clear hx
      by_cases hx0 : x = 0
      · subst hx0
        go_wp2
        go_round
        case rel =>
          refine ⟨j + 1, by go_num, by omega, ?_⟩
          show _ = _
          rw [HT.out, HZ.out, ← HX.out, Int.zero_mul]
          rfl
        case measure => simp [intOf]; omega
      · have hx1 : (x != 0) = true := by simpa using hx0
        go_wp2
        go_ret
        refine ⟨ret_bool ?_, rfl⟩
        rw [decide_eq_false]
        · rfl
        intro hz
        have hz' := (HB.out.1 hz).1
        have hw := words_take (AccAt.words HA.out) q
        have := (num_eq_zero hw).1 hz' x (by
          rw [HX.out]
          have hl : j < (xs.take q).length := by simp; rw [AccAt.len HA.out]; omega
          have e : xs[j]?.getD 0 = (xs.take q)[j] := by
            rw [List.getElem_take, List.getElem?_eq_getElem (by rw [AccAt.len HA.out]; omega)]
            rfl
          rw [e]
          exact List.getElem_mem hl)
        exact hx0 this
    · obtain rfl : j = q := by omega
      by_cases hv0 : v = 0
      · subst hv0
        go_wp2
        go_ret
        refine ⟨ret_bool (by rw [decide_eq_true (HB.out.2 ⟨HZ.out, by first | rfl | trivial⟩)]; rfl), rfl⟩
      · have hv1 : ((v : Int) != 0) = true := by simpa using hv0
        go_wp2
        go_ret
        refine ⟨ret_bool (by rw [decide_eq_false (fun hc => hv0 (HB.out.1 hc).2)]; rfl), rfl⟩

/-- The highest digit stands in the highest word that is not zero. -/
theorem highest_num {xs : List Int} (h : Words xs) {i : Nat} (hi : i < xs.length) {a N : Nat} (ha : xs[i]?.getD 0 = a) (ha0 : a ≠ 0) (hN : num xs = N) (hlt : num xs < W ^ (i + 1)) : N.log2 = 64 * i + a.log2 := by
  have h1 := word_div h hi
  have hr := num_range h
  have h3 := num_range (words_drop h (i + 1))
  have h4 : num xs / W ^ i < W := by
    rw [Int.ediv_lt_iff_lt_mul (W_pos i), Int.mul_comm, ← Int.pow_succ]
    exact hlt
  have hz : num (xs.drop (i + 1)) = 0 := by
    have e0 : (0 : Int) ≤ xs[i]?.getD 0 := (h.at i).1
    rw [h1, W_eq] at h4
    omega
  rw [hz, Int.mul_zero, Int.add_zero, ha, hN] at h1
  have hWi : (W : Int) ^ i = ((2 ^ (64 * i) : Nat) : Int) := by
    have := W_two i 0
    rw [Nat.add_zero, Int.pow_zero, Int.mul_one] at this
    rw [← this]
    simp
  rw [hWi, ← Int.natCast_ediv] at h1
  have hd : N / 2 ^ (64 * i) = a := by omega
  have hp := two_pos (64 * i)
  have hN0 : N ≠ 0 := by
    intro h0
    rw [h0, Nat.zero_div] at hd
    omega
  have l1 := Nat.log2_self_le ha0
  have l2 := Nat.lt_log2_self (n := a)
  refine (Nat.log2_eq_iff hN0).2 ⟨?_, ?_⟩
  · rw [Nat.pow_add, Nat.mul_comm]
    refine Nat.le_trans (Nat.mul_le_mul_right _ l1) ?_
    rw [← hd]
    exact Nat.div_mul_le_self _ _
  · rw [show 64 * i + a.log2 + 1 = (a.log2 + 1) + 64 * i by omega, Nat.pow_add, ← Nat.div_lt_iff_lt_mul hp, hd]
    exact l2

set_option maxRecDepth 100000 in
set_option maxHeartbeats 800000 in
theorem highest_any (b N : Nat) (xs : List Int) (w : World) (h : AccAt w b xs) (hN : num xs = N) (hN0 : N ≠ 0) :
    Calls Tabg.prog 20 #[.pointer (some ⟨b, 0, none⟩)] w fun e w' => e = .returned (.int .i64 (N.log2 : Int)) ∧ w = w' := by
  have HA : Hid (AccAt w b xs) := h
  have HN : Hid (num xs = N) := hN
  have HR : Hid (num xs < W ^ 68) := h.range.2
  have HN0 : Hid (N ≠ 0) := hN0
  clear h hN hN0
  go_enter Tabg.func20, Tabg.ntmps20
  go_wp2
  go_loop [3] (fun t => ∃ n : Nat, t = .int .i64 ((n : Int) - 1) ∧ n ≤ 68 ∧ Hid (num xs < W ^ n)) (fun t => (intOf t + 1).toNat)
  case atStart => exact ⟨68, rfl, by omega, HR.out⟩
  case round =>
    obtain ⟨n, rfl, hn, HL⟩ := hrel
    cases n with
    | zero =>
      exfalso
      have h1 := HL.out
      rw [Int.pow_zero, HN.out] at h1
      have := HN0.out
      omega
    | succ i =>
      have i0 : ((i + 1 : Nat) : Int) - 1 = (i : Int) := by omega
      rw [i0]
      have hi0 : (0 : Int) ≤ (i : Int) := by omega
      have hi68 : (i : Int) < 68 := by omega
      have c1 : w.cell? ⟨b, i, none⟩ = some (.int .u64 (xs[i]?.getD 0)) := (AccAt.own HA.out).int (by rw [AccAt.len HA.out]; omega)
      obtain ⟨a, ha, hal⟩ := word_nat (AccAt.words HA.out) i
      rw [ha] at c1
      have HAa : Hid (xs[i]?.getD 0 = (a : Int)) := ha
      clear ha
      by_cases ha0 : a = 0
      · subst ha0
        go_wp2
        go_round
        case rel =>
          refine ⟨i, by go_num, by omega, ?_⟩
          show _ < _
          have h1 := word_div (AccAt.words HA.out) (show i < xs.length by rw [AccAt.len HA.out]; omega)
          have h3 := num_range (words_drop (AccAt.words HA.out) (i + 1))
          have h4 : num xs / W ^ i < W := by
            rw [Int.ediv_lt_iff_lt_mul (W_pos i), Int.mul_comm, ← Int.pow_succ]
            exact HL.out
          rw [HAa.out, W_eq] at h1
          rw [W_eq] at h4
          have h5 : num xs / W ^ i < 1 := by rw [W_eq]; omega
          rw [Int.ediv_lt_iff_lt_mul (W_pos i), Int.one_mul] at h5
          exact h5
        case measure => simp [intOf]
      · have c2 := len34 a ha0 hal
        have hl64 : a.log2 < 64 := (Nat.log2_lt ha0).2 (by omega)
        have hlog := highest_num (AccAt.words HA.out) (show i < xs.length by rw [AccAt.len HA.out]; omega) HAa.out ha0 HN.out HL.out
        have HLG : Hid (N.log2 = 64 * i + a.log2) := hlog
        have ha1 : ((a : Int) != 0) = true := by simpa using ha0
        clear hlog hal
        obtain ⟨l, hl⟩ : ∃ l, l = a.log2 + 1 := ⟨_, rfl⟩
        rw [← hl] at c2
        have w1 : IntKind.i64.wrap (64 * (i : Int)) = 64 * (i : Int) := by rw [IntKind.wrap_i64]; omega
        have w2 : IntKind.i64.wrap (64 * (i : Int) + (l : Int)) = 64 * (i : Int) + (l : Int) := by rw [IntKind.wrap_i64]; omega
        have w3 : IntKind.i64.wrap (64 * (i : Int) + (l : Int) - 1) = ((64 * i + a.log2 : Nat) : Int) := by rw [IntKind.wrap_i64]; omega
        rw [← HLG.out] at w3
        obtain ⟨g, hg⟩ : ∃ g, g = N.log2 := ⟨_, rfl⟩
        rw [← hg] at w3
        have HG : Hid (g = N.log2) := hg
        clear hl hl64 i0 hg
        go_wp2_with (go_at_call 34; refine (c2 _).mono ?_; rintro e w' ⟨rfl, rfl⟩)
        go_ret
        exact ⟨ret_int (by rw [HG.out]), rfl⟩

set_option maxRecDepth 100000 in
set_option maxHeartbeats 800000 in
theorem highest_zero (b : Nat) (xs : List Int) (w : World) (h : AccAt w b xs) (hN : num xs = 0) :
    Calls Tabg.prog 20 #[.pointer (some ⟨b, 0, none⟩)] w fun e w' => e = .returned (.int .i64 (-1)) ∧ w = w' := by
  have HA : Hid (AccAt w b xs) := h
  have HZ : Hid (∀ x ∈ xs, x = 0) := (num_eq_zero h.words).1 hN
  clear h hN
  go_enter Tabg.func20, Tabg.ntmps20
  go_wp2
  go_loop [3] (fun t => ∃ n : Nat, t = .int .i64 ((n : Int) - 1) ∧ n ≤ 68) (fun t => (intOf t + 1).toNat)
  case atStart => exact ⟨68, rfl, by omega⟩
  case round =>
    obtain ⟨n, rfl, hn⟩ := hrel
    cases n with
    | zero =>
      go_wp2
      go_ret
      exact ⟨rfl, rfl⟩
    | succ i =>
      have i0 : ((i + 1 : Nat) : Int) - 1 = (i : Int) := by omega
      rw [i0]
      have hi0 : (0 : Int) ≤ (i : Int) := by omega
      have hi68 : (i : Int) < 68 := by omega
      have c1 : w.cell? ⟨b, i, none⟩ = some (.int .u64 (xs[i]?.getD 0)) := (AccAt.own HA.out).int (by rw [AccAt.len HA.out]; omega)
      have e : xs[i]?.getD 0 = 0 := by
        have hl : i < xs.length := by rw [AccAt.len HA.out]; omega
        rw [List.getElem?_eq_getElem hl]
        exact HZ.out _ (List.getElem_mem hl)
      rw [e] at c1
      clear e
      go_wp2
      go_round
      case rel => exact ⟨i, by go_num, by omega⟩
      case measure => simp [intOf]
end Go.Proofs.YgctabDoor
