import Derived.Test.YgctabDoorOrd
import Derived.Test.YgctabDoorJoin2
namespace Go.Proofs.YgctabDoor
open Go.RowKit
set_option linter.unusedVariables false
set_option linter.unusedSimpArgs false
set_option exponentiation.threshold 6000

/-- The word at place q as a natural number. -/
theorem word_nat {xs : List Int} (h : Words xs) (q : Nat) : ∃ a : Nat, xs[q]?.getD 0 = (a : Int) ∧ a < 18446744073709551616 := by
  have := h.at q
  exact ⟨(xs[q]?.getD 0).toNat, by omega, by omega⟩

set_option maxRecDepth 100000 in
set_option maxHeartbeats 800000 in
theorem bit_any (b i : Nat) (hi : i < 4352) (xs : List Int) (w : World) (h : AccAt w b xs) :
    Calls Tabg.prog 22 #[.pointer (some ⟨b, 0, none⟩), .int .i64 i] w fun e w' => e = .returned (.bool (decide (num xs / 2 ^ i % 2 = 1))) ∧ w = w' := by
  obtain ⟨q, s, hq, hs, hqs⟩ : ∃ q s : Nat, q < 68 ∧ s < 64 ∧ i = 64 * q + s := ⟨i / 64, i % 64, by omega, by omega, by omega⟩
  have a1 : (i : Int) / 64 = (q : Int) := by omega
  have a2 : (i : Int) % 64 = (s : Int) := by omega
  have s0 : (0 : Int) ≤ (s : Int) := by omega
  have s3 : (s : Int) ≤ 64 := by omega
  have q68 : (q : Int) < 68 := by omega
  have q0 : (0 : Int) ≤ (q : Int) := by omega
  have i0 : ¬ (i : Int) < 0 := by omega
  have i1 : ¬ (4352 : Int) ≤ (i : Int) := by omega
  have i1' : decide ((4352 : Int) ≤ (i : Int)) = false := decide_eq_false i1
  have c0 : w.cell? ⟨b, q, none⟩ = some (.int .u64 (xs[q]?.getD 0)) := h.own.int (by rw [h.len]; omega)
  have B1 := bit_and (xs[q]?.getD 0) s (h.words.at q).1 (h.words.at q).2
  rw [← word_bit h.words (by rw [h.len]; omega) hs, ← hqs] at B1
  have M1 : 0 ≤ num xs / 2 ^ i % 2 ∧ num xs / 2 ^ i % 2 ≤ 1 := by omega
  obtain ⟨xb, hxb⟩ : ∃ xb, xb = num xs / 2 ^ i % 2 := ⟨_, rfl⟩
  rw [← hxb] at B1 M1
  have HXB : Hid (xb = num xs / 2 ^ i % 2) := hxb
  clear hqs hs hxb h
  generalize xs[q]?.getD 0 = xq at *
  rcases (show xb = 0 ∨ xb = 1 by omega) with rfl | rfl
  · go_enter Tabg.func22, Tabg.ntmps22
    go_wp2
    go_ret
    exact ⟨ret_bool (by rw [← HXB.out]; decide), rfl⟩
  · go_enter Tabg.func22, Tabg.ntmps22
    go_wp2
    go_ret
    exact ⟨ret_bool (by rw [← HXB.out]; decide), rfl⟩

/-- Two words and a shift: the digits from there on. -/
theorem two_words (a c s : Nat) (hs : s < 64) (ha : a < 18446744073709551616) (hc : c < 18446744073709551616) :
    bits .or .u64 ((a : Int) / 2 ^ s) (IntKind.u64.wrap ((c : Int) * 2 ^ (64 - s))) = (((a + 18446744073709551616 * c) / 2 ^ s % 18446744073709551616 : Nat) : Int) := by
  have hp := two_pos s
  have hp' := two_pos (64 - s)
  have e1 : (a : Int) / 2 ^ s = ((a / 2 ^ s : Nat) : Int) := by simp
  have e2 : IntKind.u64.wrap ((c : Int) * 2 ^ (64 - s)) = ((2 ^ (64 - s) * (c % 2 ^ s) : Nat) : Int) := by
    rw [IntKind.wrap_u64, show (2 : Int) ^ (64 - s) = ((2 ^ (64 - s) : Nat) : Int) by simp, ← Int.natCast_mul]
    have h1 : c * 2 ^ (64 - s) % 18446744073709551616 = 2 ^ (64 - s) * (c % 2 ^ s) := by
      rw [show (18446744073709551616 : Nat) = 2 ^ (64 - s) * 2 ^ s by rw [← Nat.pow_add, show 64 - s + s = 64 by omega], Nat.mul_comm c, Nat.mul_mod_mul_left]
    rw [← h1]
    omega
  have hM : (18446744073709551616 : Nat) = 2 ^ s * 2 ^ (64 - s) := by rw [← Nat.pow_add, show s + (64 - s) = 64 by omega]
  have hlow : a / 2 ^ s < 2 ^ (64 - s) := by
    rw [Nat.div_lt_iff_lt_mul hp, Nat.mul_comm, ← hM]
    exact ha
  have hcs : c % 2 ^ s < 2 ^ s := Nat.mod_lt _ hp
  have hy : 2 ^ (64 - s) * (c % 2 ^ s) < 18446744073709551616 := by
    rw [hM, Nat.mul_comm (2 ^ s)]
    exact Nat.mul_lt_mul_of_pos_left hcs hp'
  rw [e1, e2, u64_or_nat _ _ (Nat.lt_of_le_of_lt (Nat.div_le_self _ _) ha) hy]
  refine congrArg (fun n : Nat => (n : Int)) ?_
  have hor := Nat.two_pow_add_eq_or_of_lt (i := 64 - s) (b := a / 2 ^ s) hlow (c % 2 ^ s)
  rw [Nat.or_comm, ← hor]
  have h2 : (a + 18446744073709551616 * c) / 2 ^ s = a / 2 ^ s + 2 ^ (64 - s) * c := by
    rw [hM, Nat.mul_assoc, Nat.add_mul_div_left _ _ hp]
  rw [h2]
  have h3 : c = 2 ^ s * (c / 2 ^ s) + c % 2 ^ s := (Nat.div_add_mod c (2 ^ s)).symm
  have h4 : a / 2 ^ s + 2 ^ (64 - s) * c = (2 ^ (64 - s) * (c % 2 ^ s) + a / 2 ^ s) + 18446744073709551616 * (c / 2 ^ s) := by
    conv => lhs; rw [h3]
    rw [Nat.mul_add, ← Nat.mul_assoc, Nat.mul_comm (2 ^ (64 - s)) (2 ^ s), ← hM]
    omega
  rw [h4, Nat.add_mul_mod_self_left]
  have h5 : 2 ^ (64 - s) * (c % 2 ^ s) + 2 ^ (64 - s) ≤ 18446744073709551616 := by
    have : 2 ^ (64 - s) * (c % 2 ^ s + 1) ≤ 2 ^ (64 - s) * 2 ^ s := Nat.mul_le_mul_left _ hcs
    rw [Nat.mul_comm (2 ^ (64 - s)) (2 ^ s), ← hM, Nat.mul_add, Nat.mul_one] at this
    exact this
  exact (Nat.mod_eq_of_lt (Nat.lt_of_lt_of_le (Nat.add_lt_add_left hlow _) h5)).symm

theorem field_num {xs : List Int} (h : Words xs) {q s : Nat} (hq : q + 1 < xs.length) (hs : s < 64) {a c N : Nat} (ha : xs[q]?.getD 0 = a) (hc : xs[q + 1]?.getD 0 = c) (hN : num xs = N) (hcl : c < 18446744073709551616) (hal : a < 18446744073709551616) :
    (a + 18446744073709551616 * c) / 2 ^ s % 18446744073709551616 % 9007199254740992 = N / 2 ^ (64 * q + s) % 9007199254740992 := by
  have h1 := word_div h (show q < xs.length by omega)
  have h2 : num (xs.drop (q + 1)) = xs[q + 1]?.getD 0 + W * num (xs.drop (q + 1 + 1)) := by
    rw [List.drop_eq_getElem_cons hq, num, List.getElem?_eq_getElem hq]
    rfl
  have hR := num_range (words_drop h (q + 1 + 1))
  obtain ⟨R, hR'⟩ : ∃ R : Nat, num (xs.drop (q + 1 + 1)) = R := ⟨(num (xs.drop (q + 1 + 1))).toNat, by omega⟩
  rw [h2, ha, hc, hR', hN, W_eq] at h1
  have h3 : N / 18446744073709551616 ^ q = a + 18446744073709551616 * (c + 18446744073709551616 * R) := by
    have e : ((N / 18446744073709551616 ^ q : Nat) : Int) = (N : Int) / 18446744073709551616 ^ q := by simp
    rw [← e] at h1
    omega
  have h4 : N / 2 ^ (64 * q + s) = (a + 18446744073709551616 * (c + 18446744073709551616 * R)) / 2 ^ s := by
    rw [← h3, Nat.pow_add, Nat.pow_mul, Nat.div_div_eq_div_mul]
  rw [h4, Nat.mod_mod_of_dvd _ (by decide : 9007199254740992 ∣ 18446744073709551616)]
  have h5 : a + 18446744073709551616 * (c + 18446744073709551616 * R) = (a + 18446744073709551616 * c) + 2 ^ s * (2 ^ (64 - s) * (18446744073709551616 * R)) := by
    rw [← Nat.mul_assoc (2 ^ s), ← Nat.pow_add, show s + (64 - s) = 64 by omega]
    omega
  rw [h5, Nat.add_mul_div_left _ _ (two_pos s)]
  have h6 : 2 ^ (64 - s) * (18446744073709551616 * R) = 9007199254740992 * (2 ^ (64 - s) * (2048 * R)) := by
    generalize 2 ^ (64 - s) = P
    rw [Nat.mul_left_comm P, Nat.mul_left_comm P 2048 R]
    generalize P * R = Q
    omega
  rw [h6, Nat.add_mul_mod_self_left]

set_option maxRecDepth 100000 in
set_option maxHeartbeats 800000 in
theorem field_any (b i N : Nat) (hi : i < 4200) (xs : List Int) (w : World) (h : AccAt w b xs) (hN : num xs = N) :
    Calls Tabg.prog 21 #[.pointer (some ⟨b, 0, none⟩), .int .i64 i] w fun e w' => e = .returned (.int .u64 ((N / 2 ^ i % 9007199254740992 : Nat) : Int)) ∧ w = w' := by
  obtain ⟨q, s, hq, hs, hqs⟩ : ∃ q s : Nat, q < 67 ∧ s < 64 ∧ i = 64 * q + s := ⟨i / 64, i % 64, by omega, by omega, by omega⟩
  have a1 : (i : Int) / 64 = (q : Int) := by omega
  have a2 : (i : Int) % 64 = (s : Int) := by omega
  have s0 : (0 : Int) ≤ (s : Int) := by omega
  have s1 : (0 : Int) ≤ 64 - (s : Int) := by omega
  have s2 : (64 - (s : Int)).toNat = 64 - s := by omega
  have s3 : (s : Int) ≤ 64 := by omega
  have q68 : (q : Int) < 68 := by omega
  have q0 : (0 : Int) ≤ (q : Int) := by omega
  have q681 : (q : Int) + 1 < 68 := by omega
  have q01 : (0 : Int) ≤ (q : Int) + 1 := by omega
  have qw1 : IntKind.i64.wrap ((q : Int) + 1) = (q : Int) + 1 := by rw [IntKind.wrap_i64]; omega
  have qn1 : ((q : Int) + 1).toNat = q + 1 := by omega
  have sw : IntKind.i64.wrap (64 - (s : Int)) = 64 - (s : Int) := by rw [IntKind.wrap_i64]; omega
  have c0 : w.cell? ⟨b, q, none⟩ = some (.int .u64 (xs[q]?.getD 0)) := h.own.int (by rw [h.len]; omega)
  have c1 : w.cell? ⟨b, q + 1, none⟩ = some (.int .u64 (xs[q + 1]?.getD 0)) := h.own.int (by rw [h.len]; omega)
  obtain ⟨a, ha, hal⟩ := word_nat h.words q
  obtain ⟨c, hc, hcl⟩ := word_nat h.words (q + 1)
  have hf := field_num h.words (by rw [h.len]; omega) hs ha hc hN hcl hal
  rw [← hqs] at hf
  have B1 := two_words a c s hs hal hcl
  rw [ha] at c0
  rw [hc] at c1
  have B2 : ∀ v : Nat, v < 18446744073709551616 → bits .and .u64 (v : Int) 9007199254740991 = ((v % 9007199254740992 : Nat) : Int) := by
    intro v hv
    have := u64_and_nat v 9007199254740991 hv (by decide)
    rw [show (9007199254740991 : Int) = ((9007199254740991 : Nat) : Int) from rfl, this]
    refine congrArg (fun n : Nat => (n : Int)) ?_
    exact Nat.and_two_pow_sub_one_eq_mod v 53
  obtain ⟨v, hv⟩ : ∃ v : Nat, v = (a + 18446744073709551616 * c) / 2 ^ s % 18446744073709551616 := ⟨_, rfl⟩
  rw [← hv] at B1 hf
  have B3 := B2 v (by rw [hv]; exact Nat.mod_lt _ (by decide))
  rw [hf] at B3
  clear B2 hv hf hal hcl ha hc hqs hs h hN
  generalize N / 2 ^ i % 9007199254740992 = r at *
  go_enter Tabg.func21, Tabg.ntmps21
  go_wp2
  go_ret
  exact ⟨rfl, rfl⟩
end Go.Proofs.YgctabDoor
