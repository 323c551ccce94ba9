/-
  PLAIN: rows of 64-bit words as whole numbers. No Go in sight.
-/
namespace Go.Proofs.Ygctab
set_option linter.unusedVariables false

/-- 2^64. -/
def W : Int := 18446744073709551616
theorem W_eq : W = 18446744073709551616 := rfl

/-- The number of a row of words, least word first. -/
def num : List Int → Int
  | [] => 0
  | x :: xs => x + W * num xs

/-- Every entry a word. -/
def Words (xs : List Int) : Prop := ∀ x ∈ xs, 0 ≤ x ∧ x < 18446744073709551616

theorem Words.at {xs : List Int} (h : Words xs) (i : Nat) : 0 ≤ xs[i]?.getD 0 ∧ xs[i]?.getD 0 < 18446744073709551616 := by
  cases e : xs[i]? with
  | none => simp
  | some x => exact h x (List.mem_of_getElem? e)
theorem Words.set {xs : List Int} (h : Words xs) (i : Nat) (x : Int) (h0 : 0 ≤ x) (h1 : x < 18446744073709551616) : Words (xs.set i x) := by
  intro y hy
  rcases List.mem_or_eq_of_mem_set hy with h' | h'
  · exact h y h'
  · subst h'; exact ⟨h0, h1⟩

theorem W_pos (i : Nat) : 0 < W ^ i := Int.pow_pos (by decide)

theorem num_set {xs : List Int} {i : Nat} (h : i < xs.length) (v : Int) : num (xs.set i v) = num xs + (v - xs[i]?.getD 0) * W ^ i := by
  induction xs generalizing i with
  | nil => exact absurd h (Nat.not_lt_zero _)
  | cons x xs ih =>
    cases i with
    | zero => simp [num, Int.pow_zero]; omega
    | succ i =>
      have := ih (i := i) (by simpa using h)
      simp only [List.set_cons_succ, num, List.getElem?_cons_succ]
      have e : W * ((v - xs[i]?.getD 0) * W ^ i) = (v - xs[i]?.getD 0) * (W ^ i * W) := by rw [Int.mul_comm W, Int.mul_assoc]
      rw [this, Int.mul_add, Int.pow_succ, e]
      omega

theorem num_range {xs : List Int} (h : Words xs) : 0 ≤ num xs ∧ num xs < W ^ xs.length := by
  induction xs with
  | nil => simp [num]
  | cons x xs ih =>
    have hx := h x (List.mem_cons_self ..)
    have hi := ih (fun y hy => h y (List.mem_cons_of_mem _ hy))
    simp only [num, List.length_cons, Int.pow_succ]
    have h1 : 0 ≤ W * num xs := Int.mul_nonneg (by decide) hi.1
    have h2 : W * (num xs + 1) ≤ W * W ^ xs.length := Int.mul_le_mul_of_nonneg_left (by omega) (by decide)
    rw [Int.mul_add, Int.mul_one, Int.mul_comm W (W ^ _)] at h2
    have := W_eq
    omega

/-- One step of an addition: the word at place j takes y and the carry c; the number and what is carried are worth y more at place j. -/
theorem add_step {xs : List Int} {j : Nat} (hj : j < xs.length) {y c s c' C : Int} (hs : s + c' * W = xs[j]?.getD 0 + y + c) (hC : num xs + c * W ^ j = C) :
    num (xs.set j s) + c' * W ^ (j + 1) = C + y * W ^ j := by
  rw [num_set hj, Int.pow_succ, ← hC]
  generalize xs[j]?.getD 0 = x at *
  generalize W ^ j = P at *
  have h := congrArg (· * P) hs
  simp only [Int.add_mul, Int.sub_mul] at h ⊢
  rw [← Int.mul_assoc, Int.mul_right_comm c' P W]
  omega
/-- One step of a subtraction. -/
theorem sub_step {xs : List Int} {j : Nat} (hj : j < xs.length) {y c s c' C : Int} (hs : s - c' * W = xs[j]?.getD 0 - y - c) (hC : num xs - c * W ^ j = C) :
    num (xs.set j s) - c' * W ^ (j + 1) = C - y * W ^ j := by
  have h1 : s + -c' * W = xs[j]?.getD 0 + -y + -c := by rw [Int.neg_mul]; omega
  have h2 : num xs + -c * W ^ j = C := by rw [Int.neg_mul]; omega
  have := add_step hj h1 h2
  rw [Int.neg_mul, Int.neg_mul] at this
  omega

/-- A sum that is left after a carry out of the top. -/
theorem mod_of_carry {n : Nat} {v c C : Int} (h0 : 0 ≤ v) (h1 : v < W ^ n) (h : v + c * W ^ n = C) : v = C % W ^ n := by
  subst h
  rw [Int.add_mul_emod_self_right, Int.emod_eq_of_lt h0 h1]

theorem num_append (xs ys : List Int) : num (xs ++ ys) = num xs + W ^ xs.length * num ys := by
  induction xs with
  | nil => simp [num]
  | cons x xs ih =>
    simp only [List.cons_append, num, ih, List.length_cons, Int.pow_succ]
    rw [Int.mul_add, ← Int.mul_assoc, Int.mul_comm W (W ^ _)]
    omega
theorem num_snoc (xs : List Int) (s : Int) : num (xs ++ [s]) = num xs + s * W ^ xs.length := by
  rw [num_append]; simp only [num, Int.mul_zero, Int.add_zero]; rw [Int.mul_comm]
theorem num_take_succ {xs : List Int} {i : Nat} (h : i < xs.length) : num (xs.take (i + 1)) = num (xs.take i) + xs[i]?.getD 0 * W ^ i := by
  rw [List.take_succ_eq_append_getElem h, num_snoc, List.getElem?_eq_getElem h]
  simp [Nat.min_eq_left (Nat.le_of_lt h)]
theorem num_replicate (n : Nat) : num (List.replicate n 0) = 0 := by
  induction n with
  | zero => rfl
  | succ n ih => simp [List.replicate_succ, num, ih]
theorem words_replicate (n : Nat) : Words (List.replicate n 0) := by
  intro x hx; rw [List.eq_of_mem_replicate hx]; decide

/-- The first i words are new. -/
structure Pref (xs : List Int) (i : Nat) (cur ds : List Int) : Prop where
  eq : cur = ds ++ xs.drop i
  len : ds.length = i
  words : Words ds
theorem Pref.zero (xs : List Int) : Pref xs 0 xs [] := ⟨rfl, rfl, fun x hx => by simp at hx⟩
theorem Pref.at {xs cur ds : List Int} {i : Nat} (h : Pref xs i cur ds) : cur[i]?.getD 0 = xs[i]?.getD 0 := by
  rw [h.eq, List.getElem?_append_right (by rw [h.len]; exact Nat.le_refl _), h.len, Nat.sub_self, List.getElem?_drop, Nat.add_zero]
theorem Pref.next {xs cur ds : List Int} {i : Nat} (h : Pref xs i cur ds) (hi : i < xs.length) {s : Int} (h0 : 0 ≤ s) (h1 : s < 18446744073709551616) : Pref xs (i + 1) (cur.set i s) (ds ++ [s]) := by
  refine ⟨?_, by simp [h.len], ?_⟩
  · rw [h.eq, List.set_append_right _ _ (by rw [h.len]; exact Nat.le_refl _), h.len, Nat.sub_self, List.drop_eq_getElem_cons hi, List.set_cons_zero, List.append_assoc]
    rfl
  · intro x hx
    rcases List.mem_append.1 hx with hx | hx
    · exact h.words x hx
    · simp only [List.mem_singleton] at hx; subst hx; exact ⟨h0, h1⟩
theorem Pref.length {xs cur ds : List Int} {i : Nat} (h : Pref xs i cur ds) (hi : i ≤ xs.length) : cur.length = xs.length := by
  rw [h.eq, List.length_append, h.len, List.length_drop]; omega
theorem Pref.all {xs cur ds : List Int} (h : Pref xs xs.length cur ds) : cur = ds := by rw [h.eq]; simp

theorem neg_step {D c s c' x T P : Int} (hs : s - c' * W = -x - c) (h : D - c * P = -T) : D + s * P - c' * (P * W) = -(T + x * P) := by
  have h2 := congrArg (· * P) hs
  simp only [Int.sub_mul, Int.neg_mul] at h2
  rw [Int.mul_comm P W, ← Int.mul_assoc]
  omega
/-- The borrow. -/
def bor (x y : Int) : Int := if x < y then 1 else 0
theorem bor_range (x y : Int) : 0 ≤ bor x y ∧ bor x y ≤ 1 := by unfold bor; split <;> decide
theorem sub_word {x y c : Int} (hx : 0 ≤ x) (hx' : x < 18446744073709551616) (hy : 0 ≤ y) (hy' : y < 18446744073709551616) (hc : 0 ≤ c) (hc' : c ≤ 1) :
    (x - y - c) % 18446744073709551616 - bor x (y + c) * W = x - y - c := by
  unfold bor; rw [W_eq]; split <;> omega
theorem add_word {x y c : Int} : (x + y + c) % 18446744073709551616 + (x + y + c) / 18446744073709551616 * W = x + y + c := by
  rw [W_eq]; omega
theorem mul_step {D o s o' x T m P : Int} (hs : s + o' * W = x * m + o) (h : D + o * P = T * m) : D + s * P + o' * (P * W) = (T + x * P) * m := by
  have h2 := congrArg (· * P) hs
  simp only [Int.add_mul] at h2 ⊢
  rw [Int.mul_comm P W, ← Int.mul_assoc, Int.mul_right_comm x P m]
  omega
/-- The word that is kept, and what goes on: a word times m and what came over. -/
theorem mul_word {x m o : Int} (hx : 0 ≤ x) (hx' : x < 18446744073709551616) (hm : 0 ≤ m) (ho : 0 ≤ o) (hom : o ≤ m) :
    (x * m % 18446744073709551616 + o) % 18446744073709551616 + (x * m / 18446744073709551616 + (x * m % 18446744073709551616 + o) / 18446744073709551616) * W = x * m + o ∧
    0 ≤ x * m / 18446744073709551616 + (x * m % 18446744073709551616 + o) / 18446744073709551616 ∧ x * m / 18446744073709551616 + (x * m % 18446744073709551616 + o) / 18446744073709551616 ≤ m := by
  have h0 : 0 ≤ x * m := Int.mul_nonneg hx hm
  have h1 : x * m ≤ 18446744073709551615 * m := Int.mul_le_mul_of_nonneg_right (by omega) hm
  generalize x * m = p at *
  rw [W_eq]
  omega

/-! ### the sign -/
/-- Half of 2^4352. -/
def Half : Int := 9223372036854775808 * W ^ 67
theorem half_two : 2 * Half = W ^ 68 := by
  unfold Half; rw [Int.pow_succ W 67, W_eq, ← Int.mul_assoc, Int.mul_comm]; rfl
/-- A number below 2^4352 read with a sign. -/
def sv (n : Int) : Int := if n < Half then n else n - W ^ 68
def sgn (n : Int) : Int := if n < 0 then -1 else if n = 0 then 0 else 1
theorem sv_range {n : Int} (h0 : 0 ≤ n) (h1 : n < W ^ 68) : -Half ≤ sv n ∧ sv n < Half := by
  have := half_two; unfold sv; split <;> omega

theorem num_split {xs : List Int} {i : Nat} (h : i < xs.length) : num xs = num (xs.take i) + (xs[i]?.getD 0) * W ^ i + W ^ (i + 1) * num (xs.drop (i + 1)) := by
  have hm : min i xs.length = i := Nat.min_eq_left (Nat.le_of_lt h)
  have e : xs = xs.take i ++ (xs[i]?.getD 0 :: xs.drop (i + 1)) := by
    rw [List.getElem?_eq_getElem h, Option.getD_some, ← List.drop_eq_getElem_cons h, List.take_append_drop]
  have h2 := congrArg num e
  rw [num_append, num, List.length_take, hm, Int.mul_add] at h2
  rw [h2, Int.pow_succ, Int.mul_comm (W ^ i) (xs[i]?.getD 0), Int.mul_assoc]
  omega
theorem words_take {xs : List Int} (h : Words xs) (i : Nat) : Words (xs.take i) := fun x hx => h x (List.mem_of_mem_take hx)
theorem words_drop {xs : List Int} (h : Words xs) (i : Nat) : Words (xs.drop i) := fun x hx => h x (List.mem_of_mem_drop hx)
/-- The top word tells the half. -/
theorem top_half {xs : List Int} (h : Words xs) (hl : xs.length = 68) : num xs < Half ↔ xs[67]?.getD 0 < 9223372036854775808 := by
  have e := num_split (xs := xs) (i := 67) (by omega)
  rw [List.drop_eq_nil_of_le (by omega)] at e
  simp only [num, Int.mul_zero, Int.add_zero] at e
  have r := num_range (words_take h 67)
  rw [List.length_take, hl] at r
  have r2 : num (xs.take 67) < W ^ 67 := r.2
  have r1 := r.1
  rw [e]; unfold Half
  generalize num (xs.take 67) = t at *
  generalize xs[67]?.getD 0 = x at *
  have hp := W_pos 67
  generalize W ^ 67 = P at *
  constructor
  · intro hh
    rcases Int.lt_or_le x 9223372036854775808 with h' | h'
    · exact h'
    · have := Int.mul_le_mul_of_nonneg_right h' (Int.le_of_lt hp); omega
  · intro hh
    have : x * P ≤ 9223372036854775807 * P := Int.mul_le_mul_of_nonneg_right (by omega) (Int.le_of_lt hp)
    omega
theorem num_eq_zero {xs : List Int} (h : Words xs) : num xs = 0 ↔ ∀ x ∈ xs, x = 0 := by
  induction xs with
  | nil => simp [num]
  | cons x xs ih =>
    have hx := h x (List.mem_cons_self ..)
    have hn := num_range (fun y hy => h y (List.mem_cons_of_mem _ hy) : Words xs)
    have ih' := ih (fun y hy => h y (List.mem_cons_of_mem _ hy))
    simp only [num, List.mem_cons, forall_eq_or_imp, ← ih', W_eq]
    omega
/-- The top bit turned. -/
def flip (x : Int) : Int := if x < 9223372036854775808 then x + 9223372036854775808 else x - 9223372036854775808
theorem flip_range {x : Int} (h0 : 0 ≤ x) (h1 : x < 18446744073709551616) : 0 ≤ flip x ∧ flip x < 18446744073709551616 := by unfold flip; split <;> omega
theorem xor_top (n : Nat) (h : n < 9223372036854775808) : n ^^^ 9223372036854775808 = n + 9223372036854775808 := by
  apply Nat.eq_of_testBit_eq
  intro i
  rw [Nat.testBit_xor, Nat.add_comm, show (9223372036854775808 : Nat) = 2 ^ 63 from rfl]
  rcases Nat.lt_trichotomy i 63 with hi | hi | hi
  · rw [Nat.testBit_two_pow_add_gt hi, Nat.testBit_two_pow_of_ne (by omega)]; simp
  · subst hi
    rw [Nat.testBit_two_pow_add_eq, Nat.testBit_two_pow_self]
    simp
  · rw [Nat.testBit_two_pow_of_ne (by omega), Nat.testBit_lt_two_pow (Nat.lt_of_lt_of_le h (Nat.pow_le_pow_right (n := 2) (by decide) (by omega : 63 ≤ i))), Nat.testBit_lt_two_pow (Nat.lt_of_lt_of_le (by omega : 2 ^ 63 + n < 2 ^ 64) (Nat.pow_le_pow_right (n := 2) (by decide) (by omega : 64 ≤ i)))]
    rfl
theorem xor_flip (n : Nat) (h : n < 18446744073709551616) : ((n ^^^ 9223372036854775808 : Nat) : Int) = flip n := by
  unfold flip
  rcases Nat.lt_or_ge n 9223372036854775808 with h' | h'
  · rw [xor_top n h', if_pos (by omega)]; omega
  · obtain ⟨m, rfl⟩ : ∃ m, n = m + 9223372036854775808 := ⟨n - 9223372036854775808, by omega⟩
    have := xor_top m (by omega)
    rw [← this, Nat.xor_assoc, Nat.xor_self, Nat.xor_zero, this, if_neg (by omega)]
    omega
/-- The number with its top bit turned is the signed number and a half. -/
theorem num_flip {xs : List Int} (h : Words xs) (hl : xs.length = 68) : num (xs.set 67 (flip (xs[67]?.getD 0))) = sv (num xs) + Half := by
  rw [num_set (by omega)]
  have e := top_half h hl
  have h2 := half_two
  unfold sv flip
  by_cases hc : xs[67]?.getD 0 < 9223372036854775808
  · rw [if_pos hc, if_pos (e.2 hc)]; unfold Half
    generalize xs[67]?.getD 0 = x at *
    rw [show x + 9223372036854775808 - x = 9223372036854775808 by omega]
  · rw [if_neg hc, if_neg (fun hh => hc (e.1 hh))]
    have h3 : (xs[67]?.getD 0 - 9223372036854775808 - xs[67]?.getD 0) * W ^ 67 = - Half := by
      unfold Half
      generalize xs[67]?.getD 0 = x at *
      rw [show x - 9223372036854775808 - x = -9223372036854775808 by omega, Int.neg_mul]
    rw [h3]; omega
/-- The first word from the top at which two rows part tells which is the greater. -/
theorem num_lt_of {xs ys : List Int} (hx : Words xs) (hy : Words ys) {i : Nat} (h1 : i < xs.length) (h2 : i < ys.length) (hd : xs.drop (i + 1) = ys.drop (i + 1)) (h : xs[i]?.getD 0 < ys[i]?.getD 0) : num xs < num ys := by
  rw [num_split h1, num_split h2, hd]
  have r1 := num_range (words_take hx i)
  have r2 := num_range (words_take hy i)
  rw [List.length_take, Nat.min_eq_left (Nat.le_of_lt h1)] at r1
  have hp := W_pos i
  generalize xs[i]?.getD 0 = x at *
  generalize ys[i]?.getD 0 = y at *
  generalize W ^ i = P at *
  have := Int.mul_le_mul_of_nonneg_right (show x + 1 ≤ y from h) (Int.le_of_lt hp)
  rw [Int.add_mul, Int.one_mul] at this
  omega
theorem drop_eq_of {xs ys : List Int} {i : Nat} (h1 : i < xs.length) (h2 : i < ys.length) (hd : xs.drop (i + 1) = ys.drop (i + 1)) (h : xs[i]?.getD 0 = ys[i]?.getD 0) : xs.drop i = ys.drop i := by
  rw [List.drop_eq_getElem_cons h1, List.drop_eq_getElem_cons h2, hd]
  simp only [List.getElem?_eq_getElem h1, List.getElem?_eq_getElem h2, Option.getD_some] at h
  rw [h]

/-! ### two words shifted over three -/
theorem shl_div (x s : Nat) (hs : s ≤ 64) : x * 2 ^ s / 18446744073709551616 = x / 2 ^ (64 - s) := by
  have e : (18446744073709551616 : Nat) = 2 ^ (64 - s) * 2 ^ s := by rw [← Nat.pow_add, show 64 - s + s = 64 by omega]
  rw [e, Nat.mul_div_mul_right _ _ (Nat.pow_pos (by decide))]
theorem shl_low (x s : Nat) (hs : s ≤ 64) : x * 2 ^ s % 18446744073709551616 % 2 ^ s = 0 := by
  have e : (18446744073709551616 : Nat) = 2 ^ (64 - s) * 2 ^ s := by rw [← Nat.pow_add, show 64 - s + s = 64 by omega]
  rw [Nat.mod_mod_of_dvd _ (by rw [e]; exact Nat.dvd_mul_left _ _)]
  exact Nat.mul_mod_left _ _
theorem shr_lt (x s : Nat) (hs : s ≤ 64) (hx : x < 18446744073709551616) : x / 2 ^ (64 - s) < 2 ^ s := by
  apply Nat.div_lt_of_lt_mul
  rw [← Nat.pow_add, show 64 - s + s = 64 by omega]; exact hx
theorem shift3 (hi lo s : Nat) (hs : s ≤ 64) :
    lo * 2 ^ s % 18446744073709551616 + (hi * 2 ^ s % 18446744073709551616 + lo / 2 ^ (64 - s)) * 18446744073709551616 + hi / 2 ^ (64 - s) * (18446744073709551616 * 18446744073709551616) = (hi * 18446744073709551616 + lo) * 2 ^ s := by
  rw [← shl_div lo s hs, ← shl_div hi s hs, Nat.add_mul (hi * 18446744073709551616)]
  have e : hi * 18446744073709551616 * 2 ^ s = hi * 2 ^ s * 18446744073709551616 := Nat.mul_right_comm _ _ _
  rw [e]
  generalize hi * 2 ^ s = H
  generalize lo * 2 ^ s = L
  omega
end Go.Proofs.Ygctab
