import Derived.Test.YgctabFftA
namespace Go.Proofs.Ygctab
open Go.RowKit
set_option linter.unusedVariables false
set_option linter.unusedSimpArgs false

/-- A vector of n points and a table of h entries make a transform. -/
def FitP (n h : Nat) : Prop := (∃ k, 1 ≤ k ∧ k ≤ 11 ∧ n = 2 ^ k ∧ n = 2 * h) ∨ (n = 1 ∧ h = 0)

set_option maxRecDepth 100000 in
theorem fits_k (k n h : Nat) (hk : 1 ≤ k) (hk' : k ≤ 11) (hn : n = 2 ^ k) (hh : n = 2 * h) (w : World) : Calls Tabg.prog 146 #[.int .i64 n, .int .i64 h] w fun e w' => e = .returned (.bool true) ∧ w = w' := by
  have CL : Hid (∀ w, Calls Tabg.prog 145 #[.int .i64 n] w fun e w' => e = .returned (.int .i64 k) ∧ w = w') := fun w => flevel_pow k n hk' hn w
  have hn' : n ≤ 2048 := by rw [hn]; exact Nat.pow_le_pow_right (by decide) hk'
  have w1 : IntKind.i64.wrap (2 * (h : Int)) = (n : Int) := by rw [IntKind.wrap_i64]; omega
  have hk1 : (1 : Int) ≤ (k : Int) := by omega
  clear hn hh hn'
  go_enter Tabg.func146, Tabg.ntmps146
  go_wp2_with (go_at_call 145; refine (CL.out _).mono ?_; rintro e w' ⟨rfl, rfl⟩)
  go_ret
  exact ⟨rfl, rfl⟩

set_option maxRecDepth 100000 in
theorem fits_one (w : World) : Calls Tabg.prog 146 #[.int .i64 1, .int .i64 0] w fun e w' => e = .returned (.bool true) ∧ w = w' := by
  go_enter Tabg.func146, Tabg.ntmps146
  go_wp2
  go_ret
  exact ⟨rfl, rfl⟩

set_option maxRecDepth 100000 in
theorem fits_no (n h : Nat) (hn : n ≤ 4096) (hh : h ≤ 4096) (hno : ¬ FitP n h) (w : World) : Calls Tabg.prog 146 #[.int .i64 n, .int .i64 h] w fun e w' => e = .returned (.bool false) ∧ w = w' := by
  have w1 : IntKind.i64.wrap (2 * (h : Int)) = 2 * (h : Int) := by rw [IntKind.wrap_i64]; omega
  by_cases h1 : n = 1 ∧ h = 0
  · exact absurd (.inr h1) hno
  by_cases h2 : n = 2 * h
  · have e1 : ((n : Int) == 2 * (h : Int)) = true := by
      have : (n : Int) = 2 * (h : Int) := by omega
      simp [this]
    have e2 : ((n : Int) == 1) = false := by rw [beq_eq_false_iff_ne]; omega
    have cL := flevel n w (by omega)
    have CL : Hid (∃ l : Int, l < 1 ∧ Calls Tabg.prog 145 #[.int .i64 n] w fun e w' => e = .returned (.int .i64 l) ∧ w = w') := by
      by_cases hz : n = 1
      · exact ⟨0, by decide, flevel_pow 0 n (by decide) (by rw [hz]) w⟩
      · refine ⟨-1, by decide, cL.mono ?_⟩
        rintro e w' (⟨k, k1, k2, rfl, rfl⟩ | ⟨k1, rfl, rfl⟩)
        · exfalso
          rcases Nat.eq_zero_or_pos k with rfl | hk
          · exact hz k2
          · exact hno (.inl ⟨k, hk, k1, k2, h2⟩)
        · exact ⟨rfl, rfl⟩
    obtain ⟨l, hl, cl⟩ := CL.out
    have hl' : decide ((1 : Int) ≤ l) = false := decide_eq_false (by omega)
    have CL2 : Hid (Calls Tabg.prog 145 #[.int .i64 n] w fun e w' => e = .returned (.int .i64 l) ∧ w = w') := cl
    clear cL CL cl hno h1 h2
    go_enter Tabg.func146, Tabg.ntmps146
    go_wp2_with (go_at_call 145; refine (CL2.out).mono ?_; rintro e w' ⟨rfl, rfl⟩)
    go_ret
    exact ⟨rfl, rfl⟩
  · have e1 : ((n : Int) == 2 * (h : Int)) = false := by rw [beq_eq_false_iff_ne]; omega
    by_cases hz : n = 1
    · have e2 : ((n : Int) == 1) = true := by rw [beq_iff_eq]; omega
      have e3 : ((h : Int) == 0) = false := by rw [beq_eq_false_iff_ne]; omega
      clear hno h1 h2 hz
      go_enter Tabg.func146, Tabg.ntmps146
      go_wp2
      go_ret
      exact ⟨rfl, rfl⟩
    · have e2 : ((n : Int) == 1) = false := by rw [beq_eq_false_iff_ne]; omega
      clear hno h1 h2 hz
      go_enter Tabg.func146, Tabg.ntmps146
      go_wp2
      go_ret
      exact ⟨rfl, rfl⟩

/-- One pass of the butterflies, point by point, up to NaNs. -/
def bflyX (half step : Nat) (X T : Nat → Cx) (i : Nat) : Cx :=
  if i % (2 * half) < half then addX (X i) (mulX (X (i + half)) (T (i % (2 * half) * step)))
  else subX (X (i - half)) (mulX (X i) (T ((i % (2 * half) - half) * step)))
/-- Which points are done when the loops stand at block s, pair j. -/
def doneB (half s j i : Nat) : Bool := decide (i < s) || (decide (i < s + 2 * half) && decide ((i - s) % half < j))
/-- The row in the midst of a pass. -/
def PassAt (half step s j : Nat) (X T : Nat → Cx) (cur : List (Nat × Nat)) : Prop := ∀ i, i < cur.length → clsC (zat cur i) = if doneB half s j i then bflyX half step X T i else X i

theorem zat_set {cur : List (Nat × Nat)} {p : Nat} (z : Nat × Nat) (hp : p < cur.length) (i : Nat) : zat (cur.set p z) i = if i = p then z else zat cur i := by
  unfold zat
  rw [List.getElem?_set]
  by_cases h : p = i
  · subst h; simp [hp]
  · rw [if_neg h, if_neg (fun e => h e.symm)]

/-- A pair more is done. -/
theorem PassAt.step {half step s j n : Nat} {X T : Nat → Cx} {cur : List (Nat × Nat)} (h : PassAt half step s j X T cur) (hl : cur.length = n) (hh : 0 < half) (hj : j < half) (hs : s + 2 * half ≤ n) (hs2 : s % (2 * half) = 0) {a b : Nat × Nat}
    (ha : clsC a = addX (clsC (zat cur (s + j))) (mulX (clsC (zat cur (s + j + half))) (T (j * step)))) (hb : clsC b = subX (clsC (zat cur (s + j))) (mulX (clsC (zat cur (s + j + half))) (T (j * step)))) :
    PassAt half step s (j + 1) X T ((cur.set (s + j) a).set (s + j + half) b) := by
  have hp := h (s + j) (by omega)
  have hq := h (s + j + half) (by omega)
  have e1 : (s + j - s) % half = j := by rw [Nat.add_sub_cancel_left, Nat.mod_eq_of_lt hj]
  have e2 : (s + j + half - s) % half = j := by rw [show s + j + half - s = j + half by omega, Nat.add_mod_right, Nat.mod_eq_of_lt hj]
  have m1 : (s + j) % (2 * half) = j := by rw [Nat.add_mod, hs2, Nat.zero_add, Nat.mod_mod, Nat.mod_eq_of_lt (by omega)]
  have m2 : (s + j + half) % (2 * half) = j + half := by rw [Nat.add_assoc, Nat.add_mod, hs2, Nat.zero_add, Nat.mod_mod, Nat.mod_eq_of_lt (by omega)]
  have d1 : doneB half s j (s + j) = false := by
    unfold doneB; rw [e1]; simp
  have d2 : doneB half s j (s + j + half) = false := by
    unfold doneB; rw [e2]; simp; omega
  rw [d1] at hp
  rw [d2] at hq
  simp only [Bool.false_eq_true, if_false] at hp hq
  rw [hp, hq] at ha hb
  intro i hi
  simp at hi
  rw [zat_set _ (by simp; omega), zat_set _ (by omega)]
  by_cases h1 : i = s + j + half
  · subst h1
    rw [if_pos rfl, hb]
    have : doneB half s (j + 1) (s + j + half) = true := by unfold doneB; rw [e2]; simp; omega
    rw [this, if_pos rfl]
    unfold bflyX
    rw [m2, if_neg (by omega), show s + j + half - half = s + j by omega, show j + half - half = j by omega]
  · rw [if_neg h1]
    by_cases h2 : i = s + j
    · subst h2
      rw [if_pos rfl, ha]
      have : doneB half s (j + 1) (s + j) = true := by unfold doneB; rw [e1]; simp; omega
      rw [this, if_pos rfl]
      unfold bflyX
      rw [m1, if_pos hj]
    · rw [if_neg h2, h i (by omega)]
      have : doneB half s (j + 1) i = doneB half s j i := by
        unfold doneB
        by_cases hi1 : i < s
        · simp [hi1]
        · by_cases hi2 : i < s + 2 * half
          · have hne : (i - s) % half ≠ j := by
              intro hc
              have hd := Nat.div_add_mod (i - s) half
              have hlt : (i - s) / half < 2 := by
                rw [Nat.div_lt_iff_lt_mul hh]; omega
              rw [hc] at hd
              generalize (i - s) / half = qq at *
              have hq01 : qq = 0 ∨ qq = 1 := by clear hd; omega
              rcases hq01 with h0 | h0
              · rw [h0, Nat.mul_zero] at hd; omega
              · rw [h0, Nat.mul_one] at hd; omega
            simp only [hi1, hi2, decide_false, decide_true, Bool.false_or, Bool.true_and]
            generalize (i - s) % half = r at *
            have e : (r < j + 1) = (r < j) := propext ⟨fun _ => by omega, fun _ => by omega⟩
            simp only [e]
          · simp [hi1, hi2]
      rw [this]
theorem PassAt.next {half step s : Nat} {X T : Nat → Cx} {cur : List (Nat × Nat)} (h : PassAt half step s half X T cur) (hh : 0 < half) : PassAt half step (s + 2 * half) 0 X T cur := by
  intro i hi
  rw [h i hi]
  have : doneB half (s + 2 * half) 0 i = doneB half s half i := by
    unfold doneB
    have hm : (i - s) % half < half := Nat.mod_lt _ hh
    simp only [Nat.not_lt_zero, decide_false, Bool.and_false, Bool.or_false, hm, decide_true, Bool.and_true]
    by_cases h1 : i < s
    · have : i < s + 2 * half := by omega
      simp [h1, this]
    · simp [h1]
  rw [this]
theorem PassAt.start (half step : Nat) {T : Nat → Cx} (xs : List (Nat × Nat)) : PassAt half step 0 0 (fun i => clsC (zat xs i)) T xs := by
  intro i hi
  have : doneB half 0 0 i = false := by unfold doneB; simp
  rw [this]; rfl
theorem PassAt.done {half step n : Nat} {X T : Nat → Cx} {cur : List (Nat × Nat)} (h : PassAt half step n 0 X T cur) (hl : cur.length = n) : ∀ i, i < n → clsC (zat cur i) = bflyX half step X T i := by
  intro i hi
  have := h i (by omega)
  have hd : doneB half n 0 i = true := by unfold doneB; simp [hi]
  rwa [hd, if_pos rfl] at this
end Go.Proofs.Ygctab
