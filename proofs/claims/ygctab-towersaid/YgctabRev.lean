/-
  PLAIN: the bit-reversing permutation as the loop makes it. No Go in sight.
-/
namespace Go.Proofs.Ygctab
set_option linter.unusedVariables false

/-- j, one more, carried from the top down. -/
def nxt : Nat → Nat → Nat → Nat
  | 0, bit, j => j ||| bit
  | f + 1, bit, j => if bit = 0 then j ||| bit else if j &&& bit = 0 then j ||| bit else nxt f (bit / 2) (j ^^^ bit)

def swapL {α : Type} (z : α) (xs : List α) (i j : Nat) : List α := (xs.set i (xs[j]?.getD z)).set j (xs[i]?.getD z)

/-- (the list, j) behind i rounds. -/
def revN {α : Type} (z : α) (xs : List α) : Nat → List α × Nat
  | 0 => (xs, 0)
  | i + 1 => (if i < (revN z xs i).2 then swapL z (revN z xs i).1 i (revN z xs i).2 else (revN z xs i).1, nxt 64 (xs.length / 2) (revN z xs i).2)

def revL {α : Type} (z : α) (xs : List α) : List α := (revN z xs xs.length).1

theorem nxt_lt (k : Nat) : ∀ (f bit j : Nat), bit < 2 ^ k → j < 2 ^ k → nxt f bit j < 2 ^ k
  | 0, bit, j, hb, hj => Nat.or_lt_two_pow hj hb
  | f + 1, bit, j, hb, hj => by
    unfold nxt
    split
    · exact Nat.or_lt_two_pow hj hb
    · split
      · exact Nat.or_lt_two_pow hj hb
      · exact nxt_lt k f _ _ (Nat.lt_of_le_of_lt (Nat.div_le_self _ _) hb) (Nat.xor_lt_two_pow hj hb)

theorem swapL_length {α : Type} (z : α) (xs : List α) (i j : Nat) : (swapL z xs i j).length = xs.length := by simp [swapL]

theorem revN_length {α : Type} (z : α) (xs : List α) (i : Nat) : (revN z xs i).1.length = xs.length := by
  induction i with
  | zero => rfl
  | succ i ih => unfold revN; split <;> simp [swapL_length, ih]

theorem revL_length {α : Type} (z : α) (xs : List α) : (revL z xs).length = xs.length := revN_length z xs _

theorem revN_lt {α : Type} (z : α) (xs : List α) (k : Nat) (h : xs.length = 2 ^ k) (i : Nat) : (revN z xs i).2 < xs.length := by
  induction i with
  | zero => show 0 < _; rw [h]; exact Nat.pow_pos (by decide)
  | succ i ih =>
    unfold revN
    rw [h] at ih ⊢
    exact nxt_lt k 64 _ _ (by have := Nat.pow_pos (n := k) (show 0 < 2 by decide); omega) ih

/-- What holds of every entry holds of every entry behind it. -/
theorem swapL_all {α : Type} (z : α) (xs : List α) (i j : Nat) (hi : i < xs.length) (hj : j < xs.length) (p : α → Prop) (h : ∀ x ∈ xs, p x) : ∀ x ∈ swapL z xs i j, p x := by
  intro x hx
  unfold swapL at hx
  rcases List.mem_or_eq_of_mem_set hx with h' | h'
  · rcases List.mem_or_eq_of_mem_set h' with h'' | h''
    · exact h x h''
    · subst h''
      rw [List.getElem?_eq_getElem hj]
      exact h _ (List.getElem_mem hj)
  · subst h'
    rw [List.getElem?_eq_getElem hi]
    exact h _ (List.getElem_mem hi)

theorem revN_all {α : Type} (z : α) (xs : List α) (k : Nat) (hx : xs.length = 2 ^ k) (p : α → Prop) (h : ∀ x ∈ xs, p x) : ∀ i, i ≤ xs.length → ∀ x ∈ (revN z xs i).1, p x
  | 0, _ => h
  | i + 1, hi => by
    have ih := revN_all z xs k hx p h i (by omega)
    unfold revN
    split
    · exact swapL_all z _ _ _ (by rw [revN_length]; omega) (by rw [revN_length]; exact revN_lt z xs k hx i) p ih
    · exact ih

theorem revL_all {α : Type} (z : α) (xs : List α) (k : Nat) (hx : xs.length = 2 ^ k) (p : α → Prop) (h : ∀ x ∈ xs, p x) : ∀ x ∈ revL z xs, p x := revN_all z xs k hx p h _ (Nat.le_refl _)

theorem nxt_go {f bit j : Nat} (hb : 0 < bit) (hf : bit < 2 ^ f) (h : j &&& bit ≠ 0) : ∃ g, f = g + 1 ∧ bit / 2 < 2 ^ g ∧ nxt f bit j = nxt g (bit / 2) (j ^^^ bit) := by
  cases f with
  | zero => simp at hf; omega
  | succ g => exact ⟨g, rfl, by rw [Nat.pow_succ] at hf; omega, by rw [nxt, if_neg (by omega), if_neg h]⟩
theorem nxt_stop {f bit j : Nat} (h : bit = 0 ∨ j &&& bit = 0) : nxt f bit j = j ||| bit := by
  cases f with
  | zero => rfl
  | succ g =>
    rw [nxt]
    by_cases hb : bit = 0
    · rw [if_pos hb]
    · rw [if_neg hb, if_pos (h.resolve_left hb)]
end Go.Proofs.Ygctab
