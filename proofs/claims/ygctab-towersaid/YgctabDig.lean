import Derived.Test.YgctabRev
namespace Go.Proofs.Ygctab
set_option linter.unusedVariables false

/-- The number that digits of base 256 stand for, the least first. -/
def bv : List Nat → Nat
  | [] => 0
  | d :: ds => d + 256 * bv ds
/-- All are digits. -/
def Digs (ds : List Nat) : Prop := ∀ d ∈ ds, d < 256
/-- A number's digits, no zero at the top. -/
def dig (v : Nat) : List Nat := if h : v = 0 then [] else v % 256 :: dig (v / 256)
termination_by v
decreasing_by omega

theorem dig_zero : dig 0 = [] := by rw [dig]; simp
theorem dig_pos {v : Nat} (h : v ≠ 0) : dig v = v % 256 :: dig (v / 256) := by rw [dig]; simp [h]
theorem bv_dig (v : Nat) : bv (dig v) = v := by
  induction v using Nat.strongRecOn with
  | ind v ih =>
    by_cases h : v = 0
    · subst h; rw [dig_zero]; rfl
    · rw [dig_pos h, bv, ih (v / 256) (by omega)]; omega
theorem dig_digs (v : Nat) : Digs (dig v) := by
  induction v using Nat.strongRecOn with
  | ind v ih =>
    by_cases h : v = 0
    · subst h; rw [dig_zero]; intro d hd; simp at hd
    · rw [dig_pos h]
      intro d hd
      rcases List.mem_cons.1 hd with rfl | hd
      · omega
      · exact ih (v / 256) (by omega) d hd
theorem Digs.tail {d : Nat} {ds : List Nat} (h : Digs (d :: ds)) : Digs ds := fun x hx => h x (List.mem_cons_of_mem _ hx)
theorem Digs.head {d : Nat} {ds : List Nat} (h : Digs (d :: ds)) : d < 256 := h d (List.mem_cons_self ..)
theorem Digs.take {ds : List Nat} (h : Digs ds) (n : Nat) : Digs (ds.take n) := fun x hx => h x (List.mem_of_mem_take hx)
theorem Digs.drop {ds : List Nat} (h : Digs ds) (n : Nat) : Digs (ds.drop n) := fun x hx => h x (List.mem_of_mem_drop hx)
theorem Digs.append {a b : List Nat} (h : Digs a) (k : Digs b) : Digs (a ++ b) := fun x hx => (List.mem_append.1 hx).elim (h x) (k x)
theorem Digs.nil : Digs [] := fun x hx => by simp at hx
theorem digs_zero (n : Nat) : Digs (List.replicate n 0) := fun x hx => by have := List.eq_of_mem_replicate hx; omega
theorem Digs.set {ds : List Nat} (h : Digs ds) (i : Nat) {d : Nat} (hd : d < 256) : Digs (ds.set i d) := by
  intro x hx
  rcases List.mem_or_eq_of_mem_set hx with hx | rfl
  · exact h x hx
  · exact hd
theorem Digs.at {ds : List Nat} (h : Digs ds) (i : Nat) : ds[i]?.getD 0 < 256 := by
  cases hi : ds[i]? with
  | none => simp
  | some v => exact h v (List.mem_of_getElem? hi)

theorem bv_append (a b : List Nat) : bv (a ++ b) = bv a + 256 ^ a.length * bv b := by
  induction a with
  | nil => simp [bv]
  | cons d a ih => simp only [List.cons_append, bv, ih, List.length_cons, Nat.pow_succ]; rw [Nat.mul_add, ← Nat.mul_assoc, Nat.mul_comm (256 ^ a.length) 256]; omega
theorem bv_zeros (n : Nat) : bv (List.replicate n 0) = 0 := by
  induction n with
  | zero => rfl
  | succ n ih => simp [List.replicate_succ, bv, ih]
theorem bv_lt {ds : List Nat} (h : Digs ds) : bv ds < 256 ^ ds.length := by
  induction ds with
  | nil => simp [bv]
  | cons d ds ih =>
    have h1 := h.head
    have h2 := ih h.tail
    simp only [bv, List.length_cons, Nat.pow_succ]
    omega
theorem bv_split (ds : List Nat) (n : Nat) (h : n ≤ ds.length) : bv ds = bv (ds.take n) + 256 ^ n * bv (ds.drop n) := by
  have h1 := bv_append (ds.take n) (ds.drop n)
  rw [List.take_append_drop, List.length_take, Nat.min_eq_left h] at h1
  exact h1
theorem bv_take_succ (ds : List Nat) (i : Nat) (h : i < ds.length) : bv (ds.take (i + 1)) = bv (ds.take i) + 256 ^ i * (ds[i]?.getD 0) := by
  rw [List.take_add_one, bv_append, List.length_take, Nat.min_eq_left (Nat.le_of_lt h), List.getElem?_eq_getElem h]
  simp [bv]
theorem bv_take_all (ds : List Nat) : bv (ds.take ds.length) = bv ds := by rw [List.take_length]
theorem bv_take_ge (ds : List Nat) {i : Nat} (h : ds.length ≤ i) : bv (ds.take i) = bv ds := by rw [List.take_of_length_le h]

theorem dig_length_le {v n : Nat} (h : v < 256 ^ n) : (dig v).length ≤ n := by
  induction n generalizing v with
  | zero => have : v = 0 := by simpa using h
            subst this; rw [dig_zero]; simp
  | succ n ih =>
    by_cases h0 : v = 0
    · subst h0; rw [dig_zero]; simp
    · rw [dig_pos h0, List.length_cons]
      have := ih (v := v / 256) (by rw [Nat.pow_succ] at h; omega)
      omega
theorem dig_lt (v : Nat) : v < 256 ^ (dig v).length := by
  have := bv_lt (dig_digs v)
  rwa [bv_dig] at this
theorem dig_ge {v : Nat} (h : v ≠ 0) : 256 ^ ((dig v).length - 1) ≤ v := by
  induction v using Nat.strongRecOn with
  | ind v ih =>
    rw [dig_pos h, List.length_cons, Nat.add_sub_cancel]
    by_cases h1 : v / 256 = 0
    · rw [h1, dig_zero]; simp; omega
    · have h2 := ih (v / 256) (by omega) h1
      have h3 : (dig (v / 256)).length ≠ 0 := by rw [dig_pos h1]; simp
      obtain ⟨k, hk⟩ : ∃ k, (dig (v / 256)).length = k + 1 := ⟨(dig (v / 256)).length - 1, by omega⟩
      rw [hk] at h2 ⊢
      rw [Nat.add_sub_cancel] at h2
      rw [Nat.pow_succ]
      omega
theorem dig_length_pos {v : Nat} (h : v ≠ 0) : 0 < (dig v).length := by rw [dig_pos h]; simp
theorem dig_nil {v : Nat} : dig v = [] ↔ v = 0 := by
  constructor
  · intro h
    have := bv_dig v
    rw [h] at this
    exact this.symm
  · rintro rfl; exact dig_zero

/-- Digits whose last is not 0 are the digits of their number. -/
theorem dig_bv {ds : List Nat} (h : Digs ds) (ht : ds = [] ∨ ds[ds.length - 1]?.getD 0 ≠ 0) : dig (bv ds) = ds := by
  induction ds with
  | nil => exact dig_zero
  | cons d ds ih =>
    have h1 := h.head
    cases ds with
    | nil =>
      have hd : d ≠ 0 := by
        rcases ht with ht | ht
        · simp at ht
        · simpa using ht
      simp only [bv, Nat.mul_zero, Nat.add_zero]
      rw [dig_pos hd, show d / 256 = 0 by omega, dig_zero, Nat.mod_eq_of_lt h1]
    | cons e es =>
      have h2 := ih h.tail (.inr (by
        rcases ht with ht | ht
        · simp at ht
        · simpa using ht))
      have h3 : bv (e :: es) ≠ 0 := by
        intro h0
        rw [h0, dig_zero] at h2
        simp at h2
      rw [show bv (d :: e :: es) = d + 256 * bv (e :: es) from rfl, dig_pos (by omega), show (d + 256 * bv (e :: es)) % 256 = d by omega, show (d + 256 * bv (e :: es)) / 256 = bv (e :: es) by omega, h2]
theorem dig_top {v : Nat} (h : v ≠ 0) : (dig v)[(dig v).length - 1]?.getD 0 ≠ 0 := by
  have h1 := dig_ge h
  have h2 := bv_split (dig v) ((dig v).length - 1) (by omega)
  have h3 := dig_length_pos h
  have h4 := bv_lt ((dig_digs v).take ((dig v).length - 1))
  rw [bv_dig] at h2
  intro h0
  have h5 : (dig v).drop ((dig v).length - 1) = [(dig v)[(dig v).length - 1]?.getD 0] := by
    rw [List.drop_eq_getElem_cons (by omega), List.drop_of_length_le (by omega)]
    rw [List.getElem?_eq_getElem (by omega)]
    rfl
  rw [h5, h0] at h2
  simp only [bv] at h2
  rw [List.length_take] at h4
  rw [Nat.min_eq_left (by omega)] at h4
  omega

/-- Zeros cut off the top: what is left, if its last digit is not 0, is the number's digits. -/
theorem dig_of_cut {ds : List Nat} (h : Digs ds) {n : Nat} (hn : n ≤ ds.length) (hz : ∀ i, n ≤ i → i < ds.length → ds[i]?.getD 0 = 0) (ht : n = 0 ∨ ds[n - 1]?.getD 0 ≠ 0) : dig (bv ds) = ds.take n := by
  have h0 : ds.drop n = List.replicate (ds.length - n) 0 := by
    refine List.ext_getElem (by simp) fun i h1 h2 => ?_
    have h3 : n + i < ds.length := by simp at h1; omega
    have := hz (n + i) (by omega) h3
    rw [List.getElem?_eq_getElem h3] at this
    simpa using this
  rw [bv_split ds n hn, h0, bv_zeros, Nat.mul_zero, Nat.add_zero]
  refine dig_bv (h.take n) ?_
  rcases ht with rfl | ht
  · exact .inl (by simp)
  · by_cases hn0 : n = 0
    · subst hn0; exact .inl (by simp)
    · right
      rw [List.length_take, Nat.min_eq_left hn, List.getElem?_take, if_pos (by omega)]
      exact ht
theorem dig_pad {ds : List Nat} (h : Digs ds) : ds = dig (bv ds) ++ List.replicate (ds.length - (dig (bv ds)).length) 0 := by
  induction ds with
  | nil => rw [show bv [] = 0 from rfl, dig_zero]; rfl
  | cons d ds ih =>
    have h1 := h.head
    have h2 := ih h.tail
    by_cases h0 : bv (d :: ds) = 0
    · have hd : d = 0 := by simp only [bv] at h0; omega
      have hb : bv ds = 0 := by simp only [bv] at h0; omega
      rw [h0, dig_zero, List.nil_append, List.length_nil, Nat.sub_zero, List.length_cons, List.replicate_succ]
      rw [hb, dig_zero, List.nil_append, List.length_nil, Nat.sub_zero] at h2
      rw [hd, ← h2]
    · rw [dig_pos h0, show bv (d :: ds) % 256 = d by simp only [bv]; omega, show bv (d :: ds) / 256 = bv ds by simp only [bv]; omega]
      simp only [List.cons_append, List.length_cons, Nat.add_sub_add_right]
      rw [← h2]
theorem dig_take {ds : List Nat} (h : Digs ds) : dig (bv ds) = ds.take (dig (bv ds)).length := by
  have h1 := dig_pad h
  have h2 : (dig (bv ds) ++ List.replicate (ds.length - (dig (bv ds)).length) 0).take (dig (bv ds)).length = dig (bv ds) := by simp
  rw [← h1] at h2
  exact h2.symm
theorem dig_len {ds : List Nat} (h : Digs ds) : (dig (bv ds)).length ≤ ds.length := dig_length_le (bv_lt h)
theorem dig_inj {u v : Nat} (h : dig u = dig v) : u = v := by rw [← bv_dig u, h, bv_dig]

end Go.Proofs.Ygctab
