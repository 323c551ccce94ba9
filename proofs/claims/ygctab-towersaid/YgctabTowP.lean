import Derived.Test.YgctabTowG
namespace Go.Proofs.Ygctab
open Go.RowKit
set_option linter.unusedVariables false
set_option linter.unusedSimpArgs false
set_option exponentiation.threshold 9000

/-! The table of the calculator, on plain numbers. -/
def topV (vs : List Nat) : Nat := vs[vs.length - 1]?.getD 0
def lowV (vs : List Nat) : Nat := vs[vs.length - 2]?.getD 0
def noP (vs : List Nat) (os : List Int) : List Nat × List Int := (vs, os ++ [-2])
/-- The count top entries out, x in. -/
def putP (vs : List Nat) (c x : Nat) : List Nat := vs.take (vs.length - c) ++ [x]
def rowP (k t : Nat) (vs : List Nat) (os : List Int) : List Nat × List Int :=
  match k with
  | 0 => if vs.length = 16 then noP vs os else (vs ++ [t], os)
  | 1 => if vs.length < 2 ∨ 512 < (dig (lowV vs)).length ∨ 512 < (dig (topV vs)).length then noP vs os else (putP vs 2 (lowV vs * topV vs), os)
  | 2 => if vs.length < 2 ∨ 1024 < (dig (lowV vs + topV vs)).length then noP vs os else (putP vs 2 (lowV vs + topV vs), os)
  | 3 => if vs.length < 2 then noP vs os else if lowV vs < topV vs then (putP vs 2 0, os ++ [-4]) else (putP vs 2 (lowV vs - topV vs), os)
  | 4 => if vs.length = 0 ∨ 512 < (dig (topV vs)).length then noP vs os else (putP vs 1 (topV vs * topV vs), os)
  | 5 => if vs.length < 2 then noP vs os else (vs, os ++ [cmpI (lowV vs) (topV vs)])
  | 6 => if vs.length = 0 ∨ vs.length = 16 then noP vs os else (vs ++ [topV vs], os)
  | 7 => if vs.length < 2 then noP vs os else (putP vs 2 (topV vs) ++ [lowV vs], os)
  | 8 => if vs.length = 0 then noP vs os else (vs.take (vs.length - 1), os)
  | _ => (vs, os)

theorem putP_length {vs : List Nat} {c x : Nat} (h : c ≤ vs.length) : (putP vs c x).length + c = vs.length + 1 := by simp [putP]; omega

/-- At most 16 entries, each of at most 1024 digits. -/
def Bnd (vs : List Nat) : Prop := vs.length ≤ 16 ∧ ∀ v ∈ vs, (dig v).length ≤ 1024
theorem Bnd.nil : Bnd [] := ⟨by decide, fun v h => nomatch h⟩
theorem dig_len0 : (dig 0).length ≤ 1024 := by rw [dig_zero]; decide
theorem Bnd.at {vs : List Nat} (h : Bnd vs) (i : Nat) : (dig (vs[i]?.getD 0)).length ≤ 1024 := by
  cases e : vs[i]? with
  | none => exact dig_len0
  | some x => exact h.2 x (List.mem_of_getElem? e)
theorem Bnd.top {vs : List Nat} (h : Bnd vs) : (dig (topV vs)).length ≤ 1024 := h.at _
theorem Bnd.low {vs : List Nat} (h : Bnd vs) : (dig (lowV vs)).length ≤ 1024 := h.at _
theorem Bnd.take {vs : List Nat} (h : Bnd vs) (k : Nat) : Bnd (vs.take k) := ⟨by have := h.1; simp; omega, fun v hv => h.2 v (List.mem_of_mem_take hv)⟩
theorem Bnd.push {vs : List Nat} (h : Bnd vs) (hl : vs.length < 16) {x : Nat} (hx : (dig x).length ≤ 1024) : Bnd (vs ++ [x]) := by
  refine ⟨by simp; omega, fun v hv => ?_⟩
  rcases List.mem_append.1 hv with h1 | h1
  · exact h.2 v h1
  · rw [List.mem_singleton.1 h1]; exact hx
theorem Bnd.put {vs : List Nat} (h : Bnd vs) {c x : Nat} (hc : 1 ≤ c) (hl : c ≤ vs.length) (hx : (dig x).length ≤ 1024) : Bnd (putP vs c x) :=
  (h.take _).push (by have := h.1; simp; omega) hx
theorem dig_ltN {v n : Nat} (h : (dig v).length ≤ n) : v < 256 ^ n := by
  have h1 := bv_lt (dig_digs v)
  rw [bv_dig] at h1
  exact Nat.lt_of_lt_of_le h1 (Nat.pow_le_pow_right (by decide) h)
theorem Bnd.row {k t : Nat} {vs : List Nat} {os : List Int} (h : Bnd vs) (ht : (dig t).length ≤ 1024) : Bnd (rowP k t vs os).1 := by
  have h16 := h.1
  have hmul : ∀ {x y : Nat}, (dig x).length ≤ 512 → (dig y).length ≤ 512 → (dig (x * y)).length ≤ 1024 := fun {x y} hx hy => by
    refine dig_length_le ?_
    have h1 := Nat.mul_lt_mul'' (dig_ltN hx) (dig_ltN hy)
    rw [← Nat.pow_add] at h1
    exact h1
  unfold rowP
  split
  · split
    · exact h
    · exact h.push (by omega) ht
  · split
    · exact h
    · rename_i hq
      exact h.put (by decide) (by omega) (hmul (by omega) (by omega))
  · split
    · exact h
    · rename_i hq
      exact h.put (by decide) (by omega) (by omega)
  · split
    · exact h
    · split
      · exact h.put (by decide) (by omega) dig_len0
      · refine h.put (by decide) (by omega) (dig_length_le (Nat.lt_of_le_of_lt (Nat.sub_le _ _) (dig_ltN h.low)))
  · split
    · exact h
    · rename_i hq
      exact h.put (by decide) (by omega) (hmul (by omega) (by omega))
  · split <;> exact h
  · split
    · exact h
    · exact h.push (by omega) h.top
  · split
    · exact h
    · have hp := putP_length (vs := vs) (c := 2) (x := topV vs) (by omega)
      exact (h.put (by decide) (by omega) h.top).push (by omega) h.low
  · split
    · exact h
    · exact h.take _
  · exact h
theorem row_out (k t : Nat) (vs : List Nat) (os : List Int) : (rowP k t vs os).2.length ≤ os.length + 1 := by
  unfold rowP noP
  split <;> (repeat' split) <;> simp <;> omega

/-- A script: kind and number of each operation. -/
def runP : List (Nat × Nat) → List Nat → List Int → List Nat × List Int
  | [], vs, os => (vs, os)
  | o :: r, vs, os => runP r (rowP o.1 o.2 vs os).1 (rowP o.1 o.2 vs os).2
theorem runP_snoc (l : List (Nat × Nat)) (o : Nat × Nat) (vs : List Nat) (os : List Int) : runP (l ++ [o]) vs os = rowP o.1 o.2 (runP l vs os).1 (runP l vs os).2 := by
  induction l generalizing vs os with
  | nil => rfl
  | cons x r ih => exact ih _ _
theorem runP_out (l : List (Nat × Nat)) (vs : List Nat) (os : List Int) : (runP l vs os).2.length ≤ os.length + l.length := by
  induction l generalizing vs os with
  | nil => simp [runP]
  | cons x r ih =>
    have h1 := ih (rowP x.1 x.2 vs os).1 (rowP x.1 x.2 vs os).2
    have h2 := row_out x.1 x.2 vs os
    simp only [runP, List.length_cons]
    omega
theorem runP_bnd (l : List (Nat × Nat)) (hl : ∀ o ∈ l, (dig o.2).length ≤ 1024) (vs : List Nat) (os : List Int) (h : Bnd vs) : Bnd (runP l vs os).1 := by
  induction l generalizing vs os with
  | nil => exact h
  | cons x r ih => exact ih (fun o ho => hl o (List.mem_cons_of_mem _ ho)) _ _ (h.row (hl x (List.mem_cons_self ..)))
end Go.Proofs.Ygctab
