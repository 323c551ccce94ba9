import Derived.Test.YgctabDig
namespace Go.Proofs.Ygctab
set_option linter.unusedVariables false

theorem bv_take1 (ds : List Nat) (i : Nat) : bv (ds.take (i + 1)) = bv (ds.take i) + 256 ^ i * (ds[i]?.getD 0) := by
  rcases Nat.lt_or_ge i ds.length with h | h
  · exact bv_take_succ ds i h
  · rw [bv_take_ge ds h, bv_take_ge ds (by omega), List.getElem?_eq_none h]; simp
theorem take_set_same {α : Type} (l : List α) (i : Nat) (x : α) : (l.set i x).take i = l.take i := by
  rw [List.take_set]
  exact List.set_eq_of_length_le (by simp; omega)
theorem bv_set {cur : List Nat} {i r : Nat} (h : i < cur.length) : bv ((cur.set i r).take (i + 1)) = bv (cur.take i) + 256 ^ i * r := by
  rw [bv_take1, take_set_same, List.getElem?_set_self h]; rfl
/-- One place of a sum. -/
theorem carry_step {cur : List Nat} {i c s X d : Nat} (h : i < cur.length) (inv : bv (cur.take i) + c * 256 ^ i = X) (hs : s = d + c) :
    bv ((cur.set i (s % 256)).take (i + 1)) + s / 256 * 256 ^ (i + 1) = X + 256 ^ i * d := by
  rw [bv_set h, ← inv]
  have e : 256 ^ i * (s % 256) + s / 256 * 256 ^ (i + 1) = 256 ^ i * s := by
    rw [Nat.pow_succ, show s / 256 * (256 ^ i * 256) = 256 ^ i * (256 * (s / 256)) by ac_rfl, ← Nat.mul_add]
    congr 1
    omega
  have e2 : 256 ^ i * s = 256 ^ i * d + c * 256 ^ i := by rw [hs, Nat.mul_add, Nat.mul_comm c]
  omega
/-- One place of a difference: the borrow c goes to c'. -/
theorem borrow_step {cur : List Nat} {i c c' r d1 d2 X Y : Nat} (h : i < cur.length) (inv : bv (cur.take i) + Y = X + c * 256 ^ i) (hs : r + d2 + c = d1 + 256 * c') :
    bv ((cur.set i r).take (i + 1)) + (Y + 256 ^ i * d2) = (X + 256 ^ i * d1) + c' * 256 ^ (i + 1) := by
  rw [bv_set h]
  have e : 256 ^ i * r + 256 ^ i * d2 + 256 ^ i * c = 256 ^ i * d1 + c' * 256 ^ (i + 1) := by
    rw [Nat.pow_succ, show c' * (256 ^ i * 256) = 256 ^ i * (256 * c') by ac_rfl, ← Nat.mul_add, ← Nat.mul_add, ← Nat.mul_add, hs]
  have e2 : c * 256 ^ i = 256 ^ i * c := Nat.mul_comm _ _
  omega
theorem dig_lt_of_len {u v : Nat} (h : (dig u).length < (dig v).length) : u < v := by
  have h1 := dig_lt u
  have hv : v ≠ 0 := by intro h0; rw [h0, dig_zero] at h; simp at h
  have h2 := dig_ge hv
  have h3 : 256 ^ (dig u).length ≤ 256 ^ ((dig v).length - 1) := Nat.pow_le_pow_right (by decide) (by omega)
  omega
/-- Digits that agree from i + 1 on and differ at i. -/
theorem bv_lt_at {xs ys : List Nat} (hx : Digs xs) (hl : xs.length = ys.length) {i : Nat} (hi : i < xs.length) (h : xs.drop (i + 1) = ys.drop (i + 1)) (hd : xs[i]?.getD 0 < ys[i]?.getD 0) : bv xs < bv ys := by
  have h1 := bv_split xs (i + 1) (by omega)
  have h2 := bv_split ys (i + 1) (by omega)
  have h3 := bv_take1 xs i
  have h4 := bv_take1 ys i
  have h5 := bv_lt (hx.take i)
  rw [List.length_take, Nat.min_eq_left (by omega)] at h5
  rw [h] at h1
  have h6 : 256 ^ i * (xs[i]?.getD 0 + 1) ≤ 256 ^ i * (ys[i]?.getD 0) := Nat.mul_le_mul_left _ hd
  rw [Nat.mul_add, Nat.mul_one] at h6
  omega
theorem drop_eq_at2 {xs ys : List Nat} {i : Nat} (hx : i < xs.length) (hy : i < ys.length) (h : xs.drop (i + 1) = ys.drop (i + 1)) (hd : xs[i]?.getD 0 = ys[i]?.getD 0) : xs.drop i = ys.drop i := by
  rw [List.drop_eq_getElem_cons hx, List.drop_eq_getElem_cons hy, h]
  rw [List.getElem?_eq_getElem hx, List.getElem?_eq_getElem hy] at hd
  simp at hd
  rw [hd]
/-- -1, 0 or 1. -/
def cmpI (u v : Nat) : Int := if u < v then -1 else if v < u then 1 else 0
end Go.Proofs.Ygctab
