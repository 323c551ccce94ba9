/-
  PLAIN: the number of the convolution is the product of the numbers.
-/
import Derived.Test.YgctabConv
import Derived.Test.YgctabDig2
namespace Go.Proofs.Ygctab
set_option linter.unusedVariables false

/-- A list's entries as whole numbers, 0 behind its end. -/
def atn (ds : List Nat) (i : Nat) : Int := ((ds[i]?.getD 0 : Nat) : Int)
theorem atn_zero {ds : List Nat} {i : Nat} (h : ds.length ≤ i) : atn ds i = 0 := by unfold atn; rw [List.getElem?_eq_none h]; rfl
theorem atn_nonneg (ds : List Nat) (i : Nat) : 0 ≤ atn ds i := by unfold atn; omega
theorem bv_sm (ds : List Nat) (N : Nat) (h : ds.length ≤ N) : (bv ds : Int) = sm N fun i => atn ds i * 256 ^ i := by
  have key : ∀ N, (bv (ds.take N) : Int) = sm N fun i => atn ds i * 256 ^ i := by
    intro N
    induction N with
    | zero => simp [bv, sm]
    | succ N ih =>
      rw [bv_take1, sm, ← ih]
      unfold atn
      rw [Int.natCast_add, Int.natCast_mul, Int.natCast_pow, Int.mul_comm]
      rfl
  have := key N
  rwa [bv_take_ge ds h] at this

theorem cv_value (x y : Nat → Int) (la lb N M : Nat) (hx : ∀ i, la ≤ i → x i = 0) (hy : ∀ i, lb ≤ i → y i = 0) (hM : la + lb ≤ M + 1) (hN : la ≤ N) (hN' : lb ≤ N) (hMN : M ≤ N) (hla : 1 ≤ la) (hlb : 1 ≤ lb) (hM' : M + 1 = la + lb) :
    (sm N fun i => x i * 256 ^ i) * (sm N fun l => y l * 256 ^ l) = sm M fun m => cv x y m * 256 ^ m := by
  have h1 : (sm N fun i => x i * 256 ^ i) * (sm N fun l => y l * 256 ^ l) = sm N fun i => sm N fun l => sm M fun m => if m = i + l then x i * y l * 256 ^ m else 0 := by
    rw [← sm_mulr]
    refine sm_congr fun i _ => ?_
    rw [← sm_mul]
    refine sm_congr fun l _ => ?_
    by_cases hz : x i = 0 ∨ y l = 0
    · have z : x i * y l = 0 := by rcases hz with h | h <;> rw [h] <;> simp
      have e : (sm M fun m => if m = i + l then x i * y l * 256 ^ m else 0) = 0 := by
        rw [sm_congr (g := fun _ => 0) (fun m _ => by rw [z]; simp), sm_zero]
      rw [e]
      have : x i * 256 ^ i * (y l * 256 ^ l) = x i * y l * (256 ^ i * 256 ^ l) := by grind
      rw [this, z]; simp
    · have hi : i < la := by
        rcases Nat.lt_or_ge i la with h | h
        · exact h
        · exact absurd (.inl (hx i h)) hz
      have hl : l < lb := by
        rcases Nat.lt_or_ge l lb with h | h
        · exact h
        · exact absurd (.inr (hy l h)) hz
      rw [sm_pick (l := i + l) (by omega) (fun m => x i * y l * 256 ^ m), Int.pow_add]
      grind
  have h2 : (sm N fun i => sm N fun l => sm M fun m => if m = i + l then x i * y l * 256 ^ m else 0) = sm M fun m => sm N fun i => sm N fun l => if m = i + l then x i * y l * 256 ^ m else 0 := by
    rw [sm_congr (fun i _ => sm_comm N M (fun l m => if m = i + l then x i * y l * 256 ^ m else 0))]
    exact sm_comm N M (fun i m => sm N fun l => if m = i + l then x i * y l * 256 ^ m else 0)
  rw [h1, h2]
  refine sm_congr fun m hm => ?_
  have h3 : (sm N fun i => sm N fun l => if m = i + l then x i * y l * 256 ^ m else 0) = sm N fun i => if i ≤ m then x i * y (m - i) * 256 ^ m else 0 := by
    refine sm_congr fun i _ => ?_
    by_cases hi : i ≤ m
    · rw [if_pos hi]
      have : (sm N fun l => if m = i + l then x i * y l * 256 ^ m else 0) = sm N fun l => if l = m - i then x i * y l * 256 ^ m else 0 := by
        refine sm_congr fun l _ => ?_
        by_cases h : l = m - i
        · rw [if_pos h, if_pos (by omega)]
        · rw [if_neg h, if_neg (by omega)]
      rw [this]
      exact sm_pick (by omega) (fun l => x i * y l * 256 ^ m)
    · rw [if_neg hi, sm_congr (g := fun _ => 0) (fun l _ => if_neg (by omega)), sm_zero]
  rw [h3]
  obtain ⟨d, rfl⟩ : ∃ d, N = m + 1 + d := ⟨N - (m + 1), by omega⟩
  rw [sm_append]
  have b : (sm d fun i => if m + 1 + i ≤ m then x (m + 1 + i) * y (m - (m + 1 + i)) * 256 ^ m else 0) = 0 := by
    rw [sm_congr (g := fun _ => 0) (fun i _ => if_neg (by omega)), sm_zero]
  rw [b, Int.add_zero]
  unfold cv
  rw [← sm_mulr]
  exact sm_congr fun i hi => if_pos (by omega)

/-- The convolution of two lists of digits. -/
def convL (xs ys : List Nat) : List Nat := (List.range (xs.length + ys.length - 1)).map fun m => (cv (atn xs) (atn ys) m).toNat
theorem convL_length (xs ys : List Nat) : (convL xs ys).length = xs.length + ys.length - 1 := by simp [convL]
theorem cv_nonneg (xs ys : List Nat) (m : Nat) : 0 ≤ cv (atn xs) (atn ys) m := sm_nonneg fun i _ => Int.mul_nonneg (atn_nonneg _ _) (atn_nonneg _ _)
theorem convL_at (xs ys : List Nat) {m : Nat} (h : m < xs.length + ys.length - 1) : ((convL xs ys)[m]?.getD 0 : Nat) = (cv (atn xs) (atn ys) m).toNat := by
  simp [convL, List.getElem?_map, List.getElem?_range h]
theorem convL_atn (xs ys : List Nat) {m : Nat} (h : m < xs.length + ys.length - 1) : atn (convL xs ys) m = cv (atn xs) (atn ys) m := by
  unfold atn
  rw [convL_at xs ys h]
  exact Int.toNat_of_nonneg (cv_nonneg xs ys m)
theorem cv_small {xs ys : List Nat} (hx : Digs xs) (hy : Digs ys) (hl : xs.length ≤ 512) (m : Nat) : cv (atn xs) (atn ys) m ≤ 33292800 := by
  have dx : ∀ i, atn xs i ≤ 255 := fun i => by have := hx.at i; unfold atn; omega
  have dy : ∀ i, atn ys i ≤ 255 := fun i => by have := hy.at i; unfold atn; omega
  have hb : ∀ i, atn xs i * atn ys (m - i) ≤ if i < 512 then 65025 else 0 := fun i => by
    by_cases h : i < 512
    · rw [if_pos h]
      have h1 : atn xs i * atn ys (m - i) ≤ 255 * atn ys (m - i) := Int.mul_le_mul_of_nonneg_right (dx i) (atn_nonneg _ _)
      have h2 := dy (m - i)
      omega
    · rw [if_neg h, atn_zero (by omega)]; simp
  have hs : ∀ K, (sm K fun i => if i < 512 then (65025 : Int) else 0) ≤ (if K ≤ 512 then (K : Int) * 65025 else 33292800) := by
    intro K
    induction K with
    | zero => simp [sm]
    | succ K ih =>
      rw [sm]
      by_cases h : K < 512
      · rw [if_pos h, if_pos (by omega)]
        rw [if_pos (by omega)] at ih
        omega
      · rw [if_neg h, if_neg (by omega)]
        by_cases h2 : K ≤ 512
        · rw [if_pos h2] at ih; omega
        · rw [if_neg h2] at ih; omega
  have h1 : cv (atn xs) (atn ys) m ≤ sm (m + 1) fun i => if i < 512 then (65025 : Int) else 0 := sm_le fun i _ => hb i
  have h2 := hs (m + 1)
  by_cases h : m + 1 ≤ 512
  · rw [if_pos h] at h2; omega
  · rw [if_neg h] at h2; omega
theorem convL_small {xs ys : List Nat} (hx : Digs xs) (hy : Digs ys) (hl : xs.length ≤ 512) : ∀ c ∈ convL xs ys, c ≤ 33292800 := by
  intro c hc
  simp only [convL, List.mem_map] at hc
  obtain ⟨m, _, rfl⟩ := hc
  have h1 := cv_small hx hy hl m
  have h2 := cv_nonneg xs ys m
  omega
/-- The number of the convolution. -/
theorem convL_value (xs ys : List Nat) (hx : 1 ≤ xs.length) (hy : 1 ≤ ys.length) : bv (convL xs ys) = bv xs * bv ys := by
  have h1 := bv_sm xs (xs.length + ys.length) (by omega)
  have h2 := bv_sm ys (xs.length + ys.length) (by omega)
  have h3 := bv_sm (convL xs ys) (xs.length + ys.length - 1) (by rw [convL_length]; exact Nat.le_refl _)
  have h4 := cv_value (atn xs) (atn ys) xs.length ys.length (xs.length + ys.length) (xs.length + ys.length - 1) (fun i h => atn_zero h) (fun i h => atn_zero h) (by omega) (by omega) (by omega) (by omega) hx hy (by omega)
  have h5 : (sm (xs.length + ys.length - 1) fun i => atn (convL xs ys) i * 256 ^ i) = sm (xs.length + ys.length - 1) fun m => cv (atn xs) (atn ys) m * 256 ^ m := sm_congr fun m hm => by rw [convL_atn xs ys hm]
  have : (bv (convL xs ys) : Int) = ((bv xs * bv ys : Nat) : Int) := by
    rw [h3, h5, ← h4, ← h1, ← h2]; simp
  exact Int.ofNat.inj this
end Go.Proofs.Ygctab
