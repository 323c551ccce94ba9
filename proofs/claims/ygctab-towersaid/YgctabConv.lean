/-
  PLAIN: two transforms, multiplied point by point and turned back, are the convolution, mod P.
-/
import Derived.Test.YgctabSum
namespace Go.Proofs.Ygctab
set_option linter.unusedVariables false

/-- The sums of the products whose places add up to m. -/
def cv (x y : Nat → Int) (m : Nat) : Int := sm (m + 1) fun i => x i * y (m - i)

theorem odd_part (k : Nat) : ∀ r, ¬ 2 ^ k ∣ r → ∃ s q, s < k ∧ r = 2 ^ s * (2 * q + 1) := by
  induction k with
  | zero => intro r h; simp at h
  | succ k ih =>
    intro r h
    rcases Nat.mod_two_eq_zero_or_one r with e | e
    · obtain ⟨s, q, hs, hr⟩ := ih (r / 2) (fun ⟨c, hc⟩ => h ⟨c, by rw [Nat.pow_succ]; have : r = 2 * (r / 2) := by omega
                                                                   rw [this, hc]; ac_rfl⟩)
      exact ⟨s + 1, q, by omega, by rw [Nat.pow_succ]; have : r = 2 * (r / 2) := by omega
                                    rw [this, hr]; ac_rfl⟩
    · exact ⟨0, r / 2, by omega, by rw [Nat.pow_zero]; omega⟩

theorem neg_one_odd (q : Nat) : (-1 : Int) ^ (2 * q + 1) = -1 := by
  induction q with
  | zero => rfl
  | succ q ih => rw [show 2 * (q + 1) + 1 = 2 * q + 1 + 2 by omega, Int.pow_add, ih]; rfl

/-- The powers of a root of order 2^k, over a whole turn. -/
theorem geo_cg (k : Nat) (v : Int) (hv : cg (v ^ 2 ^ (k - 1)) (-1)) (hk : 1 ≤ k) (r : Nat) : cg (sm (2 ^ k) fun p => v ^ (p * r)) (if 2 ^ k ∣ r then ((2 ^ k : Nat) : Int) else 0) := by
  have hv2 : cg (v ^ 2 ^ k) 1 := by
    have := hv.mul hv
    rw [← Int.pow_add, show 2 ^ (k - 1) + 2 ^ (k - 1) = 2 ^ k by rw [← Nat.two_mul, ← Nat.pow_succ']; congr 1; omega] at this
    exact this.trans (cg.of_eq (by omega))
  by_cases h : 2 ^ k ∣ r
  · rw [if_pos h]
    obtain ⟨c, hc⟩ := h
    have : cg (sm (2 ^ k) fun p => v ^ (p * r)) (sm (2 ^ k) fun _ => 1) := by
      refine cg.sm fun p _ => ?_
      rw [hc, show p * (2 ^ k * c) = 2 ^ k * (p * c) by ac_rfl, show v ^ (2 ^ k * (p * c)) = (v ^ 2 ^ k) ^ (p * c) from Int.pow_mul]
      have := hv2.pow (p * c)
      rwa [Int.one_pow] at this
    refine this.trans (cg.of_eq ?_)
    rw [sm_const]
    omega
  · rw [if_neg h]
    obtain ⟨s, q, hs, hr⟩ := odd_part k r h
    have e : 2 ^ k = 2 ^ s * (2 * 2 ^ (k - 1 - s)) := by rw [← Nat.pow_succ', ← Nat.pow_add]; congr 1; omega
    rw [e]
    refine sm_cancel_cg (2 ^ (k - 1 - s)) (2 ^ s) _ fun p => ?_
    have e2 : (p + 2 ^ (k - 1 - s)) * r = p * r + 2 ^ (k - 1) * (2 * q + 1) := by
      rw [Nat.add_mul]
      congr 1
      rw [hr, ← Nat.mul_assoc, ← Nat.pow_add]
      congr 2
      omega
    rw [e2, Int.pow_add, show v ^ (2 ^ (k - 1) * (2 * q + 1)) = (v ^ 2 ^ (k - 1)) ^ (2 * q + 1) from Int.pow_mul]
    have := hv.pow (2 * q + 1)
    rw [neg_one_odd] at this
    exact ((cg.refl _).mul this).trans (cg.of_eq (by omega))

theorem conv_cg (k : Nat) (v u ni : Int) (x y : Nat → Int) (la lb : Nat) (hk : 1 ≤ k) (hv : cg (v ^ 2 ^ (k - 1)) (-1)) (huv : cg (v * u) 1) (hni : cg (ni * ((2 ^ k : Nat) : Int)) 1)
    (hx : ∀ i, la ≤ i → x i = 0) (hy : ∀ i, lb ≤ i → y i = 0) (hl : la + lb ≤ 2 ^ k + 1) (m : Nat) (hm : m < 2 ^ k) :
    cg (ni * sm (2 ^ k) fun p => (sm (2 ^ k) fun i => x i * v ^ (i * p)) * (sm (2 ^ k) fun l => y l * v ^ (l * p)) * u ^ (p * m)) (cv x y m) := by
  have hv2 : cg (v ^ 2 ^ k) 1 := by
    have := hv.mul hv
    rw [← Int.pow_add, show 2 ^ (k - 1) + 2 ^ (k - 1) = 2 ^ k by rw [← Nat.two_mul, ← Nat.pow_succ']; congr 1; omega] at this
    exact this.trans (cg.of_eq (by omega))
  obtain ⟨n, hn⟩ : ∃ n, n = 2 ^ k := ⟨_, rfl⟩
  have hgeo := geo_cg k v hv hk
  rw [← hn] at hv2 hni hl hm hgeo ⊢
  have hn1 : 1 ≤ n := by omega
  have hu : cg u (v ^ (n - 1)) := by
    have h1 : cg (u * v ^ n) u := ((cg.refl u).mul hv2).trans (cg.of_eq (Int.mul_one _))
    refine h1.symm.trans ?_
    have e : u * v ^ n = v * u * v ^ (n - 1) := by
      rw [show n = n - 1 + 1 by omega, Int.pow_succ, Nat.add_sub_cancel]; grind
    rw [e]
    exact (huv.mul (cg.refl _)).trans (cg.of_eq (Int.one_mul _))
  -- the sum over p inside
  have h1 : cg (sm n fun p => (sm n fun i => x i * v ^ (i * p)) * (sm n fun l => y l * v ^ (l * p)) * u ^ (p * m)) (sm n fun p => sm n fun i => sm n fun l => x i * y l * v ^ (p * (i + l + (n - 1) * m))) := by
    refine cg.sm fun p _ => ?_
    have a : cg (u ^ (p * m)) (v ^ ((n - 1) * (p * m))) := by
      have := hu.pow (p * m)
      rwa [← show v ^ ((n - 1) * (p * m)) = (v ^ (n - 1)) ^ (p * m) from Int.pow_mul] at this
    refine ((cg.refl _).mul a).trans (cg.of_eq ?_)
    rw [← sm_mulr, ← sm_mulr]
    refine sm_congr fun i _ => ?_
    rw [Int.mul_assoc, ← sm_mulr, ← sm_mul]
    refine sm_congr fun l _ => ?_
    rw [show p * (i + l + (n - 1) * m) = i * p + (l * p + (n - 1) * (p * m)) by rw [Nat.mul_add, Nat.mul_add, show p * ((n - 1) * m) = (n - 1) * (p * m) by ac_rfl, Nat.mul_comm p i, Nat.mul_comm p l, Nat.add_assoc], Int.pow_add, Int.pow_add]
    grind
  have h2 : (sm n fun p => sm n fun i => sm n fun l => x i * y l * v ^ (p * (i + l + (n - 1) * m))) = sm n fun i => sm n fun l => x i * y l * sm n fun p => v ^ (p * (i + l + (n - 1) * m)) := by
    rw [sm_comm]
    refine sm_congr fun i _ => ?_
    rw [sm_comm]
    exact sm_congr fun l _ => sm_mul _ _ _
  have h3 : cg (sm n fun i => sm n fun l => x i * y l * sm n fun p => v ^ (p * (i + l + (n - 1) * m))) (sm n fun i => sm n fun l => if l = m - i then (if i ≤ m then (n : Int) * (x i * y l) else 0) else 0) := by
    refine cg.sm fun i hi => cg.sm fun l hl' => ?_
    refine ((cg.refl _).mul (hgeo _)).trans (cg.of_eq ?_)
    by_cases hxy : x i = 0 ∨ y l = 0
    · have z : x i * y l = 0 := by rcases hxy with h | h <;> rw [h] <;> simp
      rw [z]; simp
    · have hi2 : i < la := by
        rcases Nat.lt_or_ge i la with h | h
        · exact h
        · exact absurd (.inl (hx i h)) hxy
      have hl2 : l < lb := by
        rcases Nat.lt_or_ge l lb with h | h
        · exact h
        · exact absurd (.inr (hy l h)) hxy
      have hd : n ∣ i + l + (n - 1) * m ↔ i + l = m := by
        have e : i + l + (n - 1) * m + m = i + l + n * m := by
          obtain ⟨n', rfl⟩ : ∃ n', n = n' + 1 := ⟨n - 1, by omega⟩
          rw [Nat.add_sub_cancel, Nat.add_mul]; omega
        constructor
        · rintro ⟨c, hc⟩
          rw [hc] at e
          -- n*c + m = i + l + n*m, i + l < n, m < n
          have e1 : (n * c + m) % n = (i + l + n * m) % n := by rw [e]
          rw [Nat.mul_add_mod, Nat.add_mul_mod_self_left, Nat.mod_eq_of_lt hm, Nat.mod_eq_of_lt (by omega)] at e1
          omega
        · intro h
          exact ⟨m, by omega⟩
      by_cases h : i + l = m
      · rw [if_pos (hd.2 h), if_pos (by omega), if_pos (by omega)]; grind
      · rw [if_neg (fun h' => h (hd.1 h'))]
        by_cases h4 : l = m - i
        · rw [if_pos h4, if_neg (by omega)]; simp
        · rw [if_neg h4]; simp
  have h4 : (sm n fun i => sm n fun l => if l = m - i then (if i ≤ m then (n : Int) * (x i * y l) else 0) else 0) = n * cv x y m := by
    have a : (sm n fun i => sm n fun l => if l = m - i then (if i ≤ m then (n : Int) * (x i * y l) else 0) else 0) = sm n fun i => if i ≤ m then (n : Int) * (x i * y (m - i)) else 0 := by
      refine sm_congr fun i _ => ?_
      exact sm_pick (by omega) (fun l => if i ≤ m then (n : Int) * (x i * y l) else 0)
    rw [a]
    obtain ⟨d, rfl⟩ : ∃ d, n = m + 1 + d := ⟨n - (m + 1), by omega⟩
    rw [sm_append]
    have b : (sm d fun i => if m + 1 + i ≤ m then ((m + 1 + d : Nat) : Int) * (x (m + 1 + i) * y (m - (m + 1 + i))) else 0) = 0 := by
      rw [sm_congr (g := fun _ => 0) (fun i _ => if_neg (by omega)), sm_zero]
    rw [b, Int.add_zero]
    unfold cv
    rw [← sm_mul]
    exact sm_congr fun i hi => if_pos (by omega)
  refine ((cg.refl ni).mul (h1.trans ((cg.of_eq h2).trans (h3.trans (cg.of_eq h4))))).trans ?_
  rw [← Int.mul_assoc]
  exact (hni.mul (cg.refl _)).trans (cg.of_eq (Int.one_mul _))
end Go.Proofs.Ygctab
