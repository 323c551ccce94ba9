/-
  How near two transforms, multiplied point by point and turned back, come to the convolution.
-/
import Derived.Test.YgctabFftS
import Derived.Test.YgctabTwP
namespace Go.Proofs.Ygctab
open Go.RowKit
set_option linter.unusedVariables false
set_option linter.unusedSimpArgs false
set_option exponentiation.threshold 5000

theorem Bd.isc {z : GI} {r : Nat} (h : Bd z r) {x : Int} {c : Nat} (hx : x.natAbs ≤ c) : Bd (z.sc x) (c * r) := by
  have h1 := h.sc x.natAbs
  have h2 : Bd (z.sc x) (x.natAbs * r) := by
    rcases Int.natAbs_eq x with e | e
    · rw [← e] at h1; exact h1
    · have := h1.neg
      rwa [show (z.sc ((x.natAbs : Nat) : Int)).neg = z.sc x by
        have e' : ((x.natAbs : Nat) : Int) = -x := by omega
        rw [e']
        apply GI.ext' <;> simp only [GI.neg, GI.sc] <;> grind] at this
  exact h2.mono (Nat.mul_le_mul_right _ hx)

/-- A transform of whole numbers. -/
def FT (k : Nat) (x : Nat → Int) (p : Nat) : GI := gsm (2 ^ k) fun i => (wK k (i * p)).sc (x i)
theorem pow_le (k : Nat) (hk : k ≤ 10) : 2 ^ k ≤ 1024 := Nat.le_trans (Nat.pow_le_pow_right (by decide) hk) (show 2 ^ 10 ≤ 1024 by decide)
theorem FT_bd (k : Nat) (hk : k ≤ 10) (x : Nat → Int) (hx : ∀ i, (x i).natAbs ≤ 255) (p : Nat) : Bd (FT k x p) (261121 * SU) := by
  have h1 : Bd (FT k x p) (2 ^ k * (255 * s10)) := Bd.gsm fun i _ => (w10_bd _).isc (hx i)
  refine h1.mono ?_
  have h2 : 2 ^ k * (255 * s10) ≤ 1024 * (255 * s10) := Nat.mul_le_mul_right _ (pow_le k hk)
  have h3 : 1024 * (255 * s10) ≤ 261121 * SU := by unfold s10 SU; decide +kernel
  omega

/-- Three roots, one of them conjugate. -/
theorem three_near (a b c : Nat) : Bd (((((w10 a).mul (w10 b)).mul (w10 c).conj).sub ((w10 (a + b + 1023 * c)).sc ((SU : Int) * (SU : Int)))).sc ((281474976710656 : Nat) : Int)) (4 * (SU * SU * SU)) := by
  have h1 := (w10_mul a b).mul (w10_bd c).conj
  have h2 := (((w10_bd (a + b)).mul (w10_conj c)).sc SU).sc 281474976710656
  have h3 := (w10_mul (a + b) (1023 * c)).sc SU
  have e : ((((w10 a).mul (w10 b)).mul (w10 c).conj).sub ((w10 (a + b + 1023 * c)).sc ((SU : Int) * (SU : Int)))).sc ((281474976710656 : Nat) : Int) =
      ((((((w10 a).mul (w10 b)).sub ((w10 (a + b)).sc (SU : Int))).sc ((281474976710656 : Nat) : Int)).mul (w10 c).conj).add ((((w10 (a + b)).mul ((w10 c).conj.sub (w10 (1023 * c)))).sc (SU : Int)).sc ((281474976710656 : Nat) : Int))).add
        (((((w10 (a + b)).mul (w10 (1023 * c))).sub ((w10 (a + b + 1023 * c)).sc (SU : Int))).sc ((281474976710656 : Nat) : Int)).sc (SU : Int)) := by
    generalize ((281474976710656 : Nat) : Int) = q
    generalize (SU : Int) = S
    apply GI.ext' <;> simp only [GI.mul, GI.sub, GI.sc, GI.add] <;> grind
  rw [e]
  refine ((h1.add h2).add h3).mono ?_
  unfold s10 SU
  decide +kernel

theorem gsm_real (n : Nat) (f : Nat → Int) : gsm n (fun i => ⟨f i, 0⟩) = ⟨sm n f, 0⟩ := by
  induction n with
  | zero => rfl
  | succ n ih => rw [gsm, ih, sm]; apply GI.ext' <;> simp only [GI.add] <;> omega

/-- The exact sums. -/
theorem exact_conv (k : Nat) (hk : 1 ≤ k) (hk' : k ≤ 10) (x y : Nat → Int) (la lb : Nat) (hx : ∀ i, la ≤ i → x i = 0) (hy : ∀ i, lb ≤ i → y i = 0) (hl : la + lb ≤ 2 ^ k + 1) (m : Nat) (hm : m < 2 ^ k) :
    (gsm (2 ^ k) fun p => gsm (2 ^ k) fun i => gsm (2 ^ k) fun l => (wK k ((i + l + 1023 * m) * p)).sc (x i * y l)) = ⟨((2 ^ k : Nat) : Int) * (SU : Int) * cv x y m, 0⟩ := by
  obtain ⟨n, hn⟩ : ∃ n, n = 2 ^ k := ⟨_, rfl⟩
  have ho := fun r => orth (wK_ok k hk hk') hk r
  have hc : 1024 = n * 2 ^ (10 - k) := by rw [hn, ← Nat.pow_add, show k + (10 - k) = 10 by omega]
  rw [← hn] at hl hm ho ⊢
  have h1 : (gsm n fun p => gsm n fun i => gsm n fun l => (wK k ((i + l + 1023 * m) * p)).sc (x i * y l)) = gsm n fun i => gsm n fun l => (gsm n fun p => wK k ((i + l + 1023 * m) * p)).sc (x i * y l) := by
    rw [gsm_comm]
    refine gsm_congr fun i _ => ?_
    rw [gsm_comm]
    exact gsm_congr fun l _ => gsm_sc _ _ _
  have h2 : (gsm n fun i => gsm n fun l => (gsm n fun p => wK k ((i + l + 1023 * m) * p)).sc (x i * y l)) = gsm n fun i => gsm n fun l => ⟨if l = m - i then (if i ≤ m then (n : Int) * (SU : Int) * (x i * y l) else 0) else 0, 0⟩ := by
    refine gsm_congr fun i hi => gsm_congr fun l hl' => ?_
    rw [ho]
    by_cases hxy : x i = 0 ∨ y l = 0
    · have z : x i * y l = 0 := by rcases hxy with h | h <;> rw [h] <;> simp
      rw [z]
      apply GI.ext'
      · simp [GI.sc]
      · simp [GI.sc]
    · have hi2 : i < la := by
        rcases Nat.lt_or_ge i la with h | h
        · exact h
        · exact absurd (.inl (hx i h)) hxy
      have hl2 : l < lb := by
        rcases Nat.lt_or_ge l lb with h | h
        · exact h
        · exact absurd (.inr (hy l h)) hxy
      have hd : n ∣ i + l + 1023 * m ↔ i + l = m := by
        have e : i + l + 1023 * m + m = i + l + n * (2 ^ (10 - k) * m) := by
          rw [← Nat.mul_assoc, ← hc]; omega
        constructor
        · rintro ⟨c, hcc⟩
          rw [hcc] at e
          have e1 : (n * c + m) % n = (i + l + n * (2 ^ (10 - k) * m)) % n := by rw [e]
          rw [Nat.mul_add_mod, Nat.add_mul_mod_self_left, Nat.mod_eq_of_lt hm, Nat.mod_eq_of_lt (by omega)] at e1
          omega
        · intro h
          refine ⟨2 ^ (10 - k) * m, ?_⟩
          omega
      by_cases h : i + l = m
      · rw [if_pos (hd.2 h), if_pos (by omega), if_pos (by omega)]
        apply GI.ext'
        · simp only [GI.sc]; grind
        · simp [GI.sc]
      · rw [if_neg (fun h' => h (hd.1 h'))]
        by_cases h4 : l = m - i
        · rw [if_pos h4, if_neg (by omega)]
          apply GI.ext' <;> simp [GI.sc, GI.zero]
        · rw [if_neg h4]
          apply GI.ext' <;> simp [GI.sc, GI.zero]
  rw [h1, h2]
  have h3 : (gsm n fun i => gsm n fun l => (⟨if l = m - i then (if i ≤ m then (n : Int) * (SU : Int) * (x i * y l) else 0) else 0, 0⟩ : GI)) = gsm n fun i => ⟨if i ≤ m then (n : Int) * (SU : Int) * (x i * y (m - i)) else 0, 0⟩ := by
    refine gsm_congr fun i _ => ?_
    rw [gsm_real, sm_pick (by omega) (fun l => if i ≤ m then (n : Int) * (SU : Int) * (x i * y l) else 0)]
  rw [h3, gsm_real]
  congr 1
  obtain ⟨d, hd⟩ : ∃ d, n = m + 1 + d := ⟨n - (m + 1), by omega⟩
  generalize (n : Int) = N
  rw [hd, sm_append]
  have b : (sm d fun i => if m + 1 + i ≤ m then N * (SU : Int) * (x (m + 1 + i) * y (m - (m + 1 + i))) else 0) = 0 := by
    rw [sm_congr (g := fun _ => 0) (fun i _ => if_neg (by omega)), sm_zero]
  rw [b, Int.add_zero]
  unfold cv
  rw [← sm_mul]
  exact sm_congr fun i hi => if_pos (by omega)

/-- The products of the transforms, turned back, are near the convolution. -/
theorem turned_near (k : Nat) (hk : 1 ≤ k) (hk' : k ≤ 10) (x y : Nat → Int) (la lb : Nat) (hx : ∀ i, la ≤ i → x i = 0) (hy : ∀ i, lb ≤ i → y i = 0) (bx : ∀ i, (x i).natAbs ≤ 255) (by' : ∀ i, (y i).natAbs ≤ 255) (hl : la + lb ≤ 2 ^ k + 1) (m : Nat) (hm : m < 2 ^ k) :
    Bd (((gsm (2 ^ k) fun p => ((FT k x p).mul (FT k y p)).mul (wK k (p * m)).conj).sub ⟨((2 ^ k : Nat) : Int) * (SU : Int) * cv x y m * ((SU : Int) * (SU : Int)), 0⟩).sc ((281474976710656 : Nat) : Int)) (2 ^ k * (261120 * 261120 * (4 * (SU * SU * SU)))) := by
  have e1 : ∀ p, ((FT k x p).mul (FT k y p)).mul (wK k (p * m)).conj = gsm (2 ^ k) fun i => gsm (2 ^ k) fun l => (((wK k (i * p)).mul (wK k (l * p))).mul (wK k (p * m)).conj).sc (x i * y l) := by
    intro p
    unfold FT
    rw [show ∀ a b c : GI, (a.mul b).mul c = (b.mul c).mul a from fun a b c => GI.ext' (by simp only [GI.mul]; grind) (by simp only [GI.mul]; grind), ← gsm_mul]
    refine gsm_congr fun i _ => ?_
    rw [show ∀ a b c : GI, (a.mul b).mul c = (b.mul c).mul a from fun a b c => GI.ext' (by simp only [GI.mul]; grind) (by simp only [GI.mul]; grind), ← gsm_mul]
    refine gsm_congr fun l _ => ?_
    apply GI.ext' <;> simp only [GI.mul, GI.sc, GI.conj] <;> grind
  have e2 : (⟨((2 ^ k : Nat) : Int) * (SU : Int) * cv x y m * ((SU : Int) * (SU : Int)), 0⟩ : GI) = gsm (2 ^ k) fun p => gsm (2 ^ k) fun i => gsm (2 ^ k) fun l => (((wK k ((i + l + 1023 * m) * p)).sc ((SU : Int) * (SU : Int))).sc (x i * y l)) := by
    have := exact_conv k hk hk' x y la lb hx hy hl m hm
    have h2 : (GI.mk (((2 ^ k : Nat) : Int) * (SU : Int) * cv x y m) 0).sc ((SU : Int) * (SU : Int)) = ⟨((2 ^ k : Nat) : Int) * (SU : Int) * cv x y m * ((SU : Int) * (SU : Int)), 0⟩ := GI.ext' (by simp only [GI.sc]; grind) (by simp [GI.sc])
    rw [← h2, ← this, ← gsm_sc]
    refine gsm_congr fun p _ => ?_
    rw [← gsm_sc]
    refine gsm_congr fun i _ => ?_
    rw [← gsm_sc]
    refine gsm_congr fun l _ => ?_
    apply GI.ext' <;> simp only [GI.sc] <;> grind
  rw [e2, ← gsm_sub, ← gsm_sc]
  refine Bd.gsm fun p _ => ?_
  rw [e1, ← gsm_sub, ← gsm_sc]
  have hb : 2 ^ k * (2 ^ k * (65025 * (4 * (SU * SU * SU)))) ≤ 261120 * 261120 * (4 * (SU * SU * SU)) := by
    have h1 := pow_le k hk'
    have h2 : 2 ^ k * (2 ^ k * 65025) ≤ 1024 * (1024 * 65025) := Nat.mul_le_mul h1 (Nat.mul_le_mul_right _ h1)
    have h3 := Nat.mul_le_mul_right (4 * (SU * SU * SU)) h2
    rw [show 2 ^ k * (2 ^ k * 65025) * (4 * (SU * SU * SU)) = 2 ^ k * (2 ^ k * (65025 * (4 * (SU * SU * SU)))) by ac_rfl] at h3
    exact Nat.le_trans h3 (Nat.mul_le_mul_right _ (by decide))
  refine Bd.mono (Bd.gsm fun i _ => ?_) hb
  rw [← gsm_sub, ← gsm_sc]
  refine Bd.gsm fun l _ => ?_
  have h := three_near (i * p * 2 ^ (10 - k)) (l * p * 2 ^ (10 - k)) (p * m * 2 ^ (10 - k))
  have h4 := h.isc (x := x i * y l) (c := 65025) (by rw [Int.natAbs_mul]; exact Nat.mul_le_mul (bx i) (by' l))
  unfold wK
  rw [show (i + l + 1023 * m) * p * 2 ^ (10 - k) = i * p * 2 ^ (10 - k) + l * p * 2 ^ (10 - k) + 1023 * (p * m * 2 ^ (10 - k)) by grind]
  rwa [show ((((((w10 (i * p * 2 ^ (10 - k))).mul (w10 (l * p * 2 ^ (10 - k)))).mul (w10 (p * m * 2 ^ (10 - k))).conj).sc (x i * y l)).sub (((w10 (i * p * 2 ^ (10 - k) + l * p * 2 ^ (10 - k) + 1023 * (p * m * 2 ^ (10 - k)))).sc ((SU : Int) * (SU : Int))).sc (x i * y l))).sc ((281474976710656 : Nat) : Int)) = (((((w10 (i * p * 2 ^ (10 - k))).mul (w10 (l * p * 2 ^ (10 - k)))).mul (w10 (p * m * 2 ^ (10 - k))).conj).sub ((w10 (i * p * 2 ^ (10 - k) + l * p * 2 ^ (10 - k) + 1023 * (p * m * 2 ^ (10 - k)))).sc ((SU : Int) * (SU : Int)))).sc ((281474976710656 : Nat) : Int)).sc (x i * y l) by
    generalize ((281474976710656 : Nat) : Int) = q
    apply GI.ext' <;> simp only [GI.sub, GI.sc] <;> grind]
end Go.Proofs.Ygctab
