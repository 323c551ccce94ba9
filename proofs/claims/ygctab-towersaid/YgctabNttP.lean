/-
  PLAIN: what the passes of package ntt make: entry p is the sum of x[i]*v^(i*p), up to a multiple of P.
-/
import Derived.Test.YgctabSum
import Derived.Test.YgctabRev2
import Derived.Test.YgctabNttH
namespace Go.Proofs.Ygctab
set_option linter.unusedVariables false

def ati (xs : List Int) (i : Nat) : Int := xs[i]?.getD 0
theorem ati_set {xs : List Int} {p : Nat} (x : Int) (hp : p < xs.length) (i : Nat) : ati (xs.set p x) i = if i = p then x else ati xs i := by
  unfold ati
  rw [List.getElem?_set]
  by_cases h : p = i
  · subst h; simp [hp]
  · simp [h, Ne.symm h]
theorem cut2_cg (u : Int) : cg (cut2 u) u := by
  unfold cut2
  split
  · exact ⟨-2, by omega⟩
  · exact cg.refl _
theorem tms_cg (w x : Int) : cg (tms w x) (x * w) := ⟨-(x * (w * 4294967296 / 998244353) / 4294967296), by unfold tms; grind⟩

/-- One pass: blocks of 2*half, the roots rt. -/
def bflyZ (half : Nat) (rt : Nat → Int) (X : Nat → Int) (p : Nat) : Int :=
  if p % (2 * half) < half then X p + X (p + half) * rt (p % (2 * half)) else X (p - half) - X p * rt (p % (2 * half) - half)

theorem blockN_cg (s half : Nat) (rt : Nat → Int) (xs : List Int) (hs : s + 2 * half ≤ xs.length) : ∀ J, J ≤ half → ∀ p, cg (ati (blockN s half rt xs J) p)
    (if s ≤ p ∧ p < s + J then ati xs p + ati xs (p + half) * rt (p - s) else if s + half ≤ p ∧ p < s + half + J then ati xs (p - half) - ati xs p * rt (p - half - s) else ati xs p) := by
  intro J
  induction J with
  | zero => intro _ p; simp; rw [if_neg (by omega), if_neg (by omega)]; exact cg.refl _
  | succ J ih =>
    intro hJ p
    have ih := ih (by omega)
    rw [blockN, bfly, ati_set _ (by simp [blockN_length]; omega), ati_set _ (by rw [blockN_length]; omega)]
    have e1 := ih (s + J)
    rw [if_neg (by omega), if_neg (by omega)] at e1
    have e2 := ih (s + half + J)
    rw [if_neg (by omega), if_neg (by omega)] at e2
    have c1 := (cut2_cg ((blockN s half rt xs J)[s + J]?.getD 0)).trans e1
    have c2 := (tms_cg (rt J) ((blockN s half rt xs J)[s + half + J]?.getD 0)).trans (e2.mul (cg.refl (rt J)))
    by_cases h1 : p = s + half + J
    · subst h1
      rw [if_pos rfl, if_neg (by omega), if_pos (by omega), show s + half + J - half = s + J by omega, show s + J - s = J by omega]
      obtain ⟨a, ha⟩ := c1.sub c2
      exact ⟨a + 2, by omega⟩
    · rw [if_neg h1]
      by_cases h2 : p = s + J
      · subst h2
        rw [if_pos rfl, if_pos (by omega), show s + J + half = s + half + J by omega, show s + J - s = J by omega]
        exact c1.add c2
      · rw [if_neg h2]
        refine (ih p).trans (cg.of_eq ?_)
        by_cases h3 : s ≤ p ∧ p < s + J
        · rw [if_pos h3, if_pos (by omega)]
        · have n1 : ¬ (s ≤ p ∧ p < s + (J + 1)) := by omega
          rw [if_neg h3, if_neg n1]
          by_cases h4 : s + half ≤ p ∧ p < s + half + J
          · have n2 : s + half ≤ p ∧ p < s + half + (J + 1) := by omega
            rw [if_pos h4, if_pos n2]
          · have n2 : ¬ (s + half ≤ p ∧ p < s + half + (J + 1)) := by omega
            rw [if_neg h4, if_neg n2]

theorem blocksN_cg (half : Nat) (rt : Nat → Int) (xs : List Int) (c : Nat) (hh : 0 < half) (hl : c * (2 * half) = xs.length) : ∀ i, i ≤ c → ∀ p, cg (ati (blocksN half rt xs i) p) (if p < i * (2 * half) then bflyZ half rt (ati xs) p else ati xs p) := by
  intro i
  induction i with
  | zero => intro _ p; rw [if_neg (by omega)]; exact cg.refl _
  | succ i ih =>
    intro hi p
    have ih := ih (by omega)
    have hfit : i * (2 * half) + 2 * half ≤ xs.length := by
      rw [← hl, ← Nat.succ_mul]
      exact Nat.mul_le_mul_right _ hi
    have hb := blockN_cg (i * (2 * half)) half rt (blocksN half rt xs i) (by rw [blocksN_length]; exact hfit) half (Nat.le_refl _) p
    rw [blocksN]
    refine hb.trans ?_
    rw [show (i + 1) * (2 * half) = i * (2 * half) + 2 * half from Nat.succ_mul _ _]
    generalize hs : i * (2 * half) = s at *
    have hm : ∀ q, s ≤ q → q < s + 2 * half → q % (2 * half) = q - s := by
      intro q h1 h2
      obtain ⟨d, rfl⟩ : ∃ d, q = s + d := ⟨q - s, by omega⟩
      rw [← hs, Nat.mul_comm i, Nat.mul_add_mod, Nat.mod_eq_of_lt (by omega), Nat.mul_comm (2 * half) i, hs]
      omega
    by_cases h1 : s ≤ p ∧ p < s + half
    · rw [if_pos h1, if_pos (by omega), bflyZ, hm p (by omega) (by omega), if_pos (by omega)]
      have a := ih p
      rw [if_neg (by omega)] at a
      have b := ih (p + half)
      rw [if_neg (by omega)] at b
      exact a.add (b.mul (cg.refl _))
    · rw [if_neg h1]
      by_cases h2 : s + half ≤ p ∧ p < s + half + half
      · rw [if_pos h2, if_pos (by omega), bflyZ, hm p (by omega) (by omega), if_neg (by omega)]
        have a := ih (p - half)
        rw [if_neg (by omega)] at a
        have b := ih p
        rw [if_neg (by omega)] at b
        rw [show p - half - s = p - s - half by omega]
        exact a.sub (b.mul (cg.refl _))
      · rw [if_neg h2]
        refine (ih p).trans (cg.of_eq ?_)
        by_cases h3 : p < s
        · rw [if_pos h3, if_pos (by omega)]
        · rw [if_neg h3, if_neg (by omega)]

theorem firstN_cg (xs : List Int) : ∀ q, 2 * q ≤ xs.length → ∀ p, cg (ati (firstN xs q) p) (if p < 2 * q then bflyZ 1 (fun _ => 1) (ati xs) p else ati xs p) := by
  intro q
  induction q with
  | zero => intro _ p; rw [if_neg (by omega)]; exact cg.refl _
  | succ q ih =>
    intro hq p
    have ih := ih (by omega)
    have a := ih (2 * q)
    rw [if_neg (by omega)] at a
    have b := ih (2 * q + 1)
    rw [if_neg (by omega)] at b
    rw [firstN, ati_set _ (by simp [firstN_length]; omega), ati_set _ (by rw [firstN_length]; omega)]
    by_cases h1 : p = 2 * q + 1
    · subst h1
      rw [if_pos rfl, if_pos (by omega), bflyZ, if_neg (by omega)]
      obtain ⟨k, hk⟩ := a.sub b
      exact ⟨k + 1, by rw [show 2 * q + 1 - 1 = 2 * q by omega]; show ati (firstN xs q) (2 * q) + 998244353 - ati (firstN xs q) (2 * q + 1) = _; omega⟩
    · rw [if_neg h1]
      by_cases h2 : p = 2 * q
      · subst h2
        rw [if_pos rfl, if_pos (by omega), bflyZ, if_pos (by omega), Int.mul_one]
        exact a.add b
      · rw [if_neg h2]
        refine (ih p).trans (cg.of_eq ?_)
        by_cases h3 : p < 2 * q
        · rw [if_pos h3, if_pos (by omega)]
        · rw [if_neg h3, if_neg (by omega)]

theorem bflyZ_cg {half : Nat} {rt rt' : Nat → Int} {X Y : Nat → Int} {p : Nat} (h : ∀ q, q < p + half + 1 → cg (X q) (Y q)) (hr : ∀ j, cg (rt j) (rt' j)) : cg (bflyZ half rt X p) (bflyZ half rt' Y p) := by
  unfold bflyZ
  split
  · exact (h _ (by omega)).add ((h _ (by omega)).mul (hr _))
  · exact (h _ (by omega)).sub ((h _ (by omega)).mul (hr _))

/-- The sum over every 2^(k-t)-th entry, from r on. -/
def Dz (k : Nat) (v : Int) (x : Nat → Int) (t r j : Nat) : Int := sm (2 ^ t) fun i => x (r + 2 ^ (k - t) * i) * v ^ (i * j * 2 ^ (k - t))

theorem Dz_split (k : Nat) (v : Int) (x : Nat → Int) (t r j : Nat) (ht : t < k) : Dz k v x (t + 1) r j = Dz k v x t r j + Dz k v x t (r + 2 ^ (k - (t + 1))) j * v ^ (j * 2 ^ (k - (t + 1))) := by
  unfold Dz
  have e : 2 ^ (k - t) = 2 * 2 ^ (k - (t + 1)) := by rw [show k - t = k - (t + 1) + 1 by omega, Nat.pow_succ]; omega
  rw [show 2 ^ (t + 1) = 2 * 2 ^ t by rw [Nat.pow_succ]; omega, sm_double, e]
  generalize 2 ^ (k - (t + 1)) = s
  congr 1
  · exact sm_congr fun i _ => by
      rw [show s * (2 * i) = 2 * s * i by ac_rfl, show 2 * i * j * s = i * j * (2 * s) by ac_rfl]
  · rw [← sm_mulr]
    exact sm_congr fun i _ => by
      rw [show r + s * (2 * i + 1) = r + s + 2 * s * i by rw [Nat.mul_add, Nat.mul_one, show s * (2 * i) = 2 * s * i by ac_rfl]; omega,
        show (2 * i + 1) * j * s = i * j * (2 * s) + j * s by rw [Nat.add_mul, Nat.add_mul, Nat.one_mul, show 2 * i * j * s = i * j * (2 * s) by ac_rfl], Int.pow_add, Int.mul_assoc]
theorem Dz_per (k : Nat) (v : Int) (x : Nat → Int) (t r j : Nat) (ht : t ≤ k) (hv : cg (v ^ 2 ^ k) 1) : cg (Dz k v x t r (j + 2 ^ t)) (Dz k v x t r j) := by
  refine cg.sm fun i _ => ?_
  refine (cg.refl _).mul ?_
  have e : i * (j + 2 ^ t) * 2 ^ (k - t) = i * j * 2 ^ (k - t) + 2 ^ k * i := by
    rw [Nat.mul_add, Nat.add_mul]
    congr 1
    rw [show i * 2 ^ t * 2 ^ (k - t) = 2 ^ t * 2 ^ (k - t) * i by ac_rfl, ← Nat.pow_add, show t + (k - t) = k by omega]
  rw [e, Int.pow_add, show v ^ (2 ^ k * i) = (v ^ 2 ^ k) ^ i from Int.pow_mul]
  have := (hv.pow i)
  rw [Int.one_pow] at this
  exact ((cg.refl _).mul this).trans (cg.of_eq (Int.mul_one _))

/-- One pass carries the sums on. -/
theorem pass_step (k t : Nat) (v : Int) (x : Nat → Int) (X : Nat → Int) (ht : t < k) (hv : cg (v ^ 2 ^ (k - 1)) (-1))
    (hX : ∀ p, p < 2 ^ k → cg (X p) (Dz k v x t (rv (k - t) (p / 2 ^ t)) (p % 2 ^ t))) :
    ∀ p, p < 2 ^ k → cg (bflyZ (2 ^ t) (fun j => v ^ (j * 2 ^ (k - (t + 1)))) X p) (Dz k v x (t + 1) (rv (k - (t + 1)) (p / 2 ^ (t + 1))) (p % 2 ^ (t + 1))) := by
  intro p hp
  have hv2 : cg (v ^ 2 ^ k) 1 := by
    have := hv.mul hv
    rw [← Int.pow_add, show 2 ^ (k - 1) + 2 ^ (k - 1) = 2 ^ k by rw [← Nat.two_mul, ← Nat.pow_succ']; congr 1; omega] at this
    exact this.trans (cg.of_eq (by omega))
  obtain ⟨h, hh⟩ : ∃ h, h = 2 ^ t := ⟨_, rfl⟩
  have h1 : 0 < h := by rw [hh]; exact Nat.pow_pos (by decide)
  have e2 : 2 ^ (t + 1) = 2 * h := by rw [Nat.pow_succ, hh]; omega
  have hn : 2 ^ k = 2 * h * 2 ^ (k - (t + 1)) := by rw [← e2, ← Nat.pow_add]; congr 1; omega
  obtain ⟨B, hB⟩ : ∃ B, B = p / (2 * h) := ⟨_, rfl⟩
  obtain ⟨j, hj⟩ : ∃ j, j = p % (2 * h) := ⟨_, rfl⟩
  have hp2 : p = 2 * h * B + j := by rw [hB, hj]; exact (Nat.div_add_mod p (2 * h)).symm
  have hjl : j < 2 * h := by rw [hj]; exact Nat.mod_lt _ (by omega)
  have hBl : B < 2 ^ (k - (t + 1)) := by
    rw [hB]
    exact Nat.div_lt_of_lt_mul (by rw [← hn]; exact hp)
  have hfit : 2 * h * (B + 1) ≤ 2 ^ k := by rw [hn]; exact Nat.mul_le_mul_left _ hBl
  rw [Nat.mul_add, Nat.mul_one] at hfit
  have hrv : k - t = k - (t + 1) + 1 := by omega
  rw [← hh] at hX
  rw [e2, ← hh]
  have dv : ∀ c d : Nat, d < h → (h * c + d) / h = c ∧ (h * c + d) % h = d := fun c d hd =>
    ⟨by rw [Nat.mul_add_div h1, Nat.div_eq_of_lt hd, Nat.add_zero], by rw [Nat.mul_add_mod, Nat.mod_eq_of_lt hd]⟩
  have s1 : 2 * h * B = h * (2 * B) := by ac_rfl
  have s2 : h * (2 * B + 1) = h * (2 * B) + h := by rw [Nat.mul_add, Nat.mul_one]
  unfold bflyZ
  rw [← hj, ← hB]
  by_cases hlt : j < h
  · rw [if_pos hlt]
    have a := hX p hp
    have b := hX (p + h) (by omega)
    rw [hp2, s1, (dv (2 * B) j hlt).1, (dv (2 * B) j hlt).2, hrv, rv_even] at a
    rw [show p + h = h * (2 * B + 1) + j by omega, (dv (2 * B + 1) j hlt).1, (dv (2 * B + 1) j hlt).2, hrv, rv_odd] at b
    rw [Dz_split k v x t _ _ ht, show p + h = h * (2 * B + 1) + j by omega, show X p = X (h * (2 * B) + j) by congr 1; omega]
    exact a.add (b.mul (cg.refl _))
  · rw [if_neg hlt]
    obtain ⟨d, hd⟩ : ∃ d, j = d + h := ⟨j - h, by omega⟩
    have hdh : d < h := by omega
    have a := hX (p - h) (by omega)
    have b := hX p hp
    rw [show p - h = h * (2 * B) + d by omega, (dv (2 * B) d hdh).1, (dv (2 * B) d hdh).2, hrv, rv_even] at a
    rw [show p = h * (2 * B + 1) + d by omega, (dv (2 * B + 1) d hdh).1, (dv (2 * B + 1) d hdh).2, hrv, rv_odd] at b
    rw [Dz_split k v x t _ _ ht, show p - h = h * (2 * B) + d by omega, show X p = X (h * (2 * B + 1) + d) by congr 1; omega, hd, show d + h - h = d by omega]
    have q1 := Dz_per k v x t (rv (k - (t + 1)) B) d (by omega) hv2
    have q2 := Dz_per k v x t (rv (k - (t + 1)) B + 2 ^ (k - (t + 1))) d (by omega) hv2
    rw [← hh] at q1 q2
    have q3 : cg (v ^ ((d + h) * 2 ^ (k - (t + 1)))) (- v ^ (d * 2 ^ (k - (t + 1)))) := by
      rw [Nat.add_mul, Int.pow_add, show h * 2 ^ (k - (t + 1)) = 2 ^ (k - 1) by rw [hh, ← Nat.pow_add]; congr 1; omega]
      exact ((cg.refl _).mul hv).trans (cg.of_eq (by omega))
    refine (a.sub (b.mul (cg.refl _))).trans ?_
    refine cg.trans ?_ ((q1.symm).add ((q2.symm).mul q3.symm))
    exact cg.of_eq (by grind)

theorem stages_cg (k : Nat) (v : Int) (xs : List Int) (hk : k ≤ 64) (h : xs.length = 2 ^ k) (hv : cg (v ^ 2 ^ (k - 1)) (-1)) : ∀ i, i + 1 ≤ k → ∀ p, p < 2 ^ k →
    cg (ati (stagesN k v (firstN (revL 0 xs) (xs.length / 2)) i) p) (Dz k v (ati xs) (i + 1) (rv (k - (i + 1)) (p / 2 ^ (i + 1))) (p % 2 ^ (i + 1))) := by
  intro i
  induction i with
  | zero =>
    intro hi p hp
    rw [stagesN]
    have hrl : (revL 0 xs).length = 2 ^ k := by rw [revL_length, h]
    have h2 : 2 * (xs.length / 2) = 2 ^ k := by rw [h, show k = k - 1 + 1 by omega, Nat.pow_succ]; omega
    have a := firstN_cg (revL 0 xs) (xs.length / 2) (by rw [h2, hrl]; exact Nat.le_refl _) p
    rw [h2, if_pos hp] at a
    refine a.trans ?_
    have b := pass_step k 0 v (ati xs) (ati (revL 0 xs)) (by omega) hv (fun q hq => ?_) p hp
    · refine cg.trans ?_ b
      rw [Nat.pow_zero]
      unfold bflyZ
      rw [Nat.mul_one]
      rcases Nat.mod_two_eq_zero_or_one p with e | e <;> rw [e] <;> simp <;> exact cg.refl _
    · unfold Dz
      rw [Nat.pow_zero, Nat.div_one, Nat.mod_one]
      simp only [sm, Nat.mul_zero, Nat.add_zero, Nat.zero_mul, Int.pow_zero, Int.mul_one, Nat.sub_zero]
      unfold ati
      rw [revL_at 0 xs k hk h q hq]
      exact cg.of_eq (by omega)
  | succ i ih =>
    intro hi p hp
    have ih := ih (by omega)
    rw [stagesN]
    have hpos : 0 < 2 ^ (i + 1) := Nat.pow_pos (by decide)
    have hl2 : 2 ^ (k - (i + 2)) * (2 * 2 ^ (i + 1)) = 2 ^ k := by
      rw [← Nat.pow_succ', ← Nat.pow_add]
      congr 1
      omega
    have hlen : 2 ^ (k - (i + 2)) * (2 * 2 ^ (i + 1)) = (stagesN k v (firstN (revL 0 xs) (xs.length / 2)) i).length := by
      rw [stagesN_length, firstN_length, revL_length, h]
      exact hl2
    have a := blocksN_cg (2 ^ (i + 1)) (rtAt v (2 ^ (k - (i + 2)))) _ _ hpos hlen _ (Nat.le_refl _) p
    rw [hl2, if_pos hp] at a
    refine a.trans ?_
    have b := pass_step k (i + 1) v (ati xs) _ (by omega) hv ih p hp
    refine cg.trans ?_ b
    exact bflyZ_cg (fun q _ => cg.refl _) (fun j => cg.mod _)

/-- Entry p behind the transform. -/
theorem transL_cg (k : Nat) (v : Int) (xs : List Int) (hk : k ≤ 64) (hk1 : 1 ≤ k) (h : xs.length = 2 ^ k) (hv : cg (v ^ 2 ^ (k - 1)) (-1)) (p : Nat) (hp : p < 2 ^ k) :
    cg (ati (transL k v xs) p) (sm (2 ^ k) fun i => ati xs i * v ^ (i * p)) := by
  have a := stages_cg k v xs hk h hv (k - 1) (by omega) p hp
  rw [show k - 1 + 1 = k by omega, Nat.sub_self, Nat.div_eq_of_lt hp, Nat.mod_eq_of_lt hp] at a
  have e : Dz k v (ati xs) k (rv 0 0) p = sm (2 ^ k) fun i => ati xs i * v ^ (i * p) := by
    unfold Dz
    exact sm_congr fun i _ => by rw [Nat.sub_self]; simp [rv]
  rw [e] at a
  have hl : p < (stagesN k v (firstN (revL 0 xs) (xs.length / 2)) (k - 1)).length := by rw [stagesN_length, firstN_length, revL_length, h]; exact hp
  have c : ati (transL k v xs) p = fin2 (ati (stagesN k v (firstN (revL 0 xs) (xs.length / 2)) (k - 1)) p) := by
    unfold transL ati
    rw [List.getElem?_map, List.getElem?_eq_getElem hl]
    rfl
  rw [c]
  exact ((cg.mod _).trans (cut2_cg _)).trans a
end Go.Proofs.Ygctab
