import Derived.Test.YgctabTw
import Derived.Test.YgctabFftR
namespace Go.Proofs.Ygctab
open Go.RowKit
set_option linter.unusedVariables false
set_option linter.unusedSimpArgs false
set_option exponentiation.threshold 5000

def prG (v : Int × Int) : GI := ⟨v.1, v.2⟩
/-- Root j of order 2^10, in units of 2^-62, for every j. -/
def v10 (j : Nat) : GI := if j % 1024 < 512 then prG ((twV[j % 1024]?).getD (0, 0)) else (prG ((twV[j % 1024 - 512]?).getD (0, 0))).neg
theorem v10_half (j : Nat) : v10 (j + 512) = (v10 j).neg := by
  unfold v10
  by_cases h : j % 1024 < 512
  · rw [if_pos h, show (j + 512) % 1024 = j % 1024 + 512 by omega, if_neg (by omega), Nat.add_sub_cancel]
  · rw [if_neg h, show (j + 512) % 1024 = j % 1024 - 512 by omega, if_pos (by omega)]
    apply GI.ext' <;> simp only [GI.neg] <;> omega
theorem v10_low {j : Nat} (h : j < 512) : v10 j = prG ((twV[j]?).getD (0, 0)) := by
  unfold v10
  rw [Nat.mod_eq_of_lt (by omega), if_pos h]
theorem twV_some {j : Nat} (h : j < 512) : twV[j]? = some ((v10 j).re, (v10 j).im) := by
  rw [v10_low h]
  have := tw_len.2
  rw [List.getElem?_eq_getElem (by omega)]
  rfl
theorem twW_some {j : Nat} (h : j < 1024) : twW[j]? = some ((v10 j).re, (v10 j).im) := by
  have hl := tw_len.2
  unfold twW twN
  rcases Nat.lt_or_ge j 512 with h1 | h1
  · rw [List.getElem?_append_left (by omega)]
    exact twV_some h1
  · rw [List.getElem?_append_right (by omega), hl, List.getElem?_map, twV_some (by omega)]
    have e : v10 j = (v10 (j - 512)).neg := by rw [← v10_half]; congr 1; omega
    rw [e]
    generalize v10 (j - 512) = u
    rfl

/-- Going on by half a turn. -/
theorem by_half (p : Nat → Prop) (h0 : ∀ a, a < 512 → p a) (hs : ∀ a, p a → p (a + 512)) : ∀ a, p a := by
  intro a
  induction a using Nat.strongRecOn with
  | ind a ih =>
    rcases Nat.lt_or_ge a 512 with h | h
    · exact h0 a h
    · have := hs (a - 512) (ih (a - 512) (by omega))
      rwa [show a - 512 + 512 = a by omega] at this

def Q62 : Nat := 4611686018427387904
def NR (r a : Nat) : Prop := Bd (((v10 r).mul (v10 a)).sub ((v10 (a + r)).sc (Q62 : Int))) (2 ^ 74)
theorem NR_step {r a : Nat} (h : NR r a) : NR r (a + 512) := by
  unfold NR at *
  rw [v10_half, show a + 512 + r = a + r + 512 by omega, v10_half]
  have := h.neg
  rwa [show (((v10 r).mul (v10 a)).sub ((v10 (a + r)).sc (Q62 : Int))).neg = ((v10 r).mul (v10 a).neg).sub ((v10 (a + r)).neg.sc (Q62 : Int)) from GI.ext' (by simp only [GI.mul, GI.neg, GI.sub, GI.sc]; grind) (by simp only [GI.mul, GI.neg, GI.sub, GI.sc]; grind)] at this
theorem NR_row {r : Nat} (hr : r < 512) (h : rowB r = true) : ∀ a, NR r a := by
  refine by_half _ (fun a ha => ?_) (fun a => NR_step)
  unfold rowB at h
  rw [twW_some (by omega)] at h
  obtain ⟨y, hy, hf⟩ := all2_at h (twV_some ha)
  rw [List.getElem?_drop, twW_some (by omega), Nat.add_comm r a] at hy
  have hy' := Option.some.inj hy
  subst hy'
  have := of_decide_eq_true hf
  unfold NR Bd
  simp only [GI.mul, GI.sub, GI.sc] at *
  have e : ((2 ^ 74 : Nat) : Int) * ((2 ^ 74 : Nat) : Int) = 356811923176489970264571492362373784095686656 := by decide
  rw [e]
  exact this
theorem NR_small {r : Nat} (h : r < 32) : ∀ a, NR r a := NR_row (by omega) (List.all_eq_true.1 rows_small r (List.mem_range.2 h))
theorem NR_large {q : Nat} (h : q < 16) : ∀ a, NR (32 * q) a := NR_row (by omega) (List.all_eq_true.1 rows_large q (List.mem_range.2 h))
theorem v10_norm : ∀ a, Bd (v10 a) 4611686018427392000 := by
  refine by_half _ (fun a ha => ?_) (fun a h => by rw [v10_half]; exact h.neg)
  have h1 := List.all_eq_true.1 tw_norm _ (List.mem_of_getElem? (twV_some ha))
  generalize v10 a = u at *
  have h2 : u.re * u.re + u.im * u.im ≤ 4611686018427392000 * 4611686018427392000 := of_decide_eq_true h1
  exact h2

theorem v10_mul0 (a : Nat) (b : Nat) (hb : b < 512) : Bd (((v10 a).mul (v10 b)).sub ((v10 (a + b)).sc (Q62 : Int))) (2 ^ 76) := by
  obtain ⟨q, r, hr, hq, rfl⟩ : ∃ q r, r < 32 ∧ q < 16 ∧ b = 32 * q + r := ⟨b / 32, b % 32, by omega, by omega, by omega⟩
  have h1 := NR_small hr (32 * q)
  have h2 := NR_large hq a
  have h3 := NR_small hr (a + 32 * q)
  unfold NR at h1 h2 h3
  refine Bd.unsc (n := Q62) (by decide) ?_
  have e : (((v10 a).mul (v10 (32 * q + r))).sub ((v10 (a + (32 * q + r))).sc (Q62 : Int))).sc (Q62 : Int) =
      (((v10 a).mul (((v10 r).mul (v10 (32 * q))).sub ((v10 (32 * q + r)).sc (Q62 : Int))).neg).add ((v10 r).mul (((v10 (32 * q)).mul (v10 a)).sub ((v10 (a + 32 * q)).sc (Q62 : Int))))).add ((((v10 r).mul (v10 (a + 32 * q))).sub ((v10 (a + 32 * q + r)).sc (Q62 : Int))).sc (Q62 : Int)) := by
    rw [← Nat.add_assoc]
    generalize (Q62 : Int) = Q
    apply GI.ext' <;> simp only [GI.mul, GI.neg, GI.sub, GI.sc, GI.add] <;> grind
  rw [e]
  refine ((((v10_norm a).mul h1.neg).add ((v10_norm r).mul h2)).add (h3.sc Q62)).mono ?_
  decide
theorem v10_mul (a : Nat) : ∀ b, Bd (((v10 a).mul (v10 b)).sub ((v10 (a + b)).sc (Q62 : Int))) (2 ^ 76) := by
  refine by_half _ (fun b hb => v10_mul0 a b hb) (fun b h => ?_)
  rw [v10_half, ← Nat.add_assoc, v10_half]
  have := h.neg
  rwa [show (((v10 a).mul (v10 b)).sub ((v10 (a + b)).sc (Q62 : Int))).neg = ((v10 a).mul (v10 b).neg).sub ((v10 (a + b)).neg.sc (Q62 : Int)) from GI.ext' (by simp only [GI.mul, GI.neg, GI.sub, GI.sc]; grind) (by simp only [GI.mul, GI.neg, GI.sub, GI.sc]; grind)] at this
theorem v10_turn (j c : Nat) : v10 (j + 1024 * c) = v10 j := by
  unfold v10
  rw [Nat.add_mul_mod_self_left]
theorem v10_zero : v10 0 = ⟨(Q62 : Int), 0⟩ := GI.ext' (show (v10 0).re = (Q62 : Int) by decide +kernel) (show (v10 0).im = 0 by decide +kernel)
theorem v10_conj0 {a : Nat} (h1 : 1 ≤ a) (h : a < 512) : Bd ((v10 a).conj.add (v10 (512 - a))) 4096 := by
  have hl := tw_len.2
  have e1 : twV.tail[a - 1]? = some ((v10 a).re, (v10 a).im) := by
    rw [List.getElem?_tail, show a - 1 + 1 = a by omega]
    exact twV_some h
  obtain ⟨y, hy, hf⟩ := all2_at tw_conj e1
  rw [List.getElem?_reverse (by simp; omega), List.getElem?_tail, List.length_tail, hl, show 512 - 1 - 1 - (a - 1) + 1 = 512 - a by omega, twV_some (by omega)] at hy
  have hy' := Option.some.inj hy
  subst hy'
  have := of_decide_eq_true hf
  unfold Bd
  simp only [GI.conj, GI.add] at *
  rw [show -(v10 a).im + (v10 (512 - a)).im = (v10 (512 - a)).im - (v10 a).im by omega]
  exact this
theorem v10_conj : ∀ a, Bd ((v10 a).conj.sub (v10 (1023 * a))) 4096 := by
  refine by_half _ (fun a ha => ?_) (fun a h => ?_)
  · by_cases h0 : a = 0
    · subst h0
      rw [Nat.mul_zero, v10_zero]
      have : ((GI.mk (Q62 : Int) 0).conj.sub ⟨(Q62 : Int), 0⟩) = GI.zero := GI.ext' (by simp only [GI.conj, GI.sub, GI.zero]; omega) (by simp only [GI.conj, GI.sub, GI.zero]; omega)
      rw [this]
      exact Bd.zero _
    · have h1 := v10_conj0 (show 1 ≤ a by omega) ha
      have e : v10 (1023 * a) = (v10 (512 - a)).neg := by
        rw [← v10_half, show 1023 * a = 512 - a + 512 + 1024 * (a - 1) by omega, v10_turn]
      rw [e, show (v10 a).conj.sub (v10 (512 - a)).neg = (v10 a).conj.add (v10 (512 - a)) from GI.ext' (by simp only [GI.conj, GI.sub, GI.neg, GI.add]; omega) (by simp only [GI.conj, GI.sub, GI.neg, GI.add]; omega)]
      exact h1
  · rw [v10_half, show 1023 * (a + 512) = 1023 * a + 512 + 1024 * 511 by omega, v10_turn, v10_half]
    have := h.neg
    rwa [show ((v10 a).conj.sub (v10 (1023 * a))).neg = (v10 a).neg.conj.sub (v10 (1023 * a)).neg from GI.ext' (by simp only [GI.conj, GI.sub, GI.neg]; omega) (by simp only [GI.conj, GI.sub, GI.neg]; omega)] at this

/-! ### in units of 2^-1074 -/
def w10 (j : Nat) : GI := (v10 j).sc ((2 ^ 1012 : Nat) : Int)
def s10 : Nat := 2 ^ 1012 * 4611686018427392000
theorem SU_eq : SU = 2 ^ 1012 * Q62 := by unfold SU Q62; decide +kernel
theorem w10_half (j : Nat) : w10 (j + 512) = (w10 j).neg := by
  unfold w10
  rw [v10_half]
  apply GI.ext' <;> simp only [GI.neg, GI.sc] <;> grind
theorem w10_bd (a : Nat) : Bd (w10 a) s10 := (v10_norm a).sc _
theorem w10_mul (a b : Nat) : Bd ((((w10 a).mul (w10 b)).sub ((w10 (a + b)).sc (SU : Int))).sc ((281474976710656 : Nat) : Int)) (SU * SU) := by
  have h := ((v10_mul a b).sc (2 ^ 1012 * 2 ^ 1012)).sc 281474976710656
  have e : (((w10 a).mul (w10 b)).sub ((w10 (a + b)).sc (SU : Int))) = (((v10 a).mul (v10 b)).sub ((v10 (a + b)).sc (Q62 : Int))).sc ((2 ^ 1012 * 2 ^ 1012 : Nat) : Int) := by
    rw [SU_eq, Int.natCast_mul, Int.natCast_mul]
    unfold w10
    generalize ((2 ^ 1012 : Nat) : Int) = p
    generalize (Q62 : Int) = Q
    apply GI.ext' <;> simp only [GI.mul, GI.sub, GI.sc] <;> grind
  rw [e]
  refine h.mono ?_
  rw [SU_eq]
  unfold Q62
  decide +kernel
theorem w10_conj (a : Nat) : Bd ((w10 a).conj.sub (w10 (1023 * a))) (2 ^ 1012 * 4096) := by
  have h := (v10_conj a).sc (2 ^ 1012)
  rwa [show ((v10 a).conj.sub (v10 (1023 * a))).sc ((2 ^ 1012 : Nat) : Int) = (w10 a).conj.sub (w10 (1023 * a)) by
    unfold w10
    generalize ((2 ^ 1012 : Nat) : Int) = p
    apply GI.ext' <;> simp only [GI.conj, GI.sub, GI.sc] <;> grind] at h

/-- The roots of order 2^k. -/
def wK (k j : Nat) : GI := w10 (j * 2 ^ (10 - k))
theorem wK_ok (k : Nat) (hk : 1 ≤ k) (hk' : k ≤ 10) : Wk k (wK k) s10 where
  one := by
    unfold wK w10
    rw [Nat.zero_mul, v10_zero, SU_eq, Int.natCast_mul]
    apply GI.ext' <;> simp only [GI.sc] <;> grind
  half := fun j => by
    unfold wK
    rw [Nat.add_mul, ← Nat.pow_add, show k - 1 + (10 - k) = 9 by omega]
    exact w10_half _
  mul := fun a b => by
    unfold wK
    rw [Nat.add_mul]
    exact w10_mul _ _
  bd := fun a => w10_bd _
  s1 := by unfold s10 SU; decide +kernel
  s0 := by unfold s10 SU; decide +kernel
theorem Wk.conj {k : Nat} {w : Nat → GI} {s : Nat} (h : Wk k w s) : Wk k (fun j => (w j).conj) s where
  one := by simp only [h.one]; rfl
  half := fun j => by
    simp only [h.half]
    apply GI.ext' <;> simp only [GI.neg, GI.conj] <;> omega
  mul := fun a b => by
    have := (h.mul a b).conj
    rwa [show ((((w a).mul (w b)).sub ((w (a + b)).sc (SU : Int))).sc ((281474976710656 : Nat) : Int)).conj = ((((w a).conj).mul ((w b).conj)).sub (((w (a + b)).conj).sc (SU : Int))).sc ((281474976710656 : Nat) : Int) by
      generalize ((281474976710656 : Nat) : Int) = q
      apply GI.ext' <;> simp only [GI.mul, GI.sub, GI.sc, GI.conj] <;> grind] at this
  bd := fun a => (h.bd a).conj
  s1 := h.s1
  s0 := h.s0

/-- The bits of the master table have these values. -/
theorem tw_cv {j : Nat} (h : j < 512) : CV (clsC (zat twM j)) (w10 j) := by
  have hl := tw_len.1
  have hx : twM[j]? = some (zat twM j) := by unfold zat; rw [List.getElem?_eq_getElem (by omega)]; rfl
  obtain ⟨y, hy, hf⟩ := all2_at tw_val hx
  rw [twV_some h] at hy
  have hy' := Option.some.inj hy
  subst hy'
  generalize zat twM j = m at *
  unfold valB at hf
  simp only [Bool.and_eq_true, decide_eq_true_eq] at hf
  obtain ⟨⟨⟨⟨⟨h1, h2⟩, h3⟩, h4⟩, h5⟩, h6⟩ := hf
  have nn : ∀ p, Fin64 p → cls p = some p := fun p hp => by
    unfold cls
    have : nanB p = false := by
      obtain ⟨e, -, hr, -⟩ := read_fin hp
      unfold nanB
      rw [hr]; rfl
    rw [this]; rfl
  refine ⟨⟨m.1, nn _ ⟨h1, h2⟩, ⟨h1, h2⟩, ?_⟩, ⟨m.2, nn _ ⟨h3, h4⟩, ⟨h3, h4⟩, ?_⟩⟩
  · rw [h5]; unfold w10; simp only [GI.sc]; exact Int.mul_comm _ _
  · rw [h6]; unfold w10; simp only [GI.sc]; exact Int.mul_comm _ _
end Go.Proofs.Ygctab
