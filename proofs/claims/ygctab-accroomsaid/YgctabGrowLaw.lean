import Derived.Test.YgctabPatGrow
import Derived.Test.YgctabGrowI
namespace Go.Proofs.Ygctab
open Go.RowKit
set_option linter.unusedVariables false
set_option linter.unusedSimpArgs false
set_option exponentiation.threshold 6000

def vals (ps : List Nat) : List Int := ps.map fval
theorem vals_cons (p : Nat) (ps : List Nat) : vals (p :: ps) = fval p :: vals ps := rfl
theorem vals_append (xs ys : List Nat) : vals (xs ++ ys) = vals xs ++ vals ys := by simp [vals]
theorem magsL_vals : ∀ ps : List Nat, magsL ps = magsI (vals ps)
  | [] => rfl
  | p :: ps => by rw [vals_cons, magsL, magsI, magsL_vals ps]

/-- Grow's list as whole numbers, and every one a finite double. -/
theorem growL_vals : ∀ (ps : List Nat) (x : Nat), Fin64 x → (∀ p ∈ ps, Fin64 p) → (fval x).natAbs + 2 * magsL ps ≤ capM →
    vals (growL ps x).1 = (growI (vals ps) (fval x)).1 ∧ fval (growL ps x).2 = (growI (vals ps) (fval x)).2 ∧ Fin64 (growL ps x).2 ∧ ∀ p ∈ (growL ps x).1, Fin64 p
  | [], x, hx, _, _ => ⟨rfl, rfl, hx, fun p hp => by simp [growL] at hp⟩
  | p :: ps, x, hx, hp, hb => by
    unfold magsL at hb
    obtain ⟨k, s1, e1, vs, ve⟩ := twoSum_spec hx (hp p (List.mem_cons_self ..)) (by omega) (by omega)
    have hn := rnd_near (fval x + fval p) (rep_fval x)
    obtain ⟨i1, i2, i3, i4⟩ := growL_vals ps (tsS x p) s1 (fun q hq => hp q (List.mem_cons_of_mem _ hq)) (by
      rw [vs]
      generalize fval x = X at *
      generalize fval p = Pv at *
      generalize magsL ps = M at *
      omega)
    have hz := isz_val e1
    rw [ve] at hz
    rw [vs] at i1 i2
    unfold growL
    rw [vals_cons]
    unfold growI
    by_cases h0 : fval x + fval p - rnd (fval x + fval p) = 0
    · rw [if_pos h0, hz, decide_eq_true h0, if_pos rfl]
      exact ⟨i1, i2, i3, i4⟩
    · rw [if_neg h0, hz, decide_eq_false h0, if_neg (by simp)]
      refine ⟨?_, i2, i3, ?_⟩
      · rw [vals_cons, i1, ve]
      · intro q hq
        rcases List.mem_cons.1 hq with rfl | hq
        · exact e1
        · exact i4 q hq

theorem growR_vals (ps : List Nat) (x : Nat) (hx : Fin64 x) (hp : ∀ p ∈ ps, Fin64 p) (hb : (fval x).natAbs + 2 * magsL ps ≤ capM) :
    vals (growR ps x) = growRI (vals ps) (fval x) ∧ ∀ p ∈ growR ps x, Fin64 p := by
  obtain ⟨i1, i2, i3, i4⟩ := growL_vals ps x hx hp hb
  unfold growR growRI
  rw [isz_val i3, ← i1, ← i2]
  by_cases h0 : fval (growL ps x).2 = 0
  · rw [decide_eq_true h0, if_pos rfl, if_pos h0, List.append_nil]
    exact ⟨rfl, i4⟩
  · rw [decide_eq_false h0, if_neg (by simp), if_neg h0, vals_append]
    refine ⟨rfl, fun q hq => ?_⟩
    rcases List.mem_append.1 hq with hq | hq
    · exact i4 q hq
    · simp at hq; subst hq; exact i3

theorem fval_ne {p : Nat} (h : fcls p = 1) : fval p ≠ 0 := by
  have h1 := fman_ne h
  intro h0
  have h2 := fval_mag p
  rw [h0] at h2
  have h3 := two_pos (fexp p + 1074).toNat
  have := Nat.mul_pos (Nat.pos_of_ne_zero h1) h3
  simp at h2
  omega
theorem fcls_of {p : Nat} (h : Fin64 p) (h0 : fval p ≠ 0) : fcls p = 1 := by
  have h1 := h.2
  by_cases h2 : fcls p = 0
  · exfalso
    apply h0
    have : fman p = 0 := by
      unfold fcls splitF at h2
      unfold fman splitF
      split at h2
      · split at h2 <;> simp at h2
      · split at h2
        · split at h2
          · rename_i g1 g2 g3
            rw [if_neg g1, if_pos g2, if_pos g3]
          · simp at h2
        · simp at h2
    unfold fval
    rw [this]
    simp only [Int.natCast_zero, Int.zero_mul, Int.mul_zero]
  · omega

/-- A finite double that is not zero: its lowest and its highest digit. -/
theorem fval_ends {p : Nat} (h : fcls p = 1) : ∃ l k : Nat, lowB (fman p) + fexp p + 1074 = l ∧ highB (fman p) + fexp p + 1074 = k ∧ (fval p).natAbs.log2 = k ∧ ∀ K : Nat, ((2 ^ K : Nat) : Int) ∣ fval p ↔ K ≤ l := by
  have hm := fman_lt p
  have hr := fexp_range p
  obtain ⟨l, k, hl, hk, m1, m2, m3, m4⟩ := ends_spec (by omega) (fman_ne h)
  have hmag := fval_mag p
  obtain ⟨E, hE⟩ : ∃ E : Nat, fexp p + 1074 = E := ⟨(fexp p + 1074).toNat, by omega⟩
  have hE' : (fexp p + 1074).toNat = E := by omega
  rw [hE'] at hmag
  refine ⟨l + E, k + E, by omega, by omega, ?_, fun K => ?_⟩
  · rw [hmag, log2_mul_pow (fman_ne h)]
    congr 1
    exact (Nat.log2_eq_iff (fman_ne h)).2 ⟨m3, m4⟩
  · have e1 : ((2 ^ K : Nat) : Int) ∣ fval p ↔ 2 ^ K ∣ fman p * 2 ^ E := by
      rw [← hmag, ← Int.natCast_dvd_natCast, Int.dvd_natAbs]
    rw [e1]
    clear e1 hmag hE hE' hl hk m3 m4 hr
    generalize fman p = m at *
    constructor
    · intro hd
      apply Nat.le_of_not_lt
      intro hlt
      have h1 : 2 ^ (l + 1 + E) ∣ m * 2 ^ E := Nat.dvd_trans (Nat.pow_dvd_pow 2 (by omega)) hd
      rw [Nat.pow_add] at h1
      have h2 : 2 ^ (l + 1) ∣ m := Nat.dvd_of_mul_dvd_mul_right (two_pos E) h1
      obtain ⟨q, hq⟩ := h2
      rw [hq, Nat.pow_succ, Nat.mul_assoc, Nat.mul_div_cancel_left _ (two_pos l)] at m2
      omega
    · intro hle
      obtain ⟨q, hq⟩ := Nat.dvd_of_mod_eq_zero m1
      refine Nat.dvd_trans (Nat.pow_dvd_pow 2 hle) ?_
      rw [Nat.pow_add]
      exact Nat.mul_dvd_mul ⟨q, hq⟩ (Nat.dvd_refl _)

theorem apartL_iff : ∀ (ps : List Nat) (last : Int), (∀ p ∈ ps, Fin64 p) → (apartL last ps = true ↔ Ap (last + 1075).toNat (vals ps))
  | [], _, _ => by simp [apartL, vals, Ap]
  | p :: ps, last, hp => by
    have ih := apartL_iff ps
    rw [vals_cons]
    unfold apartL Ap
    simp only [Bool.and_eq_true, decide_eq_true_eq]
    by_cases hc : fcls p = 1
    · obtain ⟨l, k, hl, hk, hlog, hd⟩ := fval_ends hc
      rw [hlog, hd, ih _ (fun q hq => hp q (List.mem_cons_of_mem _ hq)), show (highB (fman p) + fexp p + 1075).toNat = k + 1 by omega]
      have e : last < lowB (fman p) + fexp p ↔ (last + 1075).toNat ≤ l := by omega
      rw [e]
      simp only [hc, true_and]
      have := fval_ne hc
      simp only [ne_eq, this, not_false_eq_true, true_and]
    · constructor
      · rintro ⟨h, -⟩; exact absurd h hc
      · rintro ⟨h, -⟩; exact absurd (fcls_of (hp p (List.mem_cons_self ..)) h) hc

/-- What Grow gives of a state that may grow. -/
theorem grow_spec {N x : Nat} {ps : List Nat} (hF : F64s ps) (hx : x < 18446744073709551616) (h : growableB N ps x = true) :
    chkB (N + 1) (growR ps x) = true ∧ F64s (growR ps x) ∧ (∀ p ∈ growR ps x, Fin64 p) ∧ sumI (vals (growR ps x)) = fval x + sumI (vals ps) := by
  obtain ⟨s1, s2, s3, s4, s5, s6, s7, s8⟩ := growable_spec hF hx h
  have hcap : (fval x).natAbs + 2 * magsL ps ≤ 2 ^ 2090 := by
    have h9 : N * 2 ^ 2075 ≤ 1024 * 2 ^ 2075 := Nat.mul_le_mul_right _ (by omega)
    have e1 : 2 ^ 2074 + 2 * (1024 * 2 ^ 2075) ≤ 2 ^ 2090 := by decide
    refine Nat.le_trans ?_ e1
    exact Nat.add_le_add s6 (Nat.mul_le_mul_left 2 (Nat.le_trans s4 h9))
  obtain ⟨v1, v2⟩ := growR_vals ps x s5 s7 (by rw [capM_eq]; exact hcap)
  have hrep : ∀ z ∈ vals ps, Rep z := by
    intro z hz
    obtain ⟨p, -, rfl⟩ := List.mem_map.1 hz
    exact rep_fval p
  have hap : Ap 0 (growRI (vals ps) (fval x)) :=
    growRI_ap (vals ps) (fval x) 0 _ (by simp) (fun z _ => by simp) ((apartL_iff ps (-5000) s7).1 s3) (rep_fval x) hrep
  have hap' : apartL (-5000) (growR ps x) = true := (apartL_iff _ _ v2).2 (by rw [v1]; exact hap)
  have hlen : (growR ps x).length ≤ 2098 := by
    have hl : (growR ps x).length = (growRI (vals ps) (fval x)).length := by rw [← v1]; simp [vals]
    rw [hl]
    rcases Ap_length _ 0 2098 hap (fun z hz => by
      rw [← v1] at hz
      obtain ⟨p, -, rfl⟩ := List.mem_map.1 hz
      exact fval_lt p) with h0 | h0
    · rw [h0]; simp
    · omega
  have hmag : magsL (growR ps x) ≤ (N + 1) * 2 ^ 2075 := by
    rw [magsL_vals, v1]
    rw [magsL_vals] at s4 hcap
    refine Nat.le_trans (growRI_mags _ _ (rep_fval x) hrep hcap) ?_
    have h1 : (vals ps).length = ps.length := by simp [vals]
    rw [h1, show (N + 1) * 2 ^ 2075 = N * 2 ^ 2075 + 2 ^ 2075 from Nat.succ_mul _ _]
    have h2 : ps.length * 2 ^ 2037 ≤ 2098 * 2 ^ 2037 := Nat.mul_le_mul_right _ s2
    have h3 : 2 ^ 2074 + 2 * (2098 * 2 ^ 2037) ≤ 2 ^ 2075 := by decide
    clear hcap hap hap' hlen s8 h
    have h4 : (fval x).natAbs + magsI (vals ps) + 2 * (ps.length * 2 ^ 2037) ≤ 2 ^ 2074 + N * 2 ^ 2075 + 2 * (2098 * 2 ^ 2037) :=
      Nat.add_le_add (Nat.add_le_add s6 s4) (Nat.mul_le_mul_left 2 h2)
    refine Nat.le_trans h4 ?_
    rw [Nat.add_right_comm, Nat.add_comm]
    exact Nat.add_le_add_left h3 _
  refine ⟨?_, fun p hp => (v2 p hp).1, v2, by rw [v1, growRI_sum]⟩
  unfold chkB
  simp only [Bool.and_eq_true, decide_eq_true_eq]
  exact ⟨by omega, hlen, hap', hmag⟩
end Go.Proofs.Ygctab
