import Derived.Test.YgctabDoorGrowI
namespace Go.Proofs.YgctabDoor
set_option linter.unusedVariables false
set_option exponentiation.threshold 6000

/-- Partials, the greatest first: none zero, each one's lowest digit above all that follow. -/
def Dn : Nat → List Int → Prop
  | _, [] => True
  | K, p :: rest => p ≠ 0 ∧ p.natAbs < 2 ^ K ∧ ∃ L, ((2 ^ L : Nat) : Int) ∣ p ∧ Dn L rest

/-- Finish over whole numbers. -/
def finR : Int → List Int → Int
  | hi, [] => hi
  | hi, p :: rest =>
    if hi + p - rnd (hi + p) = 0 then finR (rnd (hi + p)) rest
    else match rest with
      | [] => rnd (hi + p)
      | q :: _ =>
        if (hi + p - rnd (hi + p) < 0 ∧ q < 0) ∨ (0 < hi + p - rnd (hi + p) ∧ 0 < q) then
          (if rnd (rnd (hi + p) + 2 * (hi + p - rnd (hi + p))) - rnd (hi + p) = 2 * (hi + p - rnd (hi + p)) then rnd (rnd (hi + p) + 2 * (hi + p - rnd (hi + p))) else rnd (hi + p))
        else rnd (hi + p)

theorem dvd_natAbs_le {z : Int} {L : Nat} (h0 : z ≠ 0) (h : ((2 ^ L : Nat) : Int) ∣ z) : 2 ^ L ≤ z.natAbs := by
  have h1 : 2 ^ L ∣ z.natAbs := by simpa using Int.natAbs_dvd_natAbs.2 h
  exact Nat.le_of_dvd (by omega) h1
/-- Two multiples of a step that differ differ by a step. -/
theorem step_le {a b s : Nat} (ha : s ∣ a) (hb : s ∣ b) (h : a < b) : a + s ≤ b := by
  obtain ⟨x, rfl⟩ := ha
  obtain ⟨y, rfl⟩ := hb
  have hs : 0 < s := by
    rcases Nat.eq_zero_or_pos s with rfl | hs
    · simp at h
    · exact hs
  have : x < y := Nat.lt_of_mul_lt_mul_left h
  have h2 : s * (x + 1) ≤ s * y := Nat.mul_le_mul_left s this
  rw [Nat.mul_succ] at h2
  exact h2
theorem natAbs_dvd {z : Int} {L : Nat} (h : ((2 ^ L : Nat) : Int) ∣ z) : 2 ^ L ∣ z.natAbs := by simpa using Int.natAbs_dvd_natAbs.2 h

theorem Dn_sum : ∀ (zs : List Int) (K : Nat), Dn K zs → (sumI zs).natAbs < 2 ^ K
  | [], K, _ => by simp only [sumI]; exact Nat.pow_pos (by decide)
  | p :: rest, K, h => by
    obtain ⟨h0, h1, L, hd, hr⟩ := h
    have ih := Dn_sum rest L hr
    have hl := dvd_natAbs_le h0 hd
    have hLK : L ≤ K := by
      have : 2 ^ L < 2 ^ K := by omega
      exact Nat.le_of_lt ((Nat.pow_lt_pow_iff_right (by decide)).1 this)
    have := step_le (natAbs_dvd hd) (Nat.pow_dvd_pow 2 hLK) h1
    simp only [sumI]
    omega
theorem Dn_sign (q : Int) (rest : List Int) (K : Nat) (h : Dn K (q :: rest)) : (0 < q → 0 < sumI (q :: rest)) ∧ (q < 0 → sumI (q :: rest) < 0) ∧ q ≠ 0 := by
  obtain ⟨h0, h1, L, hd, hr⟩ := h
  have ih := Dn_sum rest L hr
  have hl := dvd_natAbs_le h0 hd
  simp only [sumI]
  omega

theorem rnd_uniq {z f : Int} (hf : ((ulp z : Nat) : Int) ∣ f) (h : 2 * (f - z).natAbs < ulp z) : rnd z = f := by
  have h1 := rnd_err z
  have h2 := rnd_dvd_ulp z
  have h3 : ((ulp z : Nat) : Int) ∣ rnd z - f := Int.dvd_sub h2 hf
  have h4 : (rnd z - f).natAbs < ulp z := by omega
  have h5 : ulp z ∣ (rnd z - f).natAbs := by simpa using Int.natAbs_dvd_natAbs.2 h3
  have h6 := Nat.eq_zero_of_dvd_of_lt h5 h4
  omega

theorem not_pow {T : Int} (h : ¬ Rep T) (m : Nat) : T.natAbs ≠ 2 ^ m := by
  intro hm
  apply h
  refine rep_of_ndvd (k := m) (Int.dvd_natAbs.1 (by rw [hm]; exact Int.dvd_refl _)) ?_
  rw [hm]
  exact Nat.pow_le_pow_right (by decide) (by omega)
/-- The place of the last digit does not turn when less than a step is added. -/
theorem ulp_same {T R : Int} {L : Nat} (hT : ((2 ^ L : Nat) : Int) ∣ T) (hR : R.natAbs < 2 ^ L) (he : T - rnd T ≠ 0) : ulp (T + R) = ulp T := by
  have hnr : ¬ Rep T := fun hr => he (by rw [rnd_exact hr]; omega)
  have hd0 : ed T.natAbs ≠ 0 := by
    intro h0
    apply he
    rw [rnd_of_dvd (z := T) (by unfold ulp; rw [h0]; simp)]
    omega
  have hlo := ed_ge hd0
  have hhi := ed_lt T.natAbs
  have herr := rnd_err T
  have hds : ((2 ^ L : Nat) : Int) ∣ T - rnd T := Int.dvd_sub hT (rnd_dvd hT)
  have hel := dvd_natAbs_le he hds
  have hu : ulp T = 2 ^ ed T.natAbs := rfl
  rw [hu] at herr
  have hLd : L ≤ ed T.natAbs := by
    have : 2 ^ L ≤ 2 ^ ed T.natAbs := by omega
    exact (Nat.pow_le_pow_iff_right (by decide)).1 this
  have hne : T.natAbs ≠ 2 ^ (52 + ed T.natAbs) := not_pow hnr _
  have hTd := natAbs_dvd hT
  generalize hdd : ed T.natAbs = d at *
  have s1 := step_le (Nat.pow_dvd_pow 2 (show L ≤ 52 + d by omega)) hTd (by omega)
  have s2 := step_le hTd (Nat.pow_dvd_pow 2 (show L ≤ 53 + d by omega)) hhi
  have hz1 : 2 ^ (52 + d) ≤ (T + R).natAbs := by omega
  have hz2 : (T + R).natAbs < 2 ^ (53 + d) := by omega
  unfold ulp
  rw [Nat.le_antisymm (ed_le hz2) (le_ed hz1), hdd]

/-- Half way and the neighbour beyond: no double, unless it is a tie. -/
theorem not_rep {T : Int} (he : T - rnd T ≠ 0) (hlt : 2 * (T - rnd T).natAbs < ulp T) : ¬ Rep (rnd T + 2 * (T - rnd T)) := by
  intro hF
  have hnr : ¬ Rep T := fun hr => he (by rw [rnd_exact hr]; omega)
  have hd0 : ed T.natAbs ≠ 0 := by
    intro h0
    apply he
    rw [rnd_of_dvd (z := T) (by unfold ulp; rw [h0]; simp)]
    omega
  have hlo := ed_ge hd0
  have hs := rnd_dvd_ulp T
  have hu : ulp T = 2 ^ ed T.natAbs := rfl
  have hFd := rep_dvd hF
  rw [hu] at hlt hs
  generalize hE : T - rnd T = e at *
  generalize hS : rnd T = s at *
  have hne : T.natAbs ≠ 2 ^ (52 + ed T.natAbs) := not_pow hnr _
  generalize hdd : ed T.natAbs = d at *
  have hge : 2 ^ (52 + d) ≤ (s + 2 * e).natAbs := by
    apply Nat.le_of_not_lt
    intro hc
    -- s lies beyond T, a multiple of the step
    have h1 : 2 ^ (52 + d) < s.natAbs := by omega
    have h2 := step_le (Nat.pow_dvd_pow 2 (show d ≤ 52 + d by omega)) (natAbs_dvd hs) h1
    omega
  have hFd' : ((2 ^ d : Nat) : Int) ∣ s + 2 * e := by
    refine Int.dvd_trans ?_ hFd
    exact Int.natCast_dvd_natCast.2 (Nat.pow_dvd_pow 2 (le_ed hge))
  have h3 : ((2 ^ d : Nat) : Int) ∣ 2 * e := by
    have := Int.dvd_sub hFd' hs
    rwa [show s + 2 * e - s = 2 * e by omega] at this
  have h4 := Nat.eq_zero_of_dvd_of_lt (natAbs_dvd h3) (by omega)
  omega

theorem two_dvd {e : Int} {L : Nat} (h : ((2 ^ L : Nat) : Int) ∣ e) : ((2 ^ (L + 1) : Nat) : Int) ∣ 2 * e := by
  rw [Nat.pow_succ, Nat.mul_comm, Int.natCast_mul]
  exact Int.mul_dvd_mul (Int.dvd_refl 2) h

/-- Finish rounds the exact sum once. -/
theorem fin_right : ∀ (zs : List Int) (hi : Int) (K : Nat), Rep hi → hi ≠ 0 → ((2 ^ K : Nat) : Int) ∣ hi → Dn K zs → finR hi zs = rnd (hi + sumI zs)
  | [], hi, K, rh, _, _, _ => by
    unfold finR
    simp only [sumI, Int.add_zero]
    exact (rnd_exact rh).symm
  | p :: rest, hi, K, rh, h0, hK, hD => by
    obtain ⟨hp0, hp1, L, hd, hr⟩ := hD
    have hl := dvd_natAbs_le hp0 hd
    have hhl := dvd_natAbs_le h0 hK
    have hLK : L ≤ K := by
      have : 2 ^ L < 2 ^ K := by omega
      exact Nat.le_of_lt ((Nat.pow_lt_pow_iff_right (by decide)).1 this)
    have hT : ((2 ^ L : Nat) : Int) ∣ hi + p := Int.dvd_add (pow_dvd_trans hLK hK) hd
    have hsum : hi + sumI (p :: rest) = hi + p + sumI rest := by simp only [sumI]; omega
    rw [hsum]
    unfold finR
    by_cases he : hi + p - rnd (hi + p) = 0
    · rw [if_pos he, fin_right rest (rnd (hi + p)) L (rep_rnd _) (by omega) (rnd_dvd hT) hr]
      congr 1
      omega
    · rw [if_neg he]
      generalize hi + p = T at *
      have hR := Dn_sum rest L hr
      have hul := ulp_same hT hR he
      have hes : ((2 ^ L : Nat) : Int) ∣ T - rnd T := Int.dvd_sub hT (rnd_dvd hT)
      have hel := dvd_natAbs_le he hes
      have herr := rnd_err T
      have hsd := rnd_dvd_ulp T
      have hS : ulp T = 2 ^ ed T.natAbs := rfl
      have hLd : L + 1 ≤ ed T.natAbs := by
        have : 2 ^ (L + 1) ≤ 2 ^ ed T.natAbs := by rw [Nat.pow_succ]; omega
        exact (Nat.pow_le_pow_iff_right (by decide)).1 this
      by_cases htie : 2 * (T - rnd T).natAbs < ulp T
      · -- no tie: s
        have hst : 2 * (T - rnd T).natAbs + 2 ^ (L + 1) ≤ ulp T := by
          have := step_le (natAbs_dvd (two_dvd hes)) (Nat.pow_dvd_pow 2 hLd) (by rw [← hS, Int.natAbs_mul]; exact htie)
          rw [← hS, Int.natAbs_mul] at this
          exact this
        have hgoal : rnd (T + sumI rest) = rnd T := by
          apply rnd_uniq
          · rw [hul]; exact hsd
          · rw [hul]
            rw [Nat.pow_succ] at hst
            omega
        rw [hgoal]
        cases rest with
        | nil => rfl
        | cons q rest' =>
          simp only
          split
          · rw [if_neg]
            intro hc
            apply not_rep he htie
            rw [← show rnd (rnd T + 2 * (T - rnd T)) = rnd T + 2 * (T - rnd T) by omega]
            exact rep_rnd _
          · rfl
      · have htie' : 2 * (T - rnd T).natAbs = ulp T := by
          have : (rnd T - T).natAbs = (T - rnd T).natAbs := by omega
          omega
        cases rest with
        | nil => simp [sumI]
        | cons q rest' =>
          have hsg := Dn_sign q rest' L hr
          simp only
          generalize hRR : sumI (q :: rest') = R at *
          by_cases hsame : (T - rnd T < 0 ∧ q < 0) ∨ (0 < T - rnd T ∧ 0 < q)
          · rw [if_pos hsame]
            have hF : ((ulp T : Nat) : Int) ∣ rnd T + 2 * (T - rnd T) := by
              refine Int.dvd_add hsd ?_
              rcases Int.natAbs_eq (T - rnd T) with h | h
              · rw [h]
                exact ⟨1, by omega⟩
              · rw [h]
                exact ⟨-1, by omega⟩
            have hFr : Rep (rnd T + 2 * (T - rnd T)) := by
              have hhi := ed_lt T.natAbs
              refine rep_of_ndvd (k := ed T.natAbs) hF ?_
              apply Nat.le_of_not_lt
              intro hc
              have hFn : 2 ^ ed T.natAbs ∣ (rnd T + 2 * (T - rnd T)).natAbs := natAbs_dvd hF
              have := step_le (Nat.pow_dvd_pow 2 (show ed T.natAbs ≤ 53 + ed T.natAbs by omega)) hFn hc
              rw [hS] at htie'
              omega
            rw [rnd_exact hFr, if_pos (by omega)]
            symm
            apply rnd_uniq
            · rw [hul]; exact hF
            · rw [hul]
              omega
          · rw [if_neg hsame]
            symm
            apply rnd_uniq
            · rw [hul]; exact hsd
            · rw [hul]
              omega
end Go.Proofs.YgctabDoor
