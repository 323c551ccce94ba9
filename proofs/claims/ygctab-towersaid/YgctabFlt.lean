namespace Go.Proofs.Ygctab

/-! ### rounding of whole numbers to 53 binary digits, to nearest, ties to even -/
/-- The place of the last digit that is kept. -/
def ed (n : Nat) : Nat := n.log2 - 52
/-- n / 2^d to nearest, ties to even. -/
def rne (n d : Nat) : Nat := n / 2 ^ d + (if 2 ^ d < 2 * (n % 2 ^ d) ∨ (2 ^ d = 2 * (n % 2 ^ d) ∧ n / 2 ^ d % 2 = 1) then 1 else 0)
def rndN (n : Nat) : Nat := rne n (ed n) * 2 ^ ed n

theorem two_pos (d : Nat) : 0 < 2 ^ d := Nat.pow_pos (by decide)

theorem ed_lt (n : Nat) : n < 2 ^ (53 + ed n) := by
  refine Nat.lt_of_lt_of_le (Nat.lt_log2_self (n := n)) (Nat.pow_le_pow_right (by decide) ?_)
  unfold ed; omega
theorem ed_ge {n : Nat} (h : ed n ≠ 0) : 2 ^ (52 + ed n) ≤ n := by
  have hn : n ≠ 0 := by intro e; subst e; exact h (by decide)
  have e : 52 + ed n = n.log2 := by unfold ed at *; omega
  rw [e]
  exact Nat.log2_self_le hn
theorem ed_le {n d : Nat} (h : n < 2 ^ (53 + d)) : ed n ≤ d := by
  by_cases h0 : ed n = 0
  · omega
  · have h1 := ed_ge h0
    have h2 : 2 ^ (52 + ed n) < 2 ^ (53 + d) := Nat.lt_of_le_of_lt h1 h
    have := (Nat.pow_lt_pow_iff_right (a := 2) (by decide)).1 h2
    omega
theorem le_ed {n d : Nat} (h : 2 ^ (52 + d) ≤ n) : d ≤ ed n := by
  have h2 : 2 ^ (52 + d) < 2 ^ (53 + ed n) := Nat.lt_of_le_of_lt h (ed_lt n)
  have := (Nat.pow_lt_pow_iff_right (a := 2) (by decide)).1 h2
  omega

theorem rne_err (n d : Nat) : 2 * n ≤ 2 * (rne n d * 2 ^ d) + 2 ^ d ∧ 2 * (rne n d * 2 ^ d) ≤ 2 * n + 2 ^ d := by
  have h1 := Nat.div_add_mod n (2 ^ d)
  have h2 := Nat.mod_lt n (two_pos d)
  unfold rne
  rw [Nat.mul_comm] at h1
  split
  · rename_i hc
    rw [Nat.add_mul, Nat.one_mul]
    generalize n / 2 ^ d * 2 ^ d = a at *
    rcases hc with hc | ⟨hc, -⟩ <;> omega
  · rename_i hc
    rw [Nat.add_zero]
    have hc' : ¬ 2 ^ d < 2 * (n % 2 ^ d) := fun x => hc (Or.inl x)
    generalize n / 2 ^ d * 2 ^ d = a at *
    omega

theorem rne_exact {n d : Nat} (h : 2 ^ d ∣ n) : rne n d * 2 ^ d = n := by
  have hm : n % 2 ^ d = 0 := Nat.mod_eq_zero_of_dvd h
  have := two_pos d
  unfold rne
  rw [hm, if_neg (by omega), Nat.add_zero]
  exact Nat.div_mul_cancel h

theorem rndN_exact {n : Nat} (h : 2 ^ ed n ∣ n) : rndN n = n := rne_exact h

theorem rne_le {n d c : Nat} (h : n < c * 2 ^ d) : rne n d ≤ c := by
  have : n / 2 ^ d < c := (Nat.div_lt_iff_lt_mul (two_pos d)).2 h
  unfold rne
  split <;> omega

theorem rne_ge {n d c : Nat} (h : c * 2 ^ d ≤ n) : c ≤ rne n d := by
  have : c ≤ n / 2 ^ d := (Nat.le_div_iff_mul_le (two_pos d)).2 h
  unfold rne
  omega

/-- Whole numbers that 53 binary digits hold. -/
def Rep (z : Int) : Prop := ∃ (c : Int) (d : Nat), -9007199254740992 ≤ c ∧ c ≤ 9007199254740992 ∧ z = c * 2 ^ d

def rnd (z : Int) : Int := if z < 0 then -(rndN z.natAbs : Int) else (rndN z.natAbs : Int)
/-- The unit of the last place that is kept. -/
def ulp (z : Int) : Nat := 2 ^ ed z.natAbs
theorem ulp_pos (z : Int) : 0 < ulp z := two_pos _

theorem rep_of_dvd {z : Int} {k : Nat} (h : (2 ^ k : Int) ∣ z) (hb : z.natAbs ≤ 2 ^ (53 + k)) : Rep z := by
  obtain ⟨c, rfl⟩ := h
  refine ⟨c, k, ?_, ?_, Int.mul_comm _ _⟩
  all_goals
    rw [Int.natAbs_mul, Int.natAbs_pow, Nat.pow_add, Nat.mul_comm] at hb
    have := Nat.le_of_mul_le_mul_right hb (two_pos k)
    omega

theorem rep_neg {z : Int} (h : Rep z) : Rep (-z) := by
  obtain ⟨c, d, h1, h2, rfl⟩ := h
  exact ⟨-c, d, by omega, by omega, (Int.neg_mul _ _).symm⟩

theorem rnd_neg (z : Int) : rnd (-z) = -rnd z := by
  unfold rnd
  rw [Int.natAbs_neg]
  by_cases h : z = 0
  · subst h; rfl
  · by_cases h' : z < 0
    · rw [if_neg (by omega), if_pos h', Int.neg_neg]
    · rw [if_pos (by omega), if_neg h']

theorem rnd_err (z : Int) : 2 * (rnd z - z).natAbs ≤ ulp z := by
  have := rne_err z.natAbs (ed z.natAbs)
  unfold rnd ulp rndN
  split <;> omega

theorem rnd_dvd_ulp (z : Int) : ((ulp z : Nat) : Int) ∣ rnd z := by
  have h : ((ulp z : Nat) : Int) ∣ (rndN z.natAbs : Int) := by
    refine Int.natCast_dvd_natCast.2 ?_
    exact Nat.dvd_mul_left _ _
  unfold rnd
  split
  · exact Int.dvd_neg.2 h
  · exact h

theorem rnd_of_dvd {z : Int} (h : ((ulp z : Nat) : Int) ∣ z) : rnd z = z := by
  have : rndN z.natAbs = z.natAbs := rndN_exact (Int.ofNat_dvd_left.1 h)
  unfold rnd
  rw [this]
  split <;> omega

theorem pow_dvd_int {a b : Nat} (h : a ≤ b) : ((2 ^ a : Nat) : Int) ∣ (2 : Int) ^ b := by
  have : (2 : Int) ^ b = ((2 ^ b : Nat) : Int) := by rw [Int.natCast_pow]; rfl
  rw [this]
  exact Int.natCast_dvd_natCast.2 (Nat.pow_dvd_pow 2 h)

theorem rep_dvd {z : Int} (h : Rep z) : ((ulp z : Nat) : Int) ∣ z := by
  obtain ⟨c, d, h1, h2, rfl⟩ := h
  have hn : (c * 2 ^ d).natAbs = c.natAbs * 2 ^ d := by rw [Int.natAbs_mul, Int.natAbs_pow]; rfl
  unfold ulp
  by_cases hc : c.natAbs < 9007199254740992
  · have hl : ed (c * 2 ^ d).natAbs ≤ d := by
      refine ed_le ?_
      rw [hn, Nat.pow_add]
      exact Nat.mul_lt_mul_of_pos_right hc (two_pos d)
    exact Int.dvd_trans (pow_dvd_int hl) (Int.dvd_mul_left _ _)
  · have hc' : c.natAbs = 2 ^ 53 := by omega
    have hz : (c * 2 ^ d).natAbs = 2 ^ (53 + d) := by rw [hn, hc', ← Nat.pow_add]
    have hl : ed (c * 2 ^ d).natAbs ≤ 53 + d := by
      refine ed_le ?_
      rw [hz]
      exact Nat.pow_lt_pow_right (by decide) (by omega)
    refine Int.ofNat_dvd_left.2 ?_
    rw [hz] at hl ⊢
    exact Nat.pow_dvd_pow 2 hl

theorem rnd_exact {z : Int} (h : Rep z) : rnd z = z := rnd_of_dvd (rep_dvd h)

/-- A multiple of 2^k rounds to a multiple of 2^k. -/
theorem rnd_dvd {z : Int} {k : Nat} (h : ((2 ^ k : Nat) : Int) ∣ z) : ((2 ^ k : Nat) : Int) ∣ rnd z := by
  by_cases hk : k ≤ ed z.natAbs
  · exact Int.dvd_trans (Int.natCast_dvd_natCast.2 (Nat.pow_dvd_pow 2 hk)) (rnd_dvd_ulp z)
  · rw [rnd_of_dvd (Int.dvd_trans (Int.natCast_dvd_natCast.2 (Nat.pow_dvd_pow 2 (by omega))) h)]
    exact h

theorem rndN_le (n : Nat) : rndN n ≤ 2 ^ (53 + ed n) := by
  unfold rndN
  rw [Nat.pow_add]
  refine Nat.mul_le_mul_right _ (rne_le ?_)
  rw [← Nat.pow_add]
  exact ed_lt n

theorem rnd_abs (z : Int) : (rnd z).natAbs = rndN z.natAbs := by
  unfold rnd
  split <;> omega

theorem rep_of_ndvd {z : Int} {k : Nat} (h : ((2 ^ k : Nat) : Int) ∣ z) (hb : z.natAbs ≤ 2 ^ (53 + k)) : Rep z := by
  refine rep_of_dvd (k := k) ?_ hb
  rw [show (2 : Int) ^ k = ((2 ^ k : Nat) : Int) by rw [Int.natCast_pow]; rfl]
  exact h

theorem rep_rnd (z : Int) : Rep (rnd z) := rep_of_ndvd (rnd_dvd_ulp z) (by rw [rnd_abs]; exact rndN_le _)

/-- Of the multiples of the unit none is nearer. -/
theorem near_mult (z f : Int) (h : ((ulp z : Nat) : Int) ∣ f) : (rnd z - z).natAbs ≤ (f - z).natAbs := by
  have he := rnd_err z
  obtain ⟨a, ha⟩ := rnd_dvd_ulp z
  obtain ⟨b, rfl⟩ := h
  rw [ha] at he ⊢
  have hu := ulp_pos z
  generalize ulp z = u at *
  by_cases hab : a = b
  · subst hab; omega
  · have hd : (u : Int) * b - u * a = u * (b - a) := by rw [Int.mul_sub]
    have hge : u ≤ ((u : Int) * (b - a)).natAbs := by
      rw [Int.natAbs_mul]
      have : 1 ≤ (b - a).natAbs := by omega
      calc u = u * 1 := (Nat.mul_one u).symm
        _ ≤ u * (b - a).natAbs := Nat.mul_le_mul_left _ this
        _ = (u : Int).natAbs * (b - a).natAbs := by simp
    rw [← hd] at hge
    generalize (u : Int) * b = x at *
    generalize (u : Int) * a = y at *
    omega

/-- Of the numbers held none is nearer. -/
theorem rnd_near (z : Int) {f : Int} (hf : Rep f) : (rnd z - z).natAbs ≤ (f - z).natAbs := by
  by_cases hd : ((ulp z : Nat) : Int) ∣ f
  · exact near_mult z f hd
  · have hlt : ed f.natAbs < ed z.natAbs := by
      refine Nat.lt_of_not_le fun hle => hd ?_
      exact Int.dvd_trans (Int.natCast_dvd_natCast.2 (Nat.pow_dvd_pow 2 hle)) (rep_dvd hf)
    have h1 : 2 ^ (52 + ed z.natAbs) ≤ z.natAbs := ed_ge (by omega)
    have h2 : f.natAbs < 2 ^ (52 + ed z.natAbs) := Nat.lt_of_lt_of_le (ed_lt f.natAbs) (Nat.pow_le_pow_right (by decide) (by omega))
    have hg : ((ulp z : Nat) : Int) ∣ ((2 ^ (52 + ed z.natAbs) : Nat) : Int) := Int.natCast_dvd_natCast.2 (Nat.pow_dvd_pow 2 (by omega))
    generalize 2 ^ (52 + ed z.natAbs) = g at *
    by_cases hz : z < 0
    · have := near_mult z (-(g : Int)) (Int.dvd_neg.2 hg)
      omega
    · have := near_mult z (g : Int) hg
      omega

theorem rnd_le {z f : Int} (hf : Rep f) (h : z ≤ f) : rnd z ≤ f := by
  have := rnd_near z hf
  omega
theorem le_rnd {z f : Int} (hf : Rep f) (h : f ≤ z) : f ≤ rnd z := by
  have := rnd_near z hf
  omega
theorem rnd_mono {y z : Int} (h : y ≤ z) : rnd y ≤ rnd z := by
  by_cases h0 : y = z
  · rw [h0]; exact Int.le_refl _
  by_cases h1 : y ≤ rnd z
  · exact rnd_le (rep_rnd z) h1
  · have h2 := rnd_near y (rep_rnd z)
    have h3 := rnd_near z (rep_rnd y)
    omega

/-- The error of a sum is held. -/
theorem rep_err {a b : Int} (ha : Rep a) (hb : Rep b) : Rep (a + b - rnd (a + b)) := by
  have key : ∀ a b : Int, Rep a → Rep b → ed b.natAbs ≤ ed a.natAbs → Rep (a + b - rnd (a + b)) := by
    intro a b ha hb hle
    have d1 : ((2 ^ ed b.natAbs : Nat) : Int) ∣ a := Int.dvd_trans (Int.natCast_dvd_natCast.2 (Nat.pow_dvd_pow 2 hle)) (rep_dvd ha)
    have d2 : ((2 ^ ed b.natAbs : Nat) : Int) ∣ a + b := Int.dvd_add d1 (rep_dvd hb)
    refine rep_of_ndvd (Int.dvd_sub d2 (rnd_dvd d2)) ?_
    have := rnd_near (a + b) ha
    have := ed_lt b.natAbs
    omega
  rcases Nat.le_total (ed b.natAbs) (ed a.natAbs) with h | h
  · exact key a b ha hb h
  · rw [Int.add_comm a b]
    exact key b a hb ha h

/-- The greater operand leaves a number that is held. -/
theorem rep_fast {a b : Int} (ha : Rep a) (hb : Rep b) (h : b.natAbs ≤ a.natAbs) : Rep (rnd (a + b) - a) := by
  have hda := rep_dvd ha
  have hdb := rep_dvd hb
  unfold ulp at hda hdb
  have hle : ed b.natAbs ≤ ed a.natAbs := ed_le (Nat.lt_of_le_of_lt h (ed_lt _))
  have d1 : ((2 ^ ed b.natAbs : Nat) : Int) ∣ a + b := Int.dvd_add (Int.dvd_trans (Int.natCast_dvd_natCast.2 (Nat.pow_dvd_pow 2 hle)) hda) hdb
  by_cases hx : ed (a + b).natAbs ≤ ed b.natAbs
  · rw [rnd_of_dvd (Int.dvd_trans (Int.natCast_dvd_natCast.2 (Nat.pow_dvd_pow 2 hx)) d1), show a + b - a = b by omega]
    exact hb
  · have herr := rnd_err (a + b)
    have hdu := rnd_dvd_ulp (a + b)
    unfold ulp at herr hdu
    have hla := ed_lt a.natAbs
    have hlb := ed_lt b.natAbs
    by_cases hy : ed (a + b).natAbs ≤ ed a.natAbs
    · refine rep_of_ndvd (k := ed (a + b).natAbs) (Int.dvd_sub hdu (Int.dvd_trans (Int.natCast_dvd_natCast.2 (Nat.pow_dvd_pow 2 hy)) hda)) ?_
      have hp1 : 2 ^ (53 + ed b.natAbs) ≤ 2 ^ (52 + ed (a + b).natAbs) := Nat.pow_le_pow_right (by decide) (by omega)
      generalize ed (a + b).natAbs = D at *
      rw [Nat.pow_add] at hp1
      rw [show 53 + D = (52 + D) + 1 by omega, Nat.pow_succ, Nat.pow_add]
      have : (2 : Nat) ^ (52 + D) = 2 ^ 52 * 2 ^ D := Nat.pow_add _ _ _
      rw [Nat.pow_add] at hlb
      generalize 2 ^ D = u at *
      omega
    · have hD : ed (a + b).natAbs = ed a.natAbs + 1 := by
        have : ed (a + b).natAbs ≤ ed a.natAbs + 1 := by
          refine ed_le ?_
          rw [show 53 + (ed a.natAbs + 1) = (53 + ed a.natAbs) + 1 by omega, Nat.pow_succ]
          omega
        omega
      rw [hD, Nat.pow_succ] at herr hdu
      refine rep_of_ndvd (k := ed a.natAbs) (Int.dvd_sub (Int.dvd_trans (Int.natCast_dvd_natCast.2 (Nat.dvd_mul_right _ _)) hdu) hda) ?_
      obtain ⟨q, hq⟩ := hda
      have hna : a.natAbs + 2 ^ ed a.natAbs ≤ 2 ^ (53 + ed a.natAbs) := by
        have e1 : a.natAbs = 2 ^ ed a.natAbs * q.natAbs := by
          have := congrArg Int.natAbs hq
          rw [Int.natAbs_mul] at this
          simpa using this
        have e2 : q.natAbs < 2 ^ 53 := by
          refine Nat.lt_of_mul_lt_mul_left (a := 2 ^ ed a.natAbs) ?_
          rw [← e1, ← Nat.pow_add, Nat.add_comm]
          exact hla
        have e3 : 2 ^ ed a.natAbs * (q.natAbs + 1) ≤ 2 ^ ed a.natAbs * 2 ^ 53 := Nat.mul_le_mul_left _ e2
        rw [Nat.mul_add, Nat.mul_one, ← e1, ← Nat.pow_add, Nat.add_comm (ed a.natAbs) 53] at e3
        exact e3
      omega

/-- The steps of TwoSum on whole numbers. -/
def tsErr (a b : Int) : Int :=
  let s := rnd (a + b)
  let bb := rnd (s - a)
  let aa := rnd (s - bb)
  rnd (rnd (a - aa) + rnd (b - bb))

/-- Knuth: the steps give the sum's error, exactly; and no step leaves the room. -/
theorem twoSum_exact {a b : Int} (ha : Rep a) (hb : Rep b) : tsErr a b = a + b - rnd (a + b) := by
  have hE := rep_err ha hb
  unfold tsErr
  simp only
  by_cases hab : b.natAbs ≤ a.natAbs
  · have h1 := rnd_exact (rep_fast ha hb hab)
    rw [h1, show rnd (a + b) - (rnd (a + b) - a) = a by omega, rnd_exact ha, show a - a = 0 by omega, show b - (rnd (a + b) - a) = a + b - rnd (a + b) by omega, rnd_exact hE, rnd_exact (z := 0) ⟨0, 0, by decide, by decide, by decide⟩, Int.zero_add, rnd_exact hE]
  · by_cases hex : rnd (a + b) = a + b
    · rw [hex, show a + b - a = b by omega, rnd_exact hb, show a + b - b = a by omega, rnd_exact ha, show a - a = 0 by omega, show b - b = 0 by omega, show a + b - (a + b) = 0 by omega]
      decide
    · have hda := rep_dvd ha
      have hdb := rep_dvd hb
      unfold ulp at hda hdb
      have hle : ed a.natAbs ≤ ed b.natAbs := ed_le (Nat.lt_of_le_of_lt (by omega) (ed_lt _))
      have d1 : ((2 ^ ed a.natAbs : Nat) : Int) ∣ a + b := Int.dvd_add hda (Int.dvd_trans (Int.natCast_dvd_natCast.2 (Nat.pow_dvd_pow 2 hle)) hdb)
      have hD : ed a.natAbs < ed (a + b).natAbs := by
        refine Nat.lt_of_not_le fun hx => hex ?_
        exact rnd_of_dvd (Int.dvd_trans (Int.natCast_dvd_natCast.2 (Nat.pow_dvd_pow 2 hx)) d1)
      have hDb : ed (a + b).natAbs ≤ ed b.natAbs + 1 := by
        have := ed_lt b.natAbs
        refine ed_le ?_
        rw [show 53 + (ed b.natAbs + 1) = (53 + ed b.natAbs) + 1 by omega, Nat.pow_succ]
        omega
      have hs : a.natAbs ≤ (rnd (a + b)).natAbs := by
        have h1 := ed_lt a.natAbs
        have h2 : 2 ^ (53 + ed a.natAbs) ≤ 2 ^ (52 + ed (a + b).natAbs) := Nat.pow_le_pow_right (by decide) (by omega)
        have h3 : 2 ^ (52 + ed (a + b).natAbs) ≤ (a + b).natAbs := ed_ge (by omega)
        have h4 := rne_ge (n := (a + b).natAbs) (d := ed (a + b).natAbs) (c := 2 ^ 52) (by rw [← Nat.pow_add]; exact h3)
        have h5 : 2 ^ 52 * 2 ^ ed (a + b).natAbs ≤ rndN (a + b).natAbs := Nat.mul_le_mul_right _ h4
        rw [← Nat.pow_add] at h5
        rw [rnd_abs]
        omega
      have hRs := rep_rnd (a + b)
      have herr := rnd_err (a + b)
      unfold ulp at herr
      generalize rnd (a + b) = s at *
      have hF := rep_fast hRs (rep_neg ha) (by omega)
      have hG := rep_err hRs (rep_neg ha)
      rw [← Int.sub_eq_add_neg] at hF hG
      have e1 : rnd (s - rnd (s - a)) = s - rnd (s - a) := by
        refine rnd_exact ?_
        rw [show s - rnd (s - a) = -(rnd (s - a) - s) by omega]
        exact rep_neg hF
      rw [e1]
      have e2 : rnd (a - (s - rnd (s - a))) = a - (s - rnd (s - a)) := by
        refine rnd_exact ?_
        rw [show a - (s - rnd (s - a)) = -(s - a - rnd (s - a)) by omega]
        exact rep_neg hG
      rw [e2]
      have e3 : rnd (b - rnd (s - a)) = b - rnd (s - a) := by
        refine rnd_exact ?_
        have hU : 2 ^ ed (a + b).natAbs ≤ 2 * 2 ^ ed b.natAbs := by
          rw [Nat.mul_comm, ← Nat.pow_succ]
          exact Nat.pow_le_pow_right (by decide) hDb
        have hn := rnd_near (s - a) hb
        have hdz := rnd_dvd_ulp (s - a)
        unfold ulp at hdz
        have hdk : ((2 ^ (ed b.natAbs - 1) : Nat) : Int) ∣ b := Int.dvd_trans (Int.natCast_dvd_natCast.2 (Nat.pow_dvd_pow 2 (Nat.sub_le _ _))) hdb
        have hzk : ((2 ^ (ed b.natAbs - 1) : Nat) : Int) ∣ rnd (s - a) := by
          by_cases hB : ed b.natAbs = 0
          · rw [hB]; exact Int.one_dvd _
          · have hg := ed_ge hB
            refine Int.dvd_trans (Int.natCast_dvd_natCast.2 (Nat.pow_dvd_pow 2 ?_)) hdz
            refine le_ed ?_
            have e4 : 2 ^ (52 + ed b.natAbs) = 2 ^ 52 * 2 ^ ed b.natAbs := Nat.pow_add _ _ _
            have e5 : 2 * 2 ^ (52 + (ed b.natAbs - 1)) = 2 ^ (52 + ed b.natAbs) := by
              rw [Nat.mul_comm, ← Nat.pow_succ]
              congr 1
              omega
            generalize 2 ^ ed (a + b).natAbs = u at *
            generalize 2 ^ ed b.natAbs = v at *
            omega
        refine rep_of_ndvd (k := ed b.natAbs - 1) (Int.dvd_sub hdk hzk) ?_
        have e6 : 4 * 2 ^ ed b.natAbs ≤ 2 ^ (53 + (ed b.natAbs - 1)) := by
          rw [show (4 : Nat) = 2 ^ 2 by decide, ← Nat.pow_add]
          exact Nat.pow_le_pow_right (by decide) (by omega)
        generalize 2 ^ ed (a + b).natAbs = u at *
        generalize 2 ^ ed b.natAbs = v at *
        omega
      rw [e3, show a - (s - rnd (s - a)) + (b - rnd (s - a)) = a + b - s by omega]
      exact rnd_exact hE
end Go.Proofs.Ygctab
