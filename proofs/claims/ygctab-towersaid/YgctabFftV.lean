/-
  What Raw computes, counted: every entry lies within a quarter of the convolution's.
-/
import Derived.Test.YgctabFftU
import Derived.Test.YgctabFltG
namespace Go.Proofs.Ygctab
open Go.RowKit
set_option linter.unusedVariables false
set_option linter.unusedSimpArgs false
set_option exponentiation.threshold 5000

def digB (d : Nat) : Bool := decide (floatOfInt .f64 ((d : Nat) : Int) < 18446744073709551616) && decide (fcls (floatOfInt .f64 ((d : Nat) : Int)) ≤ 1) && decide (fval (floatOfInt .f64 ((d : Nat) : Int)) = (d : Int) * ((2 ^ 1074 : Nat) : Int))
theorem digs_val : (List.range 256).all digB = true := by decide +kernel
theorem dig_fv {d : Nat} (h : d < 256) : FV (cls (floatOfInt .f64 ((d : Nat) : Int))) ((d : Int) * (SU : Int)) := by
  have := List.all_eq_true.1 digs_val d (List.mem_range.2 h)
  unfold digB at this
  simp only [Bool.and_eq_true, decide_eq_true_eq] at this
  obtain ⟨⟨h1, h2⟩, h3⟩ := this
  exact ⟨_, cls_fin ⟨h1, h2⟩, ⟨h1, h2⟩, h3⟩
theorem zero_fv : FV (cls 0) 0 := ⟨0, by decide, ⟨by decide, by decide⟩, by decide⟩

def negOk (m : Nat × Nat) : Bool := decide (negF m.2 < 18446744073709551616) && decide (fcls (negF m.2) ≤ 1) && decide (fval (negF m.2) = - fval m.2)
theorem tw_neg : twM.all negOk = true := by decide +kernel

theorem cls_inj {a p : Nat} (h : cls a = some p) : a = p := by
  unfold cls at h
  split at h
  · cases h
  · exact Option.some.inj h
/-- A table of these classes has these bits. -/
theorem tab_bits {k : Nat} (hk' : k ≤ 10) {tab : List (Nat × Nat)} (h : ∀ j, j < 2 ^ (k - 1) → clsC (zat tab j) = clsC (zat twM (j * 2 ^ (10 - k)))) (hk : 1 ≤ k) {j : Nat} (hj : j < 2 ^ (k - 1)) :
    CV (clsC (zat tab j)) (wK k j) ∧ CV (clsC ((zat tab j).1, negF (zat tab j).2)) (wK k j).conj := by
  have hjs : j * 2 ^ (10 - k) < 512 := by
    have : 2 ^ (k - 1) * 2 ^ (10 - k) = 512 := by rw [← Nat.pow_add, show k - 1 + (10 - k) = 9 by omega]
    rw [← this]
    exact Nat.mul_lt_mul_of_pos_right hj (Nat.pow_pos (by decide))
  have hc := tw_cv hjs
  have he := h j hj
  have e : zat tab j = zat twM (j * 2 ^ (10 - k)) := by
    obtain ⟨⟨p, hp, fp, _⟩, ⟨q, hq, fq, _⟩⟩ := hc
    have e1 : cls (zat tab j).1 = some p := by rw [← hp, ← he]; rfl
    have e2 : cls (zat tab j).2 = some q := by rw [← hq, ← he]; rfl
    have e3 := cls_inj hp
    have e4 := cls_inj hq
    exact Prod.ext (by rw [cls_inj e1, ← e3]) (by rw [cls_inj e2, ← e4])
  rw [e]
  have hl := tw_len.1
  have hm : zat twM (j * 2 ^ (10 - k)) ∈ twM := by
    unfold zat
    rw [List.getElem?_eq_getElem (by omega)]
    exact List.getElem_mem _
  have hn := List.all_eq_true.1 tw_neg _ hm
  unfold negOk at hn
  simp only [Bool.and_eq_true, decide_eq_true_eq] at hn
  obtain ⟨⟨n1, n2⟩, n3⟩ := hn
  refine ⟨hc, hc.1, ⟨_, cls_fin ⟨n1, n2⟩, ⟨n1, n2⟩, ?_⟩⟩
  obtain ⟨p, hp, _, hv⟩ := hc.2
  have e4 := cls_inj hp
  rw [n3]
  show - fval (zat twM (j * 2 ^ (10 - k))).2 = - (w10 (j * 2 ^ (10 - k))).im
  rw [e4, hv]

/-- Digits as points. -/
def ptL (n : Nat) (ds : List Nat) : List (Nat × Nat) := ds.map (fun d => (floatOfInt .f64 ((d : Nat) : Int), 0)) ++ List.replicate (n - ds.length) (0, 0)
theorem ptL_length {n : Nat} {ds : List Nat} (h : ds.length ≤ n) : (ptL n ds).length = n := by simp [ptL]; omega
theorem ptL_at {n : Nat} {ds : List Nat} {i : Nat} (h : i < ds.length) : (ptL n ds)[i]? = some (floatOfInt .f64 ((ds[i]?.getD 0 : Nat) : Int), 0) := by
  unfold ptL
  rw [List.getElem?_append_left (by simpa using h)]
  simp [List.getElem?_eq_getElem h]
theorem ptL_cv {n : Nat} {ds : List Nat} (hd : Digs ds) {i : Nat} (hi : i < n) (hl : ds.length ≤ n) : CV (clsC (zat (ptL n ds) i)) ⟨atn ds i * (SU : Int), 0⟩ := by
  rcases Nat.lt_or_ge i ds.length with h | h
  · have e : zat (ptL n ds) i = (floatOfInt .f64 ((ds[i]?.getD 0 : Nat) : Int), 0) := by unfold zat; rw [ptL_at h]; rfl
    rw [e]
    exact ⟨dig_fv (hd.at i), zero_fv⟩
  · have e : zat (ptL n ds) i = (0, 0) := by
      unfold zat ptL
      rw [List.getElem?_append_right (by simpa using h), List.getElem?_replicate, if_pos (by simp; omega)]
      rfl
    rw [e, atn_zero h]
    refine ⟨?_, zero_fv⟩
    show FV (cls 0) (0 * (SU : Int))
    rw [Int.zero_mul]
    exact zero_fv
theorem zat_rev {k : Nat} (hk : k ≤ 64) {xs : List (Nat × Nat)} (h : xs.length = 2 ^ k) {p : Nat} (hp : p < 2 ^ k) : zat (revL (0, 0) xs) p = zat xs (rv k p) := by
  unfold zat
  rw [revL_at (0, 0) xs k hk h p hp]

theorem atn_abs {ds : List Nat} (h : Digs ds) (i : Nat) : (atn ds i).natAbs ≤ 255 := by
  have := h.at i
  unfold atn
  omega

/-- Forward, counted. -/
theorem forward_near {k : Nat} (hk : 1 ≤ k) (hk' : k ≤ 10) {T : Nat → Cx} (hT : ∀ j, j < 2 ^ (k - 1) → CV (T j) (wK k j)) {ds : List Nat} (hd : Digs ds) (hl : ds.length ≤ 2 ^ k) {p : Nat} (hp : p < 2 ^ k) :
    ∃ z, CV (stX k T (fun i => clsC (zat (revL (0, 0) (ptL (2 ^ k) ds)) i)) k p) z ∧ Bd ((z.sub (FT k (atn ds) p)).sc (KU : Int)) (2621440 * SU) := by
  have hSp := SU_pos
  obtain ⟨z, h1, h2⟩ := fft_near (X := fun i => clsC (zat (revL (0, 0) (ptL (2 ^ k) ds)) i)) (wK_ok k hk hk') hk hk' (a := fun i => ⟨atn ds i * (SU : Int), 0⟩) (A' := 128 * SU) (fun i => by
      have := (Bd.comps (z := ⟨atn ds i * (SU : Int), 0⟩) (r := 255 * SU) (s := 0) (by
        show (atn ds i * (SU : Int)).natAbs ≤ 255 * SU
        rw [Int.natAbs_mul, Int.natAbs_natCast]
        exact Nat.mul_le_mul_right _ (atn_abs hd i)) (by show (0 : Int).natAbs ≤ 0; decide))
      exact this.mono (by omega)) (by omega) (by unfold SU; decide +kernel) hT (fun q hq => by
      show CV (clsC (zat (revL (0, 0) (ptL (2 ^ k) ds)) q)) _
      rw [zat_rev (by omega) (ptL_length hl) hq]
      exact ptL_cv hd (rv_lt k q) hl) p hp
  refine ⟨z, h1, Bd.unsc hSp ?_⟩
  have e : (gsm (2 ^ k) fun i => (GI.mk (atn ds i * (SU : Int)) 0).mul (wK k (i * p))) = (FT k (atn ds) p).sc (SU : Int) := by
    unfold FT
    rw [← gsm_sc]
    exact gsm_congr fun i _ => GI.ext' (by simp only [GI.mul, GI.sc]; grind) (by simp only [GI.mul, GI.sc]; grind)
  rw [e] at h2
  rw [show ((z.sub (FT k (atn ds) p)).sc (KU : Int)).sc (SU : Int) = ((z.sc (SU : Int)).sub ((FT k (atn ds) p).sc (SU : Int))).sc (KU : Int) from GI.ext' (by simp only [GI.sub, GI.sc]; grind) (by simp only [GI.sub, GI.sc]; grind)]
  refine h2.mono ?_
  have a1 : k * (2 ^ k * (2 * (128 * SU) * SU)) ≤ 10 * (1024 * (2 * (128 * SU) * SU)) := Nat.mul_le_mul hk' (Nat.mul_le_mul_right _ (pow_le k hk'))
  refine Nat.le_trans a1 (Nat.le_of_eq ?_)
  grind

/-- c lies within a quarter of the whole number v, on the real line. -/
def NearC (c : Cx) (v : Int) : Prop := ∃ z, CV c z ∧ 4 * (z.re - v * (SU : Int)).natAbs ≤ SU ∧ 4 * z.im.natAbs ≤ SU

theorem div_near {k : Nat} (hk : k ≤ 10) {c : Cx} {R : GI} {v : Int} (hv : v.natAbs ≤ 33292800) (hc : CV c R) (hR : Bd ((R.sub ⟨((2 ^ k : Nat) : Int) * (SU : Int) * v, 0⟩).sc ((5 : Nat) : Int)) (2 ^ k * SU)) : NearC (divX (floatOfInt .f64 ((2 ^ k : Nat) : Int)) c) v := by
  have b1 := hR.re
  have b2 := hR.im
  rw [show ((R.sub ⟨((2 ^ k : Nat) : Int) * (SU : Int) * v, 0⟩).sc ((5 : Nat) : Int)).re = ((5 : Nat) : Int) * (R.re - ((2 ^ k : Nat) : Int) * (SU : Int) * v) from rfl, natAbs_sc] at b1
  rw [show ((R.sub ⟨((2 ^ k : Nat) : Int) * (SU : Int) * v, 0⟩).sc ((5 : Nat) : Int)).im = ((5 : Nat) : Int) * (R.im - 0) from rfl, natAbs_sc] at b2
  have hbig : (2 ^ 60 : Nat) ≤ SU := Nat.pow_le_pow_right (by decide) (by decide)
  have hn := pow_le k hk
  have hn1 : 1 ≤ 2 ^ k := two_pos k
  have hlim : 2 ^ k * SU * 40000000 < 2 ^ 2097 := by
    have h1 : 2 ^ k * SU * 40000000 ≤ 1024 * SU * 40000000 := Nat.mul_le_mul_right _ (Nat.mul_le_mul_right _ hn)
    have h2 : 1024 * SU * 40000000 < 2 ^ 2097 := by unfold SU; decide +kernel
    exact Nat.lt_of_le_of_lt h1 h2
  have hvn : (((2 ^ k : Nat) : Int) * (SU : Int) * v).natAbs ≤ 2 ^ k * SU * 33292800 := by
    rw [Int.natAbs_mul, ← Int.natCast_mul, Int.natAbs_natCast]
    exact Nat.mul_le_mul_left _ hv
  have e3 : ((2 ^ k : Nat) : Int) * (SU : Int) * v = v * (SU : Int) * ((2 ^ k : Nat) : Int) := by grind
  obtain ⟨q1, f1, g1⟩ := hc.1.quo k (by omega) (by
    have : R.re.natAbs ≤ 2 ^ k * SU * 40000000 := by
      generalize ((2 ^ k : Nat) : Int) * (SU : Int) * v = y at *
      generalize 2 ^ k * SU = u at *
      clear hlim hbig
      omega
    exact Nat.lt_of_le_of_lt this hlim)
  obtain ⟨q2, f2, g2⟩ := hc.2.quo k (by omega) (by
    have : R.im.natAbs ≤ 2 ^ k * SU * 40000000 := by
      generalize 2 ^ k * SU = u at *
      clear hlim hbig
      omega
    exact Nat.lt_of_le_of_lt this hlim)
  refine ⟨⟨q1, q2⟩, ⟨f1, f2⟩, ?_, ?_⟩
  · show 4 * (q1 - v * (SU : Int)).natAbs ≤ SU
    have h5 : (q1 * ((2 ^ k : Nat) : Int) - v * (SU : Int) * ((2 ^ k : Nat) : Int)).natAbs = (q1 - v * (SU : Int)).natAbs * 2 ^ k := by
      rw [← Int.sub_mul, Int.natAbs_mul, Int.natAbs_natCast]
    rw [e3] at b1 hvn
    have hs : 2 ^ k * 2 ^ 60 ≤ 2 ^ k * SU := Nat.mul_le_mul_left _ hbig
    have key : 4 * ((q1 - v * (SU : Int)).natAbs * 2 ^ k) ≤ SU * 2 ^ k := by
      rw [← h5, Nat.mul_comm SU]
      generalize q1 * ((2 ^ k : Nat) : Int) = A at *
      generalize v * (SU : Int) * ((2 ^ k : Nat) : Int) = B at *
      generalize hu : 2 ^ k * SU = u at *
      generalize 2 ^ k = n at *
      clear f1 f2 g2 b2 hc hR h5 e3 hlim
      omega
    rw [← Nat.mul_assoc] at key
    exact Nat.le_of_mul_le_mul_right key hn1
  · show 4 * q2.natAbs ≤ SU
    have h5 : (q2 * ((2 ^ k : Nat) : Int)).natAbs = q2.natAbs * 2 ^ k := by rw [Int.natAbs_mul, Int.natAbs_natCast]
    have hs : 2 ^ k * 2 ^ 60 ≤ 2 ^ k * SU := Nat.mul_le_mul_left _ hbig
    have key : 4 * (q2.natAbs * 2 ^ k) ≤ SU * 2 ^ k := by
      rw [← h5, Nat.mul_comm SU]
      generalize q2 * ((2 ^ k : Nat) : Int) = A at *
      generalize hu : 2 ^ k * SU = u at *
      generalize 2 ^ k = n at *
      clear f1 f2 g1 b1 hc hR h5 e3 hlim hvn
      omega
    rw [← Nat.mul_assoc] at key
    exact Nat.le_of_mul_le_mul_right key hn1
end Go.Proofs.Ygctab
