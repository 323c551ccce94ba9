import Derived.Test.YgctabDoorFlt
namespace Go.Proofs.YgctabDoor
set_option exponentiation.threshold 6000

/-- Whole numbers, none zero, each one's highest digit below the next one's lowest. -/
def Ap : Nat → List Int → Prop
  | _, [] => True
  | K, z :: zs => z ≠ 0 ∧ ((2 ^ K : Nat) : Int) ∣ z ∧ Ap (z.natAbs.log2 + 1) zs

/-- Grow over whole numbers. -/
def growI : List Int → Int → List Int × Int
  | [], x => ([], x)
  | z :: zs, x => if x + z - rnd (x + z) = 0 then growI zs (rnd (x + z)) else ((x + z - rnd (x + z)) :: (growI zs (rnd (x + z))).1, (growI zs (rnd (x + z))).2)
def growRI (zs : List Int) (x : Int) : List Int := (growI zs x).1 ++ (if (growI zs x).2 = 0 then [] else [(growI zs x).2])
def sumI : List Int → Int
  | [] => 0
  | z :: zs => z + sumI zs
def magsI : List Int → Nat
  | [] => 0
  | z :: zs => z.natAbs + magsI zs

theorem sumI_append : ∀ xs ys : List Int, sumI (xs ++ ys) = sumI xs + sumI ys
  | [], ys => by simp [sumI]
  | x :: xs, ys => by simp [sumI, sumI_append xs ys]; omega
theorem magsI_append : ∀ xs ys : List Int, magsI (xs ++ ys) = magsI xs + magsI ys
  | [], ys => by simp [magsI]
  | x :: xs, ys => by simp [magsI, magsI_append xs ys]; omega
theorem sumI_le : ∀ xs : List Int, (sumI xs).natAbs ≤ magsI xs
  | [] => by simp [sumI]
  | x :: xs => by have := sumI_le xs; simp only [sumI, magsI]; omega

theorem growI_sum : ∀ (zs : List Int) (x : Int), sumI (growI zs x).1 + (growI zs x).2 = x + sumI zs
  | [], x => by simp [growI, sumI]
  | z :: zs, x => by
    have ih := growI_sum zs (rnd (x + z))
    unfold growI
    split
    · rename_i h; simp only [sumI]; omega
    · simp only [sumI]; omega
theorem growRI_sum (zs : List Int) (x : Int) : sumI (growRI zs x) = x + sumI zs := by
  have := growI_sum zs x
  unfold growRI
  rw [sumI_append]
  split
  · rename_i h; simp only [sumI]; omega
  · simp only [sumI]; omega

theorem dvd_le {z : Int} {K : Nat} (h0 : z ≠ 0) (h : ((2 ^ K : Nat) : Int) ∣ z) : K ≤ z.natAbs.log2 := by
  have h1 : 2 ^ K ∣ z.natAbs := by simpa using Int.natAbs_dvd_natAbs.2 h
  have h2 : z.natAbs ≠ 0 := by omega
  exact (Nat.le_log2 h2).2 (Nat.le_of_dvd (by omega) h1)
theorem pow_dvd_trans {a b : Nat} (h : a ≤ b) {z : Int} (hz : ((2 ^ b : Nat) : Int) ∣ z) : ((2 ^ a : Nat) : Int) ∣ z :=
  Int.dvd_trans (Int.natCast_dvd_natCast.2 (Nat.pow_dvd_pow 2 h)) hz

theorem Ap_dvd : ∀ (zs : List Int) (K : Nat), Ap K zs → ∀ z ∈ zs, ((2 ^ K : Nat) : Int) ∣ z
  | [], _, _, z, hz => by simp at hz
  | y :: zs, K, h, z, hz => by
    obtain ⟨h0, hd, hr⟩ := h
    rcases List.mem_cons.1 hz with rfl | hz
    · exact hd
    · exact pow_dvd_trans (by have := dvd_le h0 hd; omega) (Ap_dvd zs _ hr z hz)

theorem growRI_ap : ∀ (zs : List Int) (x : Int) (K0 K : Nat), ((2 ^ K0 : Nat) : Int) ∣ x → (∀ z ∈ zs, ((2 ^ K0 : Nat) : Int) ∣ z) → Ap K zs → Rep x → (∀ z ∈ zs, Rep z) → Ap K0 (growRI zs x)
  | [], x, K0, K, hx, _, _, _, _ => by
    unfold growRI growI
    simp only [List.nil_append]
    split
    · trivial
    · rename_i h; exact ⟨h, hx, trivial⟩
  | z :: zs, x, K0, K, hx, hz, hA, rx, rz => by
    have hs : ((2 ^ K0 : Nat) : Int) ∣ x + z := Int.dvd_add hx (hz z (List.mem_cons_self ..))
    have hr := rnd_dvd hs
    have hz' : ∀ y ∈ zs, ((2 ^ K0 : Nat) : Int) ∣ y := fun y hy => hz y (List.mem_cons_of_mem _ hy)
    have rz' : ∀ y ∈ zs, Rep y := fun y hy => rz y (List.mem_cons_of_mem _ hy)
    obtain ⟨h0, hd, hA'⟩ := hA
    unfold growRI growI
    by_cases he : x + z - rnd (x + z) = 0
    · rw [if_pos he]
      exact growRI_ap zs (rnd (x + z)) K0 _ hr hz' hA' (rep_rnd _) rz'
    · rw [if_neg he]
      simp only [List.cons_append]
      have herr := rnd_err (x + z)
      have hnear := rnd_near (x + z) rx
      refine ⟨he, Int.dvd_sub hs hr, ?_⟩
      have hd2 := rnd_dvd_ulp (x + z)
      have hu : ulp (x + z) = 2 ^ ed (x + z).natAbs := rfl
      rw [hu] at herr hd2
      generalize hE : x + z - rnd (x + z) = e at *
      have habs : (rnd (x + z) - (x + z)).natAbs = e.natAbs := by omega
      rw [habs] at herr hnear
      have hn0 : e.natAbs ≠ 0 := by omega
      have hlow : 2 ^ e.natAbs.log2 ≤ e.natAbs := Nat.log2_self_le hn0
      have hk : e.natAbs.log2 + 1 ≤ ed (x + z).natAbs := by
        refine (Nat.pow_le_pow_iff_right (a := 2) (by decide)).1 ?_
        rw [Nat.pow_succ]
        omega
      refine growRI_ap zs (rnd (x + z)) _ _ (pow_dvd_trans hk hd2) (fun y hy => ?_) hA' (rep_rnd _) rz'
      refine pow_dvd_trans ?_ (Ap_dvd zs _ hA' y hy)
      have hle : e.natAbs ≤ z.natAbs := by omega
      have : e.natAbs.log2 ≤ z.natAbs.log2 := by
        rw [Nat.le_log2 (by omega)]
        omega
      omega

theorem Ap_length : ∀ (zs : List Int) (K M : Nat), Ap K zs → (∀ z ∈ zs, z.natAbs < 2 ^ M) → zs = [] ∨ K + zs.length ≤ M
  | [], _, _, _, _ => .inl rfl
  | z :: zs, K, M, h, hM => by
    obtain ⟨h0, hd, hr⟩ := h
    have h1 := dvd_le h0 hd
    have h2 : z.natAbs.log2 < M := (Nat.log2_lt (by omega)).2 (hM z (List.mem_cons_self ..))
    right
    rcases Ap_length zs _ M hr (fun y hy => hM y (List.mem_cons_of_mem _ hy)) with rfl | h3
    · simp; omega
    · simp; omega

theorem growI_small : ∀ (zs : List Int) (x : Int), Rep x → (∀ z ∈ zs, Rep z) → x.natAbs + 2 * magsI zs ≤ 2 ^ 2090 → magsI (growI zs x).1 ≤ zs.length * 2 ^ 2037
  | [], x, _, _, _ => by simp [growI, magsI]
  | z :: zs, x, rx, rz, h => by
    have rz' : ∀ y ∈ zs, Rep y := fun y hy => rz y (List.mem_cons_of_mem _ hy)
    have herr := rnd_err (x + z)
    have hnear := rnd_near (x + z) rx
    unfold magsI at h
    have hed : ed (x + z).natAbs ≤ 2038 := by
      apply ed_le
      have e1 : (2 : Nat) ^ 2090 < 2 ^ (53 + 2038) := by decide
      generalize (2 : Nat) ^ 2090 = A at *
      omega
    have hul : ulp (x + z) ≤ 2 ^ 2038 := Nat.pow_le_pow_right (by decide) hed
    have ih := growI_small zs (rnd (x + z)) (rep_rnd _) rz' (by
      generalize (2 : Nat) ^ 2090 = A at *
      omega)
    have e2 : (2 : Nat) ^ 2038 = 2 * 2 ^ 2037 := by decide
    rw [e2] at hul
    clear e2 h
    generalize (2 : Nat) ^ 2037 = A at *
    unfold growI
    split
    · simp only [List.length_cons]
      rw [Nat.succ_mul]
      omega
    · simp only [List.length_cons, magsI]
      rw [Nat.succ_mul]
      omega
theorem growRI_mags (zs : List Int) (x : Int) (rx : Rep x) (rz : ∀ z ∈ zs, Rep z) (h : x.natAbs + 2 * magsI zs ≤ 2 ^ 2090) : magsI (growRI zs x) ≤ x.natAbs + magsI zs + 2 * (zs.length * 2 ^ 2037) := by
  have h1 := growI_small zs x rx rz h
  have h2 := growI_sum zs x
  have h3 := sumI_le (growI zs x).1
  have h4 := sumI_le zs
  unfold growRI
  rw [magsI_append]
  generalize zs.length * 2 ^ 2037 = B at *
  clear h
  split
  · simp only [magsI]; omega
  · simp only [magsI]; omega
end Go.Proofs.YgctabDoor
