import Derived.Test.YgctabFftP
namespace Go.Proofs.Ygctab
open Go.RowKit
set_option linter.unusedVariables false
set_option linter.unusedSimpArgs false
set_option exponentiation.threshold 5000

theorem Bd.cut {y : GI} {a c R g : Nat} (n : Nat) (hn : 0 < c) (ha : n = a * c) (h : Bd (y.sc (n : Int)) R) (hR : R ≤ c * g) : Bd (y.sc (a : Int)) g := by
  subst ha
  refine Bd.unsc hn ?_
  rw [sc_sc, ← Int.natCast_mul]
  exact h.mono hR

/-- One butterfly, counted. -/
theorem near_core (S P A' t s : Nat) (z1 z2 m x τ D1 D2 D' : GI) (hSp : 0 < S) (ht : t ≤ 10)
    (hm : Bd (((m.sc (S : Int)).sub (z2.mul τ)).sc ((562949953421312 : Nat) : Int)) (2 * (P * (2 * A')) * (2 * S)))
    (hx : Bd ((x.sub (z1.add m)).sc ((4503599627370496 : Nat) : Int)) (8 * (P * (2 * A'))))
    (E1 : Bd (((z1.sc (S : Int)).sub D1).sc (KU : Int)) (t * (P * (2 * A' * S)))) (E2 : Bd (((z2.sc (S : Int)).sub D2).sc (KU : Int)) (t * (P * (2 * A' * S))))
    (hN : Bd (((D2.mul τ).sub (D'.sc (S : Int))).sc ((281474976710656 : Nat) : Int)) (P * (2 * A' * (S * S))))
    (hτ : Bd τ s) (s1 : 1125899906842624 * s ≤ 1125899906842625 * S) (s0 : S ≤ s) :
    Bd (((x.sc (S : Int)).sub (D1.add D')).sc (KU : Int)) ((t + 1) * (2 * (P * (2 * A' * S)))) := by
  obtain ⟨g, hg⟩ : ∃ g, g = P * (A' * S) := ⟨_, rfl⟩
  have eG : P * (2 * A' * S) = 2 * g := by rw [hg]; ac_rfl
  have e1 : 2 * (P * (2 * A')) * (2 * S) = 8 * g := by rw [hg]; grind
  have e3 : P * (2 * A' * (S * S)) = 2 * (g * S) := by rw [hg]; ac_rfl
  have y1 : Bd (((m.sc (S : Int)).sub (z2.mul τ)).sc (KU : Int)) g := Bd.cut 562949953421312 (c := 32) (by decide) (by decide) hm (by omega)
  have y3 : Bd (((D2.mul τ).sub (D'.sc (S : Int))).sc (KU : Int)) (g * S) := Bd.cut 281474976710656 (c := 16) (by decide) (by decide) hN (by omega)
  have y4 : Bd ((x.sub (z1.add m)).sc (KU : Int)) (P * A') := Bd.cut 4503599627370496 (c := 256) (by decide) (by decide) hx (by
    rw [show P * (2 * A') = 2 * (P * A') by ac_rfl]
    generalize P * A' = u
    omega)
  rw [eG] at E1 E2 ⊢
  have b1 := y1.sc S
  have b2 := E2.mul hτ
  have b4 := y4.sc S
  have bb := (b1.add b2).add y3
  have hle : S * g + t * (2 * g) * s + g * S ≤ S * (3 * g + t * (2 * g)) := by
    have h1 : 1125899906842624 * (g * s) ≤ 1125899906842625 * (g * S) := by
      have := Nat.mul_le_mul_left g s1
      rw [show g * (1125899906842624 * s) = 1125899906842624 * (g * s) by ac_rfl, show g * (1125899906842625 * S) = 1125899906842625 * (g * S) by ac_rfl] at this
      exact this
    have h2 : g * S ≤ g * s := Nat.mul_le_mul_left g s0
    obtain ⟨d, hd⟩ : ∃ d, g * s = g * S + d := ⟨g * s - g * S, by omega⟩
    have h3 : t * d ≤ 10 * d := Nat.mul_le_mul_right d ht
    have h4 : t * (2 * g) * s = 2 * (t * (g * S)) + 2 * (t * d) := by
      rw [show t * (2 * g) * s = 2 * (t * (g * s)) by ac_rfl, hd, Nat.mul_add, Nat.mul_add]
    have h5 : S * (3 * g + t * (2 * g)) = 3 * (g * S) + 2 * (t * (g * S)) := by
      rw [Nat.mul_add, show S * (3 * g) = 3 * (g * S) by ac_rfl, show S * (t * (2 * g)) = 2 * (t * (g * S)) by ac_rfl]
    rw [h4, h5, show S * g = g * S from Nat.mul_comm _ _]
    rw [hd] at h1
    generalize g * S = u at *
    generalize t * u = v at *
    generalize t * d = q at *
    clear eG e1 e3 h4 h5 hg hd h2
    omega
  have yy : Bd (((m.sc (S : Int)).sub D').sc (KU : Int)) (3 * g + t * (2 * g)) := by
    refine Bd.unsc hSp ?_
    have e : (((m.sc (S : Int)).sub D').sc (KU : Int)).sc (S : Int) = (((((m.sc (S : Int)).sub (z2.mul τ)).sc (KU : Int)).sc (S : Int)).add ((((z2.sc (S : Int)).sub D2).sc (KU : Int)).mul τ)).add (((D2.mul τ).sub (D'.sc (S : Int))).sc (KU : Int)) := by
      generalize (KU : Int) = q
      generalize (S : Int) = r
      apply GI.ext' <;> simp only [GI.mul, GI.sub, GI.sc, GI.add] <;> grind
    rw [e]
    exact bb.mono hle
  have fin := (b4.add E1).add yy
  have e : ((x.sc (S : Int)).sub (D1.add D')).sc (KU : Int) = ((((x.sub (z1.add m)).sc (KU : Int)).sc (S : Int)).add (((z1.sc (S : Int)).sub D1).sc (KU : Int))).add (((m.sc (S : Int)).sub D').sc (KU : Int)) := by
    generalize (KU : Int) = q
    generalize (S : Int) = r
    apply GI.ext' <;> simp only [GI.mul, GI.sub, GI.sc, GI.add] <;> grind
  rw [e]
  refine fin.mono ?_
  have h6 : S * (P * A') = g := by rw [hg]; ac_rfl
  have h7 : (t + 1) * (2 * (2 * g)) = 2 * (t * (2 * g)) + 4 * g := by rw [Nat.add_mul]; grind
  rw [h6, h7]
  omega

/-- The value of a sum's float is no larger than twice what the sum can be. -/
theorem mag_core (S P A t s : Nat) (z D : GI) (hSp : 0 < S) (ht : t ≤ 10) (E : Bd (((z.sc (S : Int)).sub D).sc (KU : Int)) (t * (P * (A * S)))) (hD : Bd D (P * (A * s))) (s1 : 1125899906842624 * s ≤ 1125899906842625 * S) : Bd z (2 * (P * A)) := by
  have h1 := hD.sc KU
  have h2 := E.add h1
  rw [show (((z.sc (S : Int)).sub D).sc (KU : Int)).add (D.sc (KU : Int)) = z.sc ((KU * S : Nat) : Int) by
    rw [Int.natCast_mul]
    generalize (KU : Int) = q
    generalize (S : Int) = r
    apply GI.ext' <;> simp only [GI.mul, GI.sub, GI.sc, GI.add] <;> grind] at h2
  refine Bd.unsc (n := KU * S) (Nat.mul_pos (by decide) hSp) (h2.mono ?_)
  have a1 : t * (P * (A * S)) ≤ 10 * (P * (A * S)) := Nat.mul_le_mul_right _ ht
  have a2 : 1125899906842624 * (P * (A * s)) ≤ 1125899906842625 * (P * (A * S)) := by
    have := Nat.mul_le_mul_left (P * A) s1
    rwa [show P * A * (1125899906842624 * s) = 1125899906842624 * (P * (A * s)) by ac_rfl, show P * A * (1125899906842625 * S) = 1125899906842625 * (P * (A * S)) by ac_rfl] at this
  rw [show KU * S * (2 * (P * A)) = 2 * (KU * (P * (A * S))) by ac_rfl]
  generalize P * (A * S) = u at *
  generalize P * (A * s) = v at *
  unfold KU
  generalize t * u = q at *
  omega
end Go.Proofs.Ygctab
