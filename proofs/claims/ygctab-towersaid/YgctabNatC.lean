import Derived.Test.YgctabNatB
import Derived.Test.YgctabDig2
namespace Go.Proofs.Ygctab
open Go.RowKit
set_option linter.unusedVariables false
set_option linter.unusedSimpArgs false

/-- A number handed back in a slice of its own, in normal form. -/
def Res (w w' : World) (e : Ending) (v : Nat) : Prop :=
  ∃ B zs, e = .returned (.slice (nrmA (some ⟨B, 0, none⟩) v) (dig v).length (dig v).length) ∧ w.heap.size ≤ B ∧ Up w w' ∧ (v ≠ 0 → Own w' B 5 (u8s zs) ∧ Digs zs ∧ bv zs = v)
theorem NS.ofRes {w' : World} {B v : Nat} {zs : List Nat} (h : v ≠ 0 → Own w' B 5 (u8s zs) ∧ Digs zs ∧ bv zs = v) : NS w' (nrmA (some ⟨B, 0, none⟩) v) (dig v).length v := by
  by_cases hv : v = 0
  · subst hv
    rw [dig_zero]
    exact NS.zero w'
  · obtain ⟨h1, h2, h3⟩ := h hv
    have := NS.ofNrm (Own.rdB h1 h2)
    rwa [h3] at this

set_option maxRecDepth 100000 in
theorem cmp_any (a a' : Option Addr) (n n' c c' : Nat) (xs ys : List Nat) (w : World) (h : RdB w a n xs) (h' : RdB w a' n' ys) (hc : n ≤ c) (hc' : n' ≤ c') (hn : n ≤ 4611686018427387904) (hn' : n' ≤ 4611686018427387904) :
    Calls Tabg.prog 67 #[.slice a n c, .slice a' n' c'] w fun e w' => e = .returned (.int .i8 (cmpI (bv xs) (bv ys))) ∧ Up w w' := by
  have C1 : Hid (Calls Tabg.prog 122 #[.slice a n c] w fun e w' => e = .returned (.slice (nrmA a (bv xs)) (dig (bv xs)).length (dig (bv xs)).length) ∧ w = w') := trim_any a n c xs w h hc hn
  have C2 : Hid (Calls Tabg.prog 122 #[.slice a' n' c'] w fun e w' => e = .returned (.slice (nrmA a' (bv ys)) (dig (bv ys)).length (dig (bv ys)).length) ∧ w = w') := trim_any a' n' c' ys w h' hc' hn'
  have N1 := h.nrm
  have N2 := h'.nrm
  have b1 : (dig (bv xs)).length ≤ 4611686018427387904 := Nat.le_trans (dig_len h.2.1) (by rw [← h.1]; exact hn)
  have b2 : (dig (bv ys)).length ≤ 4611686018427387904 := Nat.le_trans (dig_len h'.2.1) (by rw [← h'.1]; exact hn')
  have hu := bv_dig (bv xs)
  have hv := bv_dig (bv ys)
  have hlt := @dig_lt_of_len (bv xs) (bv ys)
  have hgt := @dig_lt_of_len (bv ys) (bv xs)
  generalize nrmA a (bv xs) = A at *
  generalize nrmA a' (bv ys) = A' at *
  generalize dig (bv xs) = X at *
  generalize dig (bv ys) = Y at *
  generalize bv xs = u at *
  generalize bv ys = v at *
  have HX : Hid (RdB w A X.length X) := N1
  have HY : Hid (RdB w A' Y.length Y) := N2
  have HB : Hid (bv X = u ∧ bv Y = v) := ⟨hu, hv⟩
  generalize hL : X.length = L at *
  generalize hL' : Y.length = L' at *
  have HL : Hid (X.length = L ∧ Y.length = L') := ⟨hL, hL'⟩
  have bI : (L : Int) ≤ 4611686018427387904 := by omega
  have bI' : (L' : Int) ≤ 4611686018427387904 := by omega
  clear h h' hc hc' hn hn' N1 N2 hu hv hL hL'
  by_cases hll : L = L'
  · subst hll
    clear hlt hgt
    go_enter Tabg.func67, Tabg.ntmps67
    go_wp2_with (fail)
    refine (C1.out).mono ?_
    rintro e w' ⟨rfl, rfl⟩
    go_wp2_with (fail)
    refine (C2.out).mono ?_
    rintro e w' ⟨rfl, rfl⟩
    clear C1 C2
    go_wp2_with (fail)
    go_loopw [5] (fun t wr => ∃ i : Nat, t = .int .i64 ((i : Int) - 1) ∧ i ≤ L ∧ Hid (Up w wr) ∧ Hid (X.drop i = Y.drop i)) (fun t _ => ((intOf t) + 1).toNat)
    case atStart => exact ⟨L, rfl, Nat.le_refl _, Up.refl _, by show _ = _; rw [List.drop_of_length_le (by rw [HL.out.1]; exact Nat.le_refl _), List.drop_of_length_le (by rw [HL.out.2]; exact Nat.le_refl _)]⟩
    case round =>
      obtain ⟨i, rfl, hi, HU, HD⟩ := hrel
      by_cases h0 : i = 0
      · subst h0
        have HR : Hid (cmpI u v = 0) := by
          have := HD.out
          rw [List.drop_zero, List.drop_zero] at this
          show _ = _
          rw [← HB.out.1, ← HB.out.2, this]
          simp [cmpI]
        clear HX HY HD
        go_wp2
        go_ret
        exact ⟨by rw [HR.out]; rfl, HU.out⟩
      · obtain ⟨j, rfl⟩ : ∃ j, i = j + 1 := ⟨i - 1, by omega⟩
        have e1 : ((j + 1 : Nat) : Int) - 1 = (j : Int) := by omega
        rw [e1]
        obtain ⟨b, off, rfl, k1⟩ := (HX.out).2.2 j (by rw [HL.out.1]; omega)
        obtain ⟨b', off', rfl, k2⟩ := (HY.out).2.2 j (by rw [HL.out.2]; omega)
        replace k1 := (HU.out).cell k1
        replace k2 := (HU.out).cell k2
        have HLT : Hid (X[j]?.getD 0 < Y[j]?.getD 0 → cmpI u v = -1) := fun hd => by
          have := bv_lt_at (HX.out).2.1 (by rw [HL.out.1, HL.out.2]) (i := j) (by rw [HL.out.1]; omega) HD.out hd
          rw [HB.out.1, HB.out.2] at this
          simp [cmpI, this]
        have HGT : Hid (Y[j]?.getD 0 < X[j]?.getD 0 → cmpI u v = 1) := fun hd => by
          have := bv_lt_at (HY.out).2.1 (by rw [HL.out.1, HL.out.2]) (i := j) (by rw [HL.out.2]; omega) (HD.out).symm hd
          rw [HB.out.1, HB.out.2] at this
          have h2 : ¬ u < v := by omega
          simp [cmpI, this, h2]
        have HEQ : Hid (X[j]?.getD 0 = Y[j]?.getD 0 → X.drop j = Y.drop j) := fun hd => drop_eq_at2 (by rw [HL.out.1]; omega) (by rw [HL.out.2]; omega) HD.out hd
        generalize X[j]?.getD 0 = p at *
        generalize Y[j]?.getD 0 = q at *
        have i0 : (0 : Int) ≤ (j : Int) := by omega
        have im : (j : Int) < (L : Int) := by omega
        clear HX HY HD h0 e1
        rcases Nat.lt_trichotomy p q with hpq | hpq | hpq
        · have HR : Hid (cmpI u v = -1) := HLT.out hpq
          have g1 : (p : Int) < (q : Int) := by omega
          clear HLT HGT HEQ
          go_wp2
          go_quiet (fail)
          go_wp2
          go_ret
          exact ⟨by rw [HR.out]; rfl, (HU.out).drewN _⟩
        · subst hpq
          have HQ : Hid (X.drop j = Y.drop j) := HEQ.out rfl
          clear HLT HGT HEQ
          go_wp2
          go_quiet (fail)
          go_wp2
          go_quiet (fail)
          go_wp2
          go_roundw
          case rel => exact ⟨j, by go_num, by omega, (HU.out).drewN _, HQ.out⟩
          case measure => simp [intOf]
        · have HR : Hid (cmpI u v = 1) := HGT.out hpq
          have g1 : (q : Int) < (p : Int) := by omega
          have g2 : decide ((p : Int) < (q : Int)) = false := decide_eq_false (by omega)
          clear HLT HGT HEQ
          go_wp2
          go_quiet (fail)
          go_wp2
          go_quiet (fail)
          go_wp2
          go_ret
          exact ⟨by rw [HR.out]; rfl, ((HU.out).drewN _).drewN _⟩
  · have n1 : ((L : Int) != (L' : Int)) = true := by simp; omega
    have n2 : ((L : Int) == (L' : Int)) = false := by simp; omega
    have n3 : decide ((L : Int) = (L' : Int)) = false := decide_eq_false (by omega)
    have n4 : decide (L = L') = false := decide_eq_false hll
    rcases Nat.lt_or_ge L L' with hlt' | hge
    · have HR : Hid (cmpI u v = -1) := by show _ = _; simp [cmpI, hlt hlt']
      have g1 : (L : Int) < (L' : Int) := by omega
      clear hlt hgt HX HY
      go_enter Tabg.func67, Tabg.ntmps67
      go_wp2_with (fail)
      refine (C1.out).mono ?_
      rintro e w' ⟨rfl, rfl⟩
      go_wp2_with (fail)
      refine (C2.out).mono ?_
      rintro e w' ⟨rfl, rfl⟩
      clear C1 C2
      go_wp2_with (fail)
      go_ret
      exact ⟨by rw [HR.out]; rfl, Up.refl _⟩
    · have HR : Hid (cmpI u v = 1) := by
        have h1 := hgt (by omega)
        have h2 : ¬ u < v := by omega
        show _ = _
        simp [cmpI, h1, h2]
      have g1 : decide ((L : Int) < (L' : Int)) = false := decide_eq_false (by omega)
      have g2 : (L' : Int) ≤ (L : Int) := by omega
      clear hlt hgt HX HY
      go_enter Tabg.func67, Tabg.ntmps67
      go_wp2_with (fail)
      refine (C1.out).mono ?_
      rintro e w' ⟨rfl, rfl⟩
      go_wp2_with (fail)
      refine (C2.out).mono ?_
      rintro e w' ⟨rfl, rfl⟩
      clear C1 C2
      go_wp2_with (fail)
      go_ret
      exact ⟨by rw [HR.out]; rfl, Up.refl _⟩

end Go.Proofs.Ygctab
