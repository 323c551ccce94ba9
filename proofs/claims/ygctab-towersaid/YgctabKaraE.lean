import Derived.Test.YgctabKaraD
namespace Go.Proofs.Ygctab
open Go.RowKit
set_option linter.unusedVariables false
set_option linter.unusedSimpArgs false

set_option maxRecDepth 100000 in
set_option maxHeartbeats 800000 in
theorem kara_small (a a' A A' : Option Addr) (n n' c c' L L' v : Nat) (lv : Int) (w : World) (hlv : 0 ≤ lv) (hlv2 : lv < 256)
    (C1' : Calls Tabg.prog 124 #[.slice a n c] w fun e w' => e = .returned (.slice A L L) ∧ w = w') (C2' : Calls Tabg.prog 124 #[.slice a' n' c'] w fun e w' => e = .returned (.slice A' L' L') ∧ w = w')
    (C3' : Calls Tabg.prog 70 #[.slice A L L, .slice A' L' L'] w fun e w' => Res w w' e v) (hs : lv = 0 ∨ L < 8 ∨ L' < 8) :
    Calls Tabg.prog 71 #[.slice a n c, .slice a' n' c', .int .u8 lv] w fun e w' => Res w w' e v := by
  have C1 : Hid (Calls Tabg.prog 124 #[.slice a n c] w fun e w' => e = .returned (.slice A L L) ∧ w = w') := C1'
  have C2 : Hid (Calls Tabg.prog 124 #[.slice a' n' c'] w fun e w' => e = .returned (.slice A' L' L') ∧ w = w') := C2'
  have C3 : Hid (Calls Tabg.prog 70 #[.slice A L L, .slice A' L' L'] w fun e w' => Res w w' e v) := C3'
  clear C1' C2' C3'
  by_cases h0 : lv = 0
  · subst h0
    clear hs
    go_enter Tabg.func71, Tabg.ntmps71
    go_wp2_with (fail)
    refine (C1.out).mono ?_
    rintro e w' ⟨rfl, rfl⟩
    go_wp2_with (fail)
    refine (C2.out).mono ?_
    rintro e w' ⟨rfl, rfl⟩
    go_wp2_with (fail)
    refine (C3.out).mono ?_
    rintro e w' hr
    obtain ⟨B, zs, rfl, hB, hu, hv⟩ := hr
    have HR : Hid (Res w w' (.returned (.slice (nrmA (some ⟨B, 0, none⟩) v) (dig v).length (dig v).length)) v) := ⟨B, zs, rfl, hB, hu, hv⟩
    clear hB hu hv
    go_wp2_with (fail)
    go_ret
    exact HR.out
  · have z1 : decide (lv = 0) = false := decide_eq_false h0
    have z2 : (lv == 0) = false := by simp; exact h0
    by_cases h1 : L < 8
    · have g1 : (L : Int) < 8 := by omega
      clear hs h0
      go_enter Tabg.func71, Tabg.ntmps71
      go_wp2_with (fail)
      refine (C1.out).mono ?_
      rintro e w' ⟨rfl, rfl⟩
      go_wp2_with (fail)
      refine (C2.out).mono ?_
      rintro e w' ⟨rfl, rfl⟩
      go_wp2_with (fail)
      refine (C3.out).mono ?_
      rintro e w' hr
      obtain ⟨B, zs, rfl, hB, hu, hv⟩ := hr
      have HR : Hid (Res w w' (.returned (.slice (nrmA (some ⟨B, 0, none⟩) v) (dig v).length (dig v).length)) v) := ⟨B, zs, rfl, hB, hu, hv⟩
      clear hB hu hv
      go_wp2_with (fail)
      go_ret
      exact HR.out
    · have g1 : decide ((L : Int) < 8) = false := decide_eq_false (by omega)
      have g2 : (L' : Int) < 8 := by omega
      have g3 : (8 : Int) ≤ (L : Int) := by omega
      clear hs h0 h1
      go_enter Tabg.func71, Tabg.ntmps71
      go_wp2_with (fail)
      refine (C1.out).mono ?_
      rintro e w' ⟨rfl, rfl⟩
      go_wp2_with (fail)
      refine (C2.out).mono ?_
      rintro e w' ⟨rfl, rfl⟩
      go_wp2_with (fail)
      refine (C3.out).mono ?_
      rintro e w' hr
      obtain ⟨B, zs, rfl, hB, hu, hv⟩ := hr
      have HR : Hid (Res w w' (.returned (.slice (nrmA (some ⟨B, 0, none⟩) v) (dig v).length (dig v).length)) v) := ⟨B, zs, rfl, hB, hu, hv⟩
      clear hB hu hv
      go_wp2_with (fail)
      go_ret
      exact HR.out

/-- MulKaratsuba is the product, whatever the number of levels. -/
theorem kara_any (lv : Nat) (hlv : lv < 256) : ∀ (a a' : Option Addr) (n n' c c' : Nat) (xs ys : List Nat) (w : World), RdB w a n xs → RdB w a' n' ys → n ≤ c → n' ≤ c' → n ≤ 2048 → n' ≤ 2048 →
    Calls Tabg.prog 71 #[.slice a n c, .slice a' n' c', .int .u8 (lv : Int)] w fun e w' => Res w w' e (bv xs * bv ys) := by
  induction lv with
  | zero =>
    intro a a' n n' c c' xs ys w h h' hc hc' hn hn'
    have C1 := knormal_any a n c xs w h hc (by omega)
    have C2 := knormal_any a' n' c' ys w h' hc' (by omega)
    have b1 : (dig (bv xs)).length ≤ 2048 := Nat.le_trans (dig_len h.2.1) (by rw [← h.1]; exact hn)
    have b2 : (dig (bv ys)).length ≤ 2048 := Nat.le_trans (dig_len h'.2.1) (by rw [← h'.1]; exact hn')
    have C3 := school_any _ _ _ _ (dig (bv xs)).length (dig (bv ys)).length _ _ w h.nrm h'.nrm (Nat.le_refl _) (Nat.le_refl _) (by omega) (by omega)
    rw [bv_dig, bv_dig] at C3
    exact kara_small a a' _ _ n n' c c' _ _ _ 0 w (by decide) (by decide) C1 C2 C3 (.inl rfl)
  | succ lv ih =>
    intro a a' n n' c c' xs ys w h h' hc hc' hn hn'
    have C1 := knormal_any a n c xs w h hc (by omega)
    have C2 := knormal_any a' n' c' ys w h' hc' (by omega)
    have b1 : (dig (bv xs)).length ≤ 2048 := Nat.le_trans (dig_len h.2.1) (by rw [← h.1]; exact hn)
    have b2 : (dig (bv ys)).length ≤ 2048 := Nat.le_trans (dig_len h'.2.1) (by rw [← h'.1]; exact hn')
    by_cases hs : (dig (bv xs)).length < 8 ∨ (dig (bv ys)).length < 8
    · have C3 := school_any _ _ _ _ (dig (bv xs)).length (dig (bv ys)).length _ _ w h.nrm h'.nrm (Nat.le_refl _) (Nat.le_refl _) (by omega) (by omega)
      rw [bv_dig, bv_dig] at C3
      exact kara_small a a' _ _ n n' c c' _ _ _ _ w (by omega) (by omega) C1 C2 C3 (.inr hs)
    · have hu : bv xs ≠ 0 := fun h0 => hs (.inl (by rw [h0, dig_zero]; decide))
      have hv : bv ys ≠ 0 := fun h0 => hs (.inr (by rw [h0, dig_zero]; decide))
      have N1 := h.nrm
      have N2 := h'.nrm
      rw [nrmA_pos _ hu] at C1 N1
      rw [nrmA_pos _ hv] at C2 N2
      obtain ⟨b, off, rfl, _⟩ := N1.2.2 0 (dig_length_pos hu)
      obtain ⟨b', off', rfl, _⟩ := N2.2.2 0 (dig_length_pos hv)
      have := kara_core lv (by omega) (ih (by omega)) b off b' off' _ _ _ _ _ w N1 N2 (by omega) (by omega) b1 b2 (by rw [bv_dig]; exact hu) (by rw [bv_dig]; exact hv) _ _ n n' c c' rfl C1 C2
      rw [bv_dig, bv_dig] at this
      push_cast
      exact this
end Go.Proofs.Ygctab
