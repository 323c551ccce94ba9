import Derived.Test.YgctabTabB
import Derived.Test.YgctabTabC
import Derived.Test.YgctabFftI
namespace Go.Proofs.Ygctab
open Go.RowKit
set_option linter.unusedVariables false
set_option linter.unusedSimpArgs false

theorem keep_cx {f : FuncId} {args : Array Value} {w : World} {b n : Nat} {xs : List (Nat × Nat)} {r : Value} {S : Nat → Cx} (ho : Own w b 27 (cxs xs)) (hl : xs.length = n) (hS : ∀ i, i < n → clsC (zat xs i) = S i)
    (h : Calls Tabg.prog f args w fun e w' => e = .returned r ∧ w = w') : Calls Tabg.prog f args w fun e w'' => e = .returned r ∧ Mod b w w'' ∧ ∃ ys, ys.length = n ∧ Own w'' b 27 (cxs ys) ∧ ∀ i, i < n → clsC (zat ys i) = S i :=
  h.mono (fun e w' ⟨he, hw⟩ => by subst hw; exact ⟨he, Mod.refl _ _, xs, hl, ho, hS⟩)

theorem tableStays_any (bx ox n cx bt ot h ct t : Nat) (xs tab : List (Nat × Nat)) (w : World)
    (hx : RdC w (some ⟨bx, ox, none⟩) n xs) (ht : RdC w (some ⟨bt, ot, none⟩) h tab) (hn : n ≤ 2048) (hh : h ≤ 2048) (ht8 : t < 256)
    (hF : ∀ z ∈ xs, z.1 < 18446744073709551616 ∧ z.2 < 18446744073709551616) :
    Calls Tabg.prog 46 #[.slice (some ⟨bx, ox, none⟩) n cx, .slice (some ⟨bt, ot, none⟩) h ct, .int .u8 t] w fun e w' => e = .returned (.bool true) ∧ Up w w' := by
  have hnx := hx.1
  have hth := ht.1
  obtain ⟨f, hf, CF⟩ := fits_any n h (by omega) (by omega)
  by_cases hfit : FitP n h
  · have hf1 : f = true := hf.2 hfit
    subst hf1
    rcases hfit with ⟨k, k1, k2, k3, k4⟩ | ⟨h1, h2⟩
    · subst hnx hth
      have hp2 : 1 ≤ tab.length := by
        have := Nat.two_pow_pos k
        omega
      have hbt : bt < w.heap.size := by
        obtain ⟨b, off, e, hc⟩ := ht.2 0 (by omega)
        cases e
        exact cell_lt hc
      have hne : ∀ b' : Nat, w.heap.size ≤ b' → ∀ b off, (some ⟨bt, ot, none⟩ : Option Addr) = some ⟨b, off, none⟩ → b ≠ b' := by
        intro b' hb' b off e
        cases e
        omega
      refine ts_k bx ox xs.length cx bt ot tab.length ct t k xs tab
        (fun i => if 1 ≤ t ∧ t ≤ k then bflyX (2 ^ (t - 1)) (2 ^ (k - t)) (fun i => clsC (zat xs i)) (fun i => clsC (zat tab i)) i else clsC (zat xs i))
        (stX k (fun i => clsC (zat tab i)) (fun i => clsC (zat (revL (0, 0) xs) i)) k)
        (fun i => divX (floatOfInt .f64 xs.length) (stX k (fun i => clsC (zat (conjL tab) i)) (fun i => clsC (zat (revL (0, 0) xs) i)) k i))
        w hx ht hn hh ht8 ?_ ?_ ?_ ?_ (conjL tab) (stX k (fun i => clsC (zat (conjL tab) i)) (fun i => clsC (zat (revL (0, 0) xs) i)) k) k1 k2 k3 k4 ?_ ?_ ?_ ?_ ?_ ?_
      · intro w' b hu hb ho
        by_cases hc : 1 ≤ t ∧ t ≤ k
        · simp only [hc, and_self, if_true]
          exact stage_yes b k t ct xs.length _ xs tab w' ho (ht.up hu) (hne b hb) k2 k3 k4 hc.1 hc.2
        · simp only [hc, if_false]
          exact keep_cx ho rfl (fun _ _ => rfl) (stage_no _ _ _ _ _ _ t w' hn hh ht8 (fun ⟨k', q1, q2, q3, q4, q5, q6⟩ => hc ⟨q5, by
            have : k' = k := (Nat.pow_right_inj (by decide : 1 < 2)).1 (q3.symm.trans k3)
            omega⟩))
      · intro w' b hu hb ho
        exact forward_k b k ct xs.length _ xs tab w' ho (ht.up hu) (hne b hb) k2 k1 k3 k4
      · intro w' b hu hb ho
        exact inverse_k b k ct xs.length _ xs tab w' ho (ht.up hu) k2 k1 k3 k4
      · intro w' hu
        exact cdft_yes bx ox k xs.length tab.length cx ct _ xs tab w' (hx.up hu) (ht.up hu) k2 k3 hh CF
      · intro q1 q2 w' hu
        simp only [q1, q2, and_self, if_true]
        exact butterflies_k bx ox k t ct cx xs.length tab.length _ xs tab w' (hx.up hu) (ht.up hu) k2 k3 k4 q1 q2
      · intro w' hu
        exact staged_k bx ox k ct cx _ xs tab w' (hx.up hu) (ht.up hu) k2 k1 k3 k4
      · intro w' hu
        exact conjTable_any _ _ ct tab w' (ht.up hu) (by omega)
      · intro w' b hu ho
        have hL := conjL_length tab
        have := staged_k bx ox k tab.length cx (some ⟨b, 0, none⟩) xs (conjL tab) w' (hx.up hu) ho.rdC k2 k1 k3 (by rw [hL]; exact k4)
        rw [hL] at this
        exact this
      · intro hc i hi
        simp only [hc, if_false]
      · intro i hi
        rfl
    · subst h1 h2
      obtain ⟨x, rfl⟩ : ∃ x, xs = [x] := by
        match xs, hnx with
        | [x], _ => exact ⟨x, rfl⟩
      have hz : zat [x] 0 = x := rfl
      refine ts_one bx ox 1 cx bt ot 0 ct t [x] tab (fun i => clsC (zat [x] i)) (fun i => clsC (zat [x] i)) (fun i => clsC (zat [x] i)) w hx ht hn hh ht8 ?_ ?_ ?_ ?_ (fun _ _ => rfl) (fun _ _ => rfl) (fun _ _ => rfl) rfl rfl
      · intro w' b hu hb ho
        refine keep_cx ho rfl (fun _ _ => rfl) (stage_no _ _ _ _ _ _ t w' hn hh ht8 ?_)
        rintro ⟨k, q1, q2, q3, q4, q5, q6⟩
        omega
      · intro w' b hu hb ho
        refine (forward_one b 1 ct _ x w' ho).mono ?_
        rintro e w'' ⟨he, hm, ho'⟩
        exact ⟨he, hm, [x], rfl, ho', fun _ _ => rfl⟩
      · intro w' b hu hb ho
        have hb := hF x (by simp)
        refine (inverse_one b 1 ct _ x w' ho hb.1 hb.2).mono ?_
        rintro e w'' ⟨he, hm, y, ho', hc⟩
        refine ⟨he, hm, [y], rfl, ho', fun i hi => ?_⟩
        obtain rfl : i = 0 := by omega
        exact hc
      · intro w' hu
        exact cdft_yes bx ox 0 1 0 cx ct _ [x] tab w' (hx.up hu) (ht.up hu) (by decide) rfl (by decide) CF
  · have hf1 : f = false := by
      cases f with
      | false => rfl
      | true => exact absurd (hf.1 rfl) hfit
    subst hf1
    refine ts_no bx ox n cx bt ot h ct t xs tab (fun i => clsC (zat xs i)) (fun i => clsC (zat xs i)) (fun i => clsC (zat xs i)) w hx ht hn hh ht8 ?_ ?_ ?_ ?_ (fun _ _ => rfl) (fun _ _ => rfl) (fun _ _ => rfl) hfit
    · intro w' b hu hb ho
      refine keep_cx ho hnx.symm (fun _ _ => rfl) (stage_no _ _ _ _ _ _ t w' hn hh ht8 ?_)
      rintro ⟨k, q1, q2, q3, q4, q5, q6⟩
      exact hfit (.inl ⟨k, q1, q2, q3, q4⟩)
    · intro w' b hu hb ho
      exact keep_cx ho hnx.symm (fun _ _ => rfl) (forward_no _ _ _ _ _ _ w' CF)
    · intro w' b hu hb ho
      exact keep_cx ho hnx.symm (fun _ _ => rfl) (inverse_no _ _ _ _ _ _ w' CF)
    · intro w' hu
      refine (cdft_no _ _ _ _ _ _ w' CF).mono ?_
      rintro e w'' ⟨he, rfl⟩
      exact ⟨he, Up.refl _⟩

end Go.Proofs.Ygctab
