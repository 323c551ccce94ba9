import Derived.Test.YgctabDoorSv
namespace Go.Proofs.YgctabDoor
open Go.RowKit
set_option linter.unusedVariables false
set_option linter.unusedSimpArgs false
set_option exponentiation.threshold 6000

theorem neg_emod_emod' (s m : Int) : -(s % m) % m = (-s) % m := by
  have e : -(s % m) = -s + m * (s / m) := by have := Int.emod_add_mul_ediv s m; omega
  rw [e, Int.add_mul_emod_self_left]
theorem num_sv {n : Int} (h0 : 0 ≤ n) (h1 : n < W ^ 68) : n = sv n % W ^ 68 := by
  unfold sv
  split
  · rw [Int.emod_eq_of_lt h0 h1]
  · rw [← Int.add_emod_right, Int.sub_add_cancel, Int.emod_eq_of_lt h0 h1]

set_option maxRecDepth 100000 in
set_option maxHeartbeats 800000 in
theorem accAbs_any (b : Nat) (xs : List Int) (w : World) (h : AccAt w b xs) :
    Calls Tabg.prog 19 #[.pointer (some ⟨b, 0, none⟩)] w fun e w' => e = .returned (.tuple #[]) ∧ Mod b w w' ∧ ∃ ys, AccAt w' b ys ∧ num ys = ((sv (num xs)).natAbs : Int) % W ^ 68 := by
  have hr := h.range
  have hsv := num_sv hr.1 hr.2
  by_cases h0 : sv (num xs) < 0
  · have hs : sgn (sv (num xs)) = -1 := by unfold sgn; rw [if_pos h0]
    have c1 := accSign_any b xs w h
    rw [hs] at c1
    have c2 := accNeg_any b xs w h
    have C1 : Hid (Calls Tabg.prog 18 #[.pointer (some ⟨b, 0, none⟩)] w fun e w' => e = .returned (.int .i8 (-1)) ∧ w = w') := c1
    have C2 : Hid (Calls Tabg.prog 33 #[.pointer (some ⟨b, 0, none⟩)] w fun e w' => e = .returned (.tuple #[]) ∧ Mod b w w' ∧ ∃ ys, AccAt w' b ys ∧ num ys = (-num xs) % W ^ 68) := c2
    have HE : Hid ((-num xs) % W ^ 68 = ((sv (num xs)).natAbs : Int) % W ^ 68) := by
      show _ = _
      rw [show ((sv (num xs)).natAbs : Int) = -sv (num xs) by omega]
      conv => lhs; rw [hsv]
      exact neg_emod_emod' _ _
    clear c1 c2 hr hsv h0 hs h
    go_enter Tabg.func19, Tabg.ntmps19
    go_wp2_with (fail)
    refine Calls.mono C1.out ?_
    rintro e w' ⟨rfl, rfl⟩
    go_wp2_with (fail)
    refine Calls.mono C2.out ?_
    rintro e w' ⟨rfl, hm, ys, hy, hyv⟩
    have HP : Hid (Mod b w w' ∧ ∃ ys, AccAt w' b ys ∧ num ys = ((sv (num xs)).natAbs : Int) % W ^ 68) := ⟨hm, ys, hy, by rw [hyv, HE.out]⟩
    clear hm hy hyv C1 C2 HE
    go_wp2
    go_end0
    exact ⟨rfl, HP.out⟩
  · have hs : ¬ sgn (sv (num xs)) < 0 := by unfold sgn; rw [if_neg h0]; split <;> decide
    have c1 := accSign_any b xs w h
    have C1 : Hid (Calls Tabg.prog 18 #[.pointer (some ⟨b, 0, none⟩)] w fun e w' => e = .returned (.int .i8 (sgn (sv (num xs)))) ∧ w = w') := c1
    have HP : Hid (Mod b w w ∧ ∃ ys, AccAt w b ys ∧ num ys = ((sv (num xs)).natAbs : Int) % W ^ 68) := ⟨Mod.refl _ _, xs, h, by
      rw [show ((sv (num xs)).natAbs : Int) = sv (num xs) by omega]; exact hsv⟩
    have hs' : decide (sgn (sv (num xs)) < 0) = false := decide_eq_false hs
    clear c1 hr hsv h0 h
    generalize sgn (sv (num xs)) = g at *
    go_enter Tabg.func19, Tabg.ntmps19
    go_wp2_with (fail)
    refine Calls.mono C1.out ?_
    rintro e w' ⟨rfl, rfl⟩
    go_wp2
    go_end0
    exact ⟨rfl, HP.out⟩

end Go.Proofs.YgctabDoor
