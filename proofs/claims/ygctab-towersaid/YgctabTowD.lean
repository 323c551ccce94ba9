import Derived.Test.YgctabTowC
namespace Go.Proofs.Ygctab
open Go.RowKit
set_option linter.unusedVariables false
set_option linter.unusedSimpArgs false

/-- How many entries an operation takes, and whether it leaves one more. -/
def roomP (k : Nat) : Int × Bool := if k = 0 then (0, true) else if k = 6 then (1, true) else if k = 4 ∨ k = 8 then (1, false) else if k = 1 ∨ k = 2 ∨ k = 3 ∨ k = 5 ∨ k = 7 then (2, false) else (-1, false)
set_option maxRecDepth 100000 in
theorem room_any (k : Nat) (hk : k < 256) (w : World) : Calls Tabg.prog 156 #[.int .u8 (k : Int)] w fun e w' => e = .returned (.tuple #[.int .i64 (roomP k).1, .bool (roomP k).2]) ∧ w = w' := by
  by_cases h9 : k < 9
  · match k, h9 with
    | 0, _ =>
      go_enter Tabg.func156, Tabg.ntmps156
      go_wp2
      first | go_ret2 | go_ret
      exact ⟨rfl, rfl⟩
    | 1, _ =>
      go_enter Tabg.func156, Tabg.ntmps156
      go_wp2
      first | go_ret2 | go_ret
      exact ⟨rfl, rfl⟩
    | 2, _ =>
      go_enter Tabg.func156, Tabg.ntmps156
      go_wp2
      first | go_ret2 | go_ret
      exact ⟨rfl, rfl⟩
    | 3, _ =>
      go_enter Tabg.func156, Tabg.ntmps156
      go_wp2
      first | go_ret2 | go_ret
      exact ⟨rfl, rfl⟩
    | 4, _ =>
      go_enter Tabg.func156, Tabg.ntmps156
      go_wp2
      first | go_ret2 | go_ret
      exact ⟨rfl, rfl⟩
    | 5, _ =>
      go_enter Tabg.func156, Tabg.ntmps156
      go_wp2
      first | go_ret2 | go_ret
      exact ⟨rfl, rfl⟩
    | 6, _ =>
      go_enter Tabg.func156, Tabg.ntmps156
      go_wp2
      first | go_ret2 | go_ret
      exact ⟨rfl, rfl⟩
    | 7, _ =>
      go_enter Tabg.func156, Tabg.ntmps156
      go_wp2
      first | go_ret2 | go_ret
      exact ⟨rfl, rfl⟩
    | 8, _ =>
      go_enter Tabg.func156, Tabg.ntmps156
      go_wp2
      first | go_ret2 | go_ret
      exact ⟨rfl, rfl⟩
  · have hr : roomP k = (-1, false) := by unfold roomP; rw [if_neg (by omega), if_neg (by omega), if_neg (by omega), if_neg (by omega)]
    rw [hr]
    have n0 : ((k : Int) == 0) = false := by simp; omega
    have d0 : decide (k = 0) = false := decide_eq_false (by omega)
    have n1 : ((k : Int) == 1) = false := by simp; omega
    have d1 : decide (k = 1) = false := decide_eq_false (by omega)
    have n2 : ((k : Int) == 2) = false := by simp; omega
    have d2 : decide (k = 2) = false := decide_eq_false (by omega)
    have n3 : ((k : Int) == 3) = false := by simp; omega
    have d3 : decide (k = 3) = false := decide_eq_false (by omega)
    have n4 : ((k : Int) == 4) = false := by simp; omega
    have d4 : decide (k = 4) = false := decide_eq_false (by omega)
    have n5 : ((k : Int) == 5) = false := by simp; omega
    have d5 : decide (k = 5) = false := decide_eq_false (by omega)
    have n6 : ((k : Int) == 6) = false := by simp; omega
    have d6 : decide (k = 6) = false := decide_eq_false (by omega)
    have n7 : ((k : Int) == 7) = false := by simp; omega
    have d7 : decide (k = 7) = false := decide_eq_false (by omega)
    have n8 : ((k : Int) == 8) = false := by simp; omega
    have d8 : decide (k = 8) = false := decide_eq_false (by omega)
    clear hr h9
    go_enter Tabg.func156, Tabg.ntmps156
    go_wp2
    first | go_ret2 | go_ret
    exact ⟨rfl, rfl⟩

/-- calc's own. -/
theorem product_any (eng : Nat) (he : eng < 4) (a a' : Option Addr) (n n' : Nat) (xs ys : List Nat) (w : World) (hx : RdB w a n xs) (hy : RdB w a' n' ys) (hn : n ≤ 512) (hn' : n' ≤ 512) :
    Calls Tabg.prog 175 #[.int .u8 (eng : Int), .slice a n n, .slice a' n' n'] w fun e w' => ResOk w w' e (bv xs * bv ys) := by
  have C0 : Hid (Calls Tabg.prog 70 #[.slice a n n, .slice a' n' n'] w fun e w' => Res w w' e (bv xs * bv ys)) := school_any a a' n n' n n' xs ys w hx hy (Nat.le_refl _) (Nat.le_refl _) (by omega) (by omega)
  have C1 : Hid (Calls Tabg.prog 71 #[.slice a n n, .slice a' n' n', .int .u8 8] w fun e w' => Res w w' e (bv xs * bv ys)) := kara_any 8 (by decide) a a' n n' n n' xs ys w hx hy (Nat.le_refl _) (Nat.le_refl _) (by omega) (by omega)
  have C2 : Hid (Calls Tabg.prog 72 #[.slice a n n, .slice a' n' n'] w fun e w' => ResOk w w' e (bv xs * bv ys)) := mulFFT_any a a' n n' n n' xs ys w hx hy hn hn'
  have C3 : Hid (Calls Tabg.prog 73 #[.slice a n n, .slice a' n' n'] w fun e w' => ResOk w w' e (bv xs * bv ys)) := mulNTT_any a a' n n' n n' xs ys w hx hy hn hn'
  generalize bv xs * bv ys = v at *
  clear hx hy
  match eng, he with
  | 0, _ =>
    go_enter Tabg.func175, Tabg.ntmps175
    go_wp2_with (fail)
    refine (C0.out).mono ?_
    rintro e w1 ⟨B, zs, rfl, h1, h2, h3⟩
    have HF : Hid (w.heap.size ≤ B ∧ Up w w1 ∧ (v ≠ 0 → Own w1 B 5 (u8s zs) ∧ Digs zs ∧ bv zs = v)) := ⟨h1, h2, h3⟩
    clear h1 h2 h3
    go_wp2_with (fail)
    first | go_ret2 | go_ret
    exact ⟨B, zs, rfl, HF.out⟩
  | 1, _ =>
    go_enter Tabg.func175, Tabg.ntmps175
    go_wp2_with (fail)
    refine (C1.out).mono ?_
    rintro e w1 ⟨B, zs, rfl, h1, h2, h3⟩
    have HF : Hid (w.heap.size ≤ B ∧ Up w w1 ∧ (v ≠ 0 → Own w1 B 5 (u8s zs) ∧ Digs zs ∧ bv zs = v)) := ⟨h1, h2, h3⟩
    clear h1 h2 h3
    go_wp2_with (fail)
    first | go_ret2 | go_ret
    exact ⟨B, zs, rfl, HF.out⟩
  | 2, _ =>
    go_enter Tabg.func175, Tabg.ntmps175
    go_wp2_with (fail)
    refine (C2.out).mono ?_
    rintro e w1 ⟨B, zs, rfl, h1, h2, h3⟩
    have HF : Hid (w.heap.size ≤ B ∧ Up w w1 ∧ (v ≠ 0 → Own w1 B 5 (u8s zs) ∧ Digs zs ∧ bv zs = v)) := ⟨h1, h2, h3⟩
    clear h1 h2 h3
    go_wp2_with (fail)
    first | go_ret2 | go_ret
    exact ⟨B, zs, rfl, HF.out⟩
  | 3, _ =>
    go_enter Tabg.func175, Tabg.ntmps175
    go_wp2_with (fail)
    refine (C3.out).mono ?_
    rintro e w1 ⟨B, zs, rfl, h1, h2, h3⟩
    have HF : Hid (w.heap.size ≤ B ∧ Up w w1 ∧ (v ≠ 0 → Own w1 B 5 (u8s zs) ∧ Digs zs ∧ bv zs = v)) := ⟨h1, h2, h3⟩
    clear h1 h2 h3
    go_wp2_with (fail)
    first | go_ret2 | go_ret
    exact ⟨B, zs, rfl, HF.out⟩
end Go.Proofs.Ygctab
