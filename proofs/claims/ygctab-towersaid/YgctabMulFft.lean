import Derived.Test.YgctabRound2
import Derived.Test.YgctabNttR
namespace Go.Proofs.Ygctab
open Go.RowKit
set_option linter.unusedVariables false
set_option linter.unusedSimpArgs false

set_option maxRecDepth 100000 in
theorem fconv_far (a a' : Option Addr) (n n' c c' : Nat) (w : World) (h : 512 < n ∨ 512 < n') (hn : n ≤ 4096) (hn' : n' ≤ 4096) :
    Calls Tabg.prog 128 #[.slice a n c, .slice a' n' c'] w fun e w' => e = .returned (.tuple #[.slice none 0 0, .bool false]) ∧ w = w' := by
  have nI : (n : Int) ≤ 4096 := by omega
  have nI' : (n' : Int) ≤ 4096 := by omega
  by_cases h1 : 512 < n
  · have g : (512 : Int) < (n : Int) := by omega
    clear h
    go_enter Tabg.func128, Tabg.ntmps128
    go_wp2
    first | go_ret2 | go_ret
    exact ⟨rfl, rfl⟩
  · have g : decide ((512 : Int) < (n : Int)) = false := decide_eq_false (by omega)
    have g' : (512 : Int) < (n' : Int) := by omega
    clear h h1
    go_enter Tabg.func128, Tabg.ntmps128
    go_wp2
    first | go_ret2 | go_ret
    exact ⟨rfl, rfl⟩

set_option maxRecDepth 100000 in
theorem fconv_empty (a a' : Option Addr) (n n' c c' : Nat) (w : World) (h : n = 0 ∨ n' = 0) (hn : n ≤ 512) (hn' : n' ≤ 512) :
    Calls Tabg.prog 128 #[.slice a n c, .slice a' n' c'] w fun e w' => e = .returned (.tuple #[.slice none 0 0, .bool true]) ∧ w = w' := by
  have g : decide ((512 : Int) < (n : Int)) = false := decide_eq_false (by omega)
  have g' : decide ((512 : Int) < (n' : Int)) = false := decide_eq_false (by omega)
  have nI : (n : Int) ≤ 512 := by omega
  have nI' : (n' : Int) ≤ 512 := by omega
  by_cases h1 : n = 0
  · subst h1
    clear h
    go_enter Tabg.func128, Tabg.ntmps128
    go_wp2
    first | go_ret2 | go_ret
    exact ⟨rfl, rfl⟩
  · obtain rfl : n' = 0 := by omega
    have z1 : decide ((n : Int) = 0) = false := decide_eq_false (by omega)
    have z2 : ((n : Int) == 0) = false := by simp; omega
    have z3 : decide (n = 0) = false := decide_eq_false h1
    clear h h1
    go_enter Tabg.func128, Tabg.ntmps128
    go_wp2
    first | go_ret2 | go_ret
    exact ⟨rfl, rfl⟩

theorem cv_zero {xs ys : List Nat} {m : Nat} (h : xs.length + ys.length - 1 ≤ m) (hx : 1 ≤ xs.length) (hy : 1 ≤ ys.length) : cv (atn xs) (atn ys) m = 0 := by
  unfold cv
  rw [sm_congr (g := fun _ => 0) (fun i hi => ?_), sm_zero]
  rcases Nat.lt_or_ge i xs.length with h1 | h1
  · rw [atn_zero (ds := ys) (by omega)]; simp
  · rw [atn_zero h1]; simp
theorem convL_cv {xs ys : List Nat} (hx : 1 ≤ xs.length) (hy : 1 ≤ ys.length) (m : Nat) : (((convL xs ys)[m]?.getD 0 : Nat) : Int) = cv (atn xs) (atn ys) m := by
  rcases Nat.lt_or_ge m (xs.length + ys.length - 1) with h | h
  · rw [convL_at xs ys h, Int.toNat_of_nonneg (cv_nonneg xs ys m)]
  · rw [cv_zero h hx hy, List.getElem?_eq_none (by rw [convL_length]; exact h)]; rfl

set_option maxRecDepth 100000 in
set_option maxHeartbeats 800000 in
theorem fconv_any (a a' : Option Addr) (la lb c c' : Nat) (xs ys : List Nat) (w : World) (hx : RdB w a la xs) (hy : RdB w a' lb ys) (hla : 1 ≤ la) (hlb : 1 ≤ lb) (hla' : la ≤ 512) (hlb' : lb ≤ 512) :
    Calls Tabg.prog 128 #[.slice a la c, .slice a' lb c'] w fun e w' => ∃ B, e = .returned (.tuple #[.slice (some ⟨B, 0, none⟩) (la + lb - 1) (la + lb - 1), .bool true]) ∧ Up w w' ∧ Own w' B 2 (ints .i64 (i64s (convL xs ys))) := by
  obtain ⟨M, hM⟩ : ∃ M, M = la + lb - 1 := ⟨_, rfl⟩
  have eM : (la : Int) + (lb : Int) - 1 = (M : Int) := by omega
  have h1 := hx.1
  have h2 := hy.1
  have CR : Hid (Calls Tabg.prog 153 #[.slice a la c, .slice a' lb c'] w fun e w' => ∃ B n zs, e = .returned (.slice (some ⟨B, 0, none⟩) n n) ∧ Up w w' ∧ n ≤ 1024 ∧ M ≤ n ∧ zs.length = n ∧ Own w' B 27 (cxs zs) ∧ ∀ m, m < n → NearC (clsC (zat zs m)) (((convL xs ys)[m]?.getD 0 : Nat) : Int)) := by
    refine (raw_any a a' la lb c c' xs ys w hx hy hla hlb hla' hlb').mono ?_
    rintro e w' ⟨B, k, zs, q1, q2, q3, q4, q5, q6, q7, q8⟩
    exact ⟨B, 2 ^ k, zs, q1, q2, pow_le k q4, by omega, q6, q7, fun m hm => by rw [convL_cv (by omega) (by omega)]; exact q8 m hm⟩
  have CA : Hid (∀ (B n : Nat) (zs : List (Nat × Nat)) (w' : World), n ≤ 1024 → M ≤ n → zs.length = n → Own w' B 27 (cxs zs) → (∀ m, m < n → NearC (clsC (zat zs m)) (((convL xs ys)[m]?.getD 0 : Nat) : Int)) → Calls Tabg.prog 152 #[.slice (some ⟨B, 0, none⟩) n n, .int .i64 M] w' fun e w'' => e = .returned (.tuple #[.slice (some ⟨w'.heap.size, 0, none⟩) M M, .bool true]) ∧ Up w' w'' ∧ Own w'' w'.heap.size 2 (ints .i64 (i64s (convL xs ys)))) := fun B n zs w' a1 a2 a3 a4 a5 =>
    roundAll_yes B n n M zs (convL xs ys) w' (rdC_len' a4 a3 (Up.refl _)) a1 (by omega) a2 (by rw [convL_length]; omega) (convL_small hx.2.1 hy.2.1 (by omega)) a5
  have g1 : decide ((512 : Int) < (la : Int)) = false := decide_eq_false (by omega)
  have g2 : decide ((512 : Int) < (lb : Int)) = false := decide_eq_false (by omega)
  have z1 : decide ((la : Int) = 0) = false := decide_eq_false (by omega)
  have z2 : ((la : Int) == 0) = false := by simp; omega
  have z3 : decide (la = 0) = false := decide_eq_false (by omega)
  have y1 : decide ((lb : Int) = 0) = false := decide_eq_false (by omega)
  have y2 : ((lb : Int) == 0) = false := by simp; omega
  have y3 : decide (lb = 0) = false := decide_eq_false (by omega)
  have laI : (la : Int) ≤ 512 := by omega
  have lbI : (lb : Int) ≤ 512 := by omega
  have MI : (M : Int) ≤ 1023 := by omega
  have M1 : (1 : Int) ≤ (M : Int) := by omega
  rw [← hM]
  clear hM hx hy hla hlb hla' hlb' h1 h2
  go_enter Tabg.func128, Tabg.ntmps128
  go_wp2_with (fail)
  refine (CR.out).mono ?_
  rintro e w1 ⟨B, n, zs, rfl, q2, q3, q4, q5, q6, q7⟩
  have U1 : Hid (Up w w1) := q2
  have C2 : Hid (Calls Tabg.prog 152 #[.slice (some ⟨B, 0, none⟩) n n, .int .i64 M] w1 fun e w'' => e = .returned (.tuple #[.slice (some ⟨w1.heap.size, 0, none⟩) M M, .bool true]) ∧ Up w1 w'' ∧ Own w'' w1.heap.size 2 (ints .i64 (i64s (convL xs ys)))) := CA.out B n zs w1 q3 q4 q5 q6 q7
  clear q2 q3 q4 q5 q6 q7 CA CR
  go_wp2_with (fail)
  refine (C2.out).mono ?_
  rintro e w2 ⟨rfl, q2, q3⟩
  have U2 : Hid (Up w w2) := (U1.out).trans q2
  have O2 : Hid (Own w2 w1.heap.size 2 (ints .i64 (i64s (convL xs ys)))) := q3
  clear q2 q3 C2
  go_wp2_with (fail)
  first | go_ret2 | go_ret
  exact ⟨w1.heap.size, rfl, U2.out, O2.out⟩

set_option maxRecDepth 100000 in
theorem mulFFT_far (a a' : Option Addr) (n n' c c' : Nat) (w : World) (h : 512 < n ∨ 512 < n') (hn : n ≤ 4096) (hn' : n' ≤ 4096) :
    Calls Tabg.prog 72 #[.slice a n c, .slice a' n' c'] w fun e w' => e = .returned (.tuple #[.slice none 0 0, .bool false]) ∧ Up w w' := by
  have C1 : Hid (Calls Tabg.prog 128 #[.slice a n c, .slice a' n' c'] w fun e w' => e = .returned (.tuple #[.slice none 0 0, .bool false]) ∧ w = w') := fconv_far a a' n n' c c' w h hn hn'
  have C2 : Hid (Calls Tabg.prog 129 #[.slice none 0 0] w fun e w' => e = .returned (.tuple #[.slice none 0 0, .bool true]) ∧ Up w w') := by
    refine (carry_any none 0 0 [] w (RdI.nil _ _ _) (fun x hx => by simp at hx) (by decide)).mono ?_
    rintro e w' ⟨B, zs, he, _, hu, _⟩
    refine ⟨?_, hu⟩
    rw [he, show bv [] = 0 from rfl, dig_zero]
    rfl
  clear h
  go_enter Tabg.func72, Tabg.ntmps72
  go_wp2_with (fail)
  refine (C1.out).mono ?_
  rintro e w' ⟨rfl, rfl⟩
  go_wp2_with (fail)
  refine (C2.out).mono ?_
  rintro e w1 ⟨rfl, hu⟩
  have U1 : Hid (Up w w1) := hu
  clear hu C1 C2
  go_wp2_with (fail)
  first | go_ret2 | go_ret
  exact ⟨rfl, U1.out⟩

set_option maxRecDepth 100000 in
theorem mulFFT_any (a a' : Option Addr) (n n' c c' : Nat) (xs ys : List Nat) (w : World) (hx : RdB w a n xs) (hy : RdB w a' n' ys) (hn : n ≤ 512) (hn' : n' ≤ 512) :
    Calls Tabg.prog 72 #[.slice a n c, .slice a' n' c'] w fun e w' => ResOk w w' e (bv xs * bv ys) := by
  have key : ∃ (A : Option Addr) (M : Nat) (cs : List Nat), bv cs = bv xs * bv ys ∧ (∀ x ∈ cs, x ≤ 33292800) ∧ M ≤ 4096 ∧ Calls Tabg.prog 128 #[.slice a n c, .slice a' n' c'] w fun e w' => ∃ A, e = .returned (.tuple #[.slice A M M, .bool true]) ∧ Up w w' ∧ RdI .i64 w' A M (i64s cs) := by
    by_cases h0 : n = 0 ∨ n' = 0
    · refine ⟨none, 0, [], ?_, fun x hx => by simp at hx, by decide, ?_⟩
      · have h1 := hx.1
        have h2 := hy.1
        rcases h0 with h | h
        · have : xs = [] := List.eq_nil_of_length_eq_zero (by omega)
          rw [this]; simp [bv]
        · have : ys = [] := List.eq_nil_of_length_eq_zero (by omega)
          rw [this]; simp [bv]
      · refine (fconv_empty a a' n n' c c' w h0 hn hn').mono ?_
        rintro e w' ⟨he, rfl⟩
        exact ⟨none, he, Up.refl _, RdI.nil _ _ _⟩
    · have h1 := hx.1
      have h2 := hy.1
      refine ⟨none, n + n' - 1, convL xs ys, convL_value xs ys (by omega) (by omega), convL_small hx.2.1 hy.2.1 (by omega), by omega, ?_⟩
      refine (fconv_any a a' n n' c c' xs ys w hx hy (by omega) (by omega) hn hn').mono ?_
      rintro e w' ⟨B, he, hu, ho⟩
      refine ⟨some ⟨B, 0, none⟩, he, hu, ?_⟩
      have := Own.rd ho
      rwa [i64s_length, convL_length, ← h1, ← h2] at this
  obtain ⟨_, M, cs, hval, hb, hM, C1'⟩ := key
  have C1 : Hid (Calls Tabg.prog 128 #[.slice a n c, .slice a' n' c'] w fun e w' => ∃ A, e = .returned (.tuple #[.slice A M M, .bool true]) ∧ Up w w' ∧ RdI .i64 w' A M (i64s cs)) := C1'
  have C2 : Hid (∀ (w' : World) (A : Option Addr), RdI .i64 w' A M (i64s cs) → Calls Tabg.prog 129 #[.slice A M M] w' fun e w'' => ∃ B zs, e = .returned (.tuple #[.slice (nrmA (some ⟨B, 0, none⟩) (bv cs)) (dig (bv cs)).length (dig (bv cs)).length, .bool true]) ∧ w'.heap.size ≤ B ∧ Up w' w'' ∧ (bv cs ≠ 0 → Own w'' B 5 (u8s zs) ∧ Digs zs ∧ bv zs = bv cs)) := fun w' A hr => carry_any A M M cs w' hr hb hM
  rw [← hval]
  generalize bv cs = v at *
  clear C1' hval hb hx hy
  go_enter Tabg.func72, Tabg.ntmps72
  go_wp2_with (fail)
  refine (C1.out).mono ?_
  rintro e w1 ⟨A, rfl, hu, hr⟩
  have U1 : Hid (Up w w1) := hu
  have R1 : Hid (RdI .i64 w1 A M (i64s cs)) := hr
  clear hu hr C1
  go_wp2_with (fail)
  refine (C2.out w1 A R1.out).mono ?_
  rintro e w2 ⟨B, zs, rfl, hB, hu, hv⟩
  have HF : Hid (ResOk w w2 (.returned (.tuple #[.slice (nrmA (some ⟨B, 0, none⟩) v) (dig v).length (dig v).length, .bool true])) v) := ⟨B, zs, rfl, Nat.le_trans (U1.out).size hB, (U1.out).trans hu, hv⟩
  clear hB hu hv C2
  go_wp2_with (fail)
  first | go_ret2 | go_ret
  exact HF.out
end Go.Proofs.Ygctab
