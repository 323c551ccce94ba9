import Derived.Test.YgctabTowB
namespace Go.Proofs.Ygctab
open Go.RowKit
set_option linter.unusedVariables false
set_option linter.unusedSimpArgs false

set_option maxRecDepth 100000 in
set_option maxHeartbeats 1600000 in
theorem appended_any (a : Option Addr) (n c : Nat) (x : Int) (os : List Int) (w : World) (hR : RdI .i8 w a n os) (hn : n ≤ 4096) :
    Calls Tabg.prog 131 #[.slice a n c, .int .i8 x] w fun e w' => ∃ B, e = .returned (.slice (some ⟨B, 0, none⟩) (n + 1) (n + 1)) ∧ w.heap.size ≤ B ∧ Up w w' ∧ Own w' B 50 (ints .i8 (os ++ [x])) := by
  obtain ⟨M, hM⟩ : ∃ M, M = n + 1 := ⟨_, rfl⟩
  have eM : (n : Int) + 1 = (M : Int) := by omega
  have hmk := fun w => run_make_row' (P := Tabg.prog) 101 50 (.int .i8 0) 1 Tabg.underlying101 (by kernel_rfl) rfl .i64 .i64 M (by omega) (by omega) w
  have hO := Own.made w 50 (.int .i8 0) M
  have HO : Hid (Own (w.alloc (.cells (madeCells #[.int .i8 0] M) 50)) w.heap.size 50 (List.replicate M (.int .i8 0))) := hO
  have hl := hR.1
  have HS : Hid ((ints .i8 os).length = n ∧ (∀ i, i < n → ∃ b o', a = some ⟨b, o', none⟩ ∧ (w.alloc (.cells (madeCells #[.int .i8 0] M) 50)).cell? ⟨b, o' + i, none⟩ = (ints .i8 os)[i]?) ∧ ∀ y ∈ ints .i8 os, y.oneCell' = true) := by
    refine ⟨by rw [ints_length]; omega, fun i hi => ?_, fun y hy => ?_⟩
    · obtain ⟨b, off, e, hcc⟩ := hR.2 i (by omega)
      refine ⟨b, off, e, ?_⟩
      rw [ints_at .i8 (by omega)]
      exact ((Up.refl w).alloc (.cells (madeCells #[.int .i8 0] M) 50)).cell hcc
    · simp only [ints, List.mem_map] at hy
      obtain ⟨z, _, rfl⟩ := hy
      rfl
  have HM : Hid (M = n + 1) := hM
  have HE : Hid ((ints .i8 os) ++ [Value.int .i8 x] = ints .i8 (os ++ [x])) := by show _ = _; simp [ints]
  have L1 : Hid ((splice (List.replicate M (Value.int .i8 0)) 0 (ints .i8 os)).set n (.int .i8 x) = ints .i8 os ++ [.int .i8 x] ∧ (splice (List.replicate M (Value.int .i8 0)) 0 (ints .i8 os))[n]? = some (.int .i8 0)) := by
    have q1 := HS.out.1
    have q2 := HM.out
    constructor
    · rw [splice_head _ _ (by simp; omega), List.set_append, if_neg (by omega), q1, Nat.sub_self, List.drop_replicate, q2, show n + 1 - n = 1 by omega]; rfl
    · rw [splice_head _ _ (by simp; omega), List.getElem?_append_right (by omega), q1, Nat.sub_self, List.drop_replicate, q2, show n + 1 - n = 1 by omega]; rfl
  have nI : (n : Int) ≤ 4096 := by omega
  have n0 : (0 : Int) ≤ (n : Int) := by omega
  have MI : (M : Int) ≤ 4097 := by omega
  have nM : (n : Int) < (M : Int) := by omega
  have M1 : (1 : Int) ≤ (M : Int) := by omega
  rw [← hM]
  clear hO hR hl hM
  go_enter Tabg.func131, Tabg.ntmps131
  go_wp2_with (
    refine wpList_copyV rfl (.tmp 10) (.tmp 11) 101 101 50 rfl Tabg.underlying101 (by kernel_rfl) a M M n c w.heap.size 0 rfl rfl (List.replicate M (.int .i8 0)) (ints .i8 os) 50 HO.out HS.out.1 HS.out.2.1 HS.out.2.2 (by have := HM.out; omega) (by have := HM.out; simp; omega) w ((Up.refl w).alloc _) (Nat.le_refl _) ?_
    intro w1 hw hb
    have O1 : Hid (Own w1 w.heap.size 50 (splice (List.replicate M (.int .i8 0)) 0 (ints .i8 os))) := hw
    have cz : w1.cell? ⟨w.heap.size, n, none⟩ = some (.int .i8 0) := by rw [(O1.out).cell]; exact L1.out.2
    have fz := Own.free O1.out n
    clear hw)
  go_ret
  refine ⟨w.heap.size, rfl, Nat.le_refl _, (hb.out).setCell (Nat.le_refl _) _, ?_⟩
  have := (O1.out).set n (.int .i8 x)
  rw [L1.out.1, HE.out] at this
  exact this

/-- The four engines' products, on numbers of at most 512 digits. -/
theorem times_any (eng : Nat) (he : eng < 4) (a a' : Option Addr) (n n' : Nat) (xs ys : List Nat) (w : World) (hx : RdB w a n xs) (hy : RdB w a' n' ys) (hn : n ≤ 512) (hn' : n' ≤ 512) :
    Calls Tabg.prog 155 #[.int .u8 (eng : Int), .slice a n n, .slice a' n' n'] w fun e w' => ResOk w w' e (bv xs * bv ys) := by
  have C0 : Hid (Calls Tabg.prog 70 #[.slice a n n, .slice a' n' n'] w fun e w' => Res w w' e (bv xs * bv ys)) := school_any a a' n n' n n' xs ys w hx hy (Nat.le_refl _) (Nat.le_refl _) (by omega) (by omega)
  have C1 : Hid (Calls Tabg.prog 71 #[.slice a n n, .slice a' n' n', .int .u8 8] w fun e w' => Res w w' e (bv xs * bv ys)) := kara_any 8 (by decide) a a' n n' n n' xs ys w hx hy (Nat.le_refl _) (Nat.le_refl _) (by omega) (by omega)
  have C2 : Hid (Calls Tabg.prog 72 #[.slice a n n, .slice a' n' n'] w fun e w' => ResOk w w' e (bv xs * bv ys)) := mulFFT_any a a' n n' n n' xs ys w hx hy hn hn'
  have C3 : Hid (Calls Tabg.prog 73 #[.slice a n n, .slice a' n' n'] w fun e w' => ResOk w w' e (bv xs * bv ys)) := mulNTT_any a a' n n' n n' xs ys w hx hy hn hn'
  generalize bv xs * bv ys = v at *
  clear hx hy
  match eng, he with
  | 0, _ =>
    go_enter Tabg.func155, Tabg.ntmps155
    go_wp2_with (fail)
    refine (C0.out).mono ?_
    rintro e w1 ⟨B, zs, rfl, h1, h2, h3⟩
    have HF : Hid (w.heap.size ≤ B ∧ Up w w1 ∧ (v ≠ 0 → Own w1 B 5 (u8s zs) ∧ Digs zs ∧ bv zs = v)) := ⟨h1, h2, h3⟩
    clear h1 h2 h3
    go_wp2_with (fail)
    first | go_ret2 | go_ret
    exact ⟨B, zs, rfl, HF.out⟩
  | 1, _ =>
    go_enter Tabg.func155, Tabg.ntmps155
    go_wp2_with (fail)
    refine (C1.out).mono ?_
    rintro e w1 ⟨B, zs, rfl, h1, h2, h3⟩
    have HF : Hid (w.heap.size ≤ B ∧ Up w w1 ∧ (v ≠ 0 → Own w1 B 5 (u8s zs) ∧ Digs zs ∧ bv zs = v)) := ⟨h1, h2, h3⟩
    clear h1 h2 h3
    go_wp2_with (fail)
    first | go_ret2 | go_ret
    exact ⟨B, zs, rfl, HF.out⟩
  | 2, _ =>
    go_enter Tabg.func155, Tabg.ntmps155
    go_wp2_with (fail)
    refine (C2.out).mono ?_
    rintro e w1 ⟨B, zs, rfl, h1, h2, h3⟩
    have HF : Hid (w.heap.size ≤ B ∧ Up w w1 ∧ (v ≠ 0 → Own w1 B 5 (u8s zs) ∧ Digs zs ∧ bv zs = v)) := ⟨h1, h2, h3⟩
    clear h1 h2 h3
    go_wp2_with (fail)
    first | go_ret2 | go_ret
    exact ⟨B, zs, rfl, HF.out⟩
  | 3, _ =>
    go_enter Tabg.func155, Tabg.ntmps155
    go_wp2_with (fail)
    refine (C3.out).mono ?_
    rintro e w1 ⟨B, zs, rfl, h1, h2, h3⟩
    have HF : Hid (w.heap.size ≤ B ∧ Up w w1 ∧ (v ≠ 0 → Own w1 B 5 (u8s zs) ∧ Digs zs ∧ bv zs = v)) := ⟨h1, h2, h3⟩
    clear h1 h2 h3
    go_wp2_with (fail)
    first | go_ret2 | go_ret
    exact ⟨B, zs, rfl, HF.out⟩
end Go.Proofs.Ygctab
