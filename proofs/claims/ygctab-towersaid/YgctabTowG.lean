import Derived.Test.YgctabTowF
namespace Go.Proofs.Ygctab
open Go.RowKit
set_option linter.unusedVariables false
set_option linter.unusedSimpArgs false

/-- A slice that was handed in. -/
def Inp (w : World) (A : Option Addr) (n c : Nat) (ds : List Nat) : Prop := RdB w A n ds ∧ (Pl A n ∨ (n = 0 ∧ c = 0)) ∧ n ≤ c ∧ (A = none → c = 0)
theorem Inp.up {w w' : World} {A : Option Addr} {n c : Nat} {ds : List Nat} (h : Inp w A n c ds) (u : Up w w') : Inp w' A n c ds := ⟨h.1.up u, h.2⟩
theorem run_slice00 (x : Addr) (w : World) : (Instr.slice 24 (.slice (some x) 0 0) none (some (.int .i64 0)) (some (.int .i64 0))).run Tabg.prog w = .ok (.slice (some x) 0 0) w := by
  have ee : Tabg.prog.elem 24 = 5 := by simp [Program.elem, Tabg.underlying24]
  have ht' : Tabg.prog.underlying 24 = some (.slice (Tabg.prog.elem 24)) := by rw [ee]; exact Tabg.underlying24
  have := run_slice_hm w 24 (some x) 0 0 ht' .i64 .i64 0 0 (by omega) (by omega) (by omega)
  rw [ee] at this
  obtain ⟨i, hi, hs⟩ := Option.map_eq_some_iff.1 (show (Tabg.prog.info? 5).map (·.size) = some 1 by kernel_rfl)
  rw [this]
  simp [sizeOf, typeInfo, hi, hs, sliced, Addr.add]
set_option maxRecDepth 100000 in
theorem take_empty (x : Addr) (w : World) : Calls Tabg.prog 62 #[.slice (some x) 0 0] w fun e w' => e = .returned (.slice none 0 0) ∧ w = w' := by
  have C1 : Hid (Calls Tabg.prog 122 #[.slice (some x) 0 0] w fun e w' => e = .returned (.slice none 0 0) ∧ w = w') := by
    have := trim_any (some x) 0 0 [] w (RdB.nil _ _) (Nat.le_refl _) (by decide)
    rw [show bv [] = 0 from rfl, dig_zero] at this
    exact this
  have hn := nil87
  have hs := run_slice00 x
  go_enter Tabg.func62, Tabg.ntmps62
  go_wp2_with (fail)
  refine (C1.out).mono ?_
  rintro e w' ⟨rfl, rfl⟩
  go_wp2_with (fail)
  go_ret
  exact ⟨rfl, rfl⟩
theorem take_inp {w : World} {A : Option Addr} {n c : Nat} {ds : List Nat} (h : Inp w A n c ds) (h5 : n ≤ 1024) : Calls Tabg.prog 62 #[.slice A n c] w fun e w' => Res w w' e (bv (ds.take 1024)) := by
  obtain ⟨h1, h2, h3, h4⟩ := h
  by_cases hA : n = 0 ∧ c = 0
  · obtain ⟨rfl, rfl⟩ := hA
    have : ds = [] := List.eq_nil_of_length_eq_zero h1.1.symm
    subst this
    have ht : Calls Tabg.prog 62 #[.slice A 0 0] w fun e w' => e = .returned (.slice none 0 0) ∧ w = w' := by
      cases A with
      | none => exact take_nil w
      | some x => exact take_empty x w
    refine ht.mono ?_
    rintro e w' ⟨rfl, rfl⟩
    refine ⟨w.heap.size, [], ?_, Nat.le_refl _, Up.refl _, fun h => absurd rfl h⟩
    rw [List.take_nil, show bv [] = 0 from rfl, dig_zero]
    rfl
  rcases h2 with (⟨rfl, rfl⟩ | ⟨b, off, rfl⟩) | h2
  · obtain rfl := h4 rfl
    have : ds = [] := List.eq_nil_of_length_eq_zero h1.1.symm
    subst this
    refine (take_nil w).mono ?_
    rintro e w' ⟨rfl, rfl⟩
    refine ⟨w.heap.size, [], ?_, Nat.le_refl _, Up.refl _, fun h => absurd rfl h⟩
    rw [List.take_nil, show bv [] = 0 from rfl, dig_zero]
    rfl
  · exact take_some b off n c ds w h1 h3 (by omega)
  · exact absurd h2 hA

theorem calcTake_any {w : World} {A : Option Addr} {n c : Nat} {ds : List Nat} (h : Inp w A n c ds) : Calls Tabg.prog 160 #[.slice A n c] w fun e w' => Res w w' e (bv (ds.take 512)) := by
  by_cases hlt : 512 < n
  · obtain ⟨h1, h2, h3, h4⟩ := h
    rcases h2 with (⟨rfl, rfl⟩ | ⟨b, off, rfl⟩) | ⟨rfl, _⟩
    · omega
    rotate_left
    · omega
    · have hs := fun w' => run_slice0 (P := Tabg.prog) 24 5 1 Tabg.underlying24 (by kernel_rfl) b off n c 512 512 .i64 .i64 (512 : Int) (512 : Int) rfl rfl (Nat.le_refl _) (by omega) w'
      have C : Hid (Calls Tabg.prog 62 #[.slice (some ⟨b, off, none⟩) 512 512] w fun e w' => Res w w' e (bv (ds.take 512))) := by
        have hh : Inp w (some ⟨b, off, none⟩) 512 512 (ds.take 512) := ⟨h1.take (by omega), Or.inl (Or.inr ⟨b, off, rfl⟩), Nat.le_refl _, nofun⟩
        have := take_inp hh (by decide)
        rwa [List.take_take] at this
      have g : (512 : Int) < (n : Int) := by omega
      have gd : decide ((512 : Int) < (n : Int)) = true := decide_eq_true g
      generalize bv (ds.take 512) = v at *
      clear h1 h3 h4
      go_enter Tabg.func160, Tabg.ntmps160
      go_wp2_with (fail)
      refine (C.out).mono ?_
      rintro e w1 ⟨B, zs, rfl, HF⟩
      have HF' : Hid (w.heap.size ≤ B ∧ Up w w1 ∧ (v ≠ 0 → Own w1 B 5 (u8s zs) ∧ Digs zs ∧ bv zs = v)) := HF
      clear HF
      go_wp2_with (fail)
      go_ret
      exact ⟨B, zs, rfl, HF'.out⟩
  · have C : Hid (Calls Tabg.prog 62 #[.slice A n c] w fun e w' => Res w w' e (bv (ds.take 512))) := by
      have := take_inp h (by omega)
      have hl := h.1.1
      rwa [List.take_of_length_le (by omega), ← List.take_of_length_le (l := ds) (i := 512) (by omega)] at this
    have g : (n : Int) ≤ 512 := by omega
    have gd : decide ((512 : Int) < (n : Int)) = false := decide_eq_false (by omega)
    generalize bv (ds.take 512) = v at *
    clear h
    go_enter Tabg.func160, Tabg.ntmps160
    go_wp2_with (fail)
    refine (C.out).mono ?_
    rintro e w1 ⟨B, zs, rfl, HF⟩
    have HF' : Hid (w.heap.size ≤ B ∧ Up w w1 ∧ (v ≠ 0 → Own w1 B 5 (u8s zs) ∧ Digs zs ∧ bv zs = v)) := HF
    clear HF
    go_wp2_with (fail)
    go_ret
    exact ⟨B, zs, rfl, HF'.out⟩

theorem digits512 (b off n c : Nat) (w : World) (hm : 512 < n) (hc : n ≤ c) :
    Calls Tabg.prog 61 #[.slice (some ⟨b, off, none⟩) n c, .int .i64 512] w fun e w' => e = .returned (.slice (some ⟨b, off, none⟩) 512 512) ∧ w = w' := by
  have hs := fun w' => run_slice0 (P := Tabg.prog) 24 5 1 Tabg.underlying24 (by kernel_rfl) b off n c 512 512 .i64 .i64 512 512 rfl rfl (Nat.le_refl _) (by omega) w'
  have g : (512 : Int) < (n : Int) := by omega
  go_enter Tabg.func61, Tabg.ntmps61
  go_wp2
  go_ret
  exact ⟨rfl, rfl⟩
/-- law's digits: the lowest 512. -/
theorem digits_inp {w : World} {A : Option Addr} {n c : Nat} {ds : List Nat} (h : Inp w A n c ds) :
    ∃ m d, (∀ w', Calls Tabg.prog 61 #[.slice A n c, .int .i64 512] w' fun e w'' => e = .returned (.slice A m d) ∧ w' = w'') ∧ Inp w A m d (ds.take 512) ∧ m ≤ 512 := by
  by_cases hlt : 512 < n
  · obtain ⟨h1, h2, h3, h4⟩ := h
    rcases h2 with (⟨rfl, rfl⟩ | ⟨b, off, rfl⟩) | ⟨rfl, _⟩
    · omega
    · exact ⟨512, 512, fun w' => digits512 b off n c w' hlt h3, ⟨h1.take (by omega), Or.inl (Or.inr ⟨b, off, rfl⟩), Nat.le_refl _, nofun⟩, Nat.le_refl _⟩
    · omega
  · refine ⟨n, c, fun w' => digits_short A n c 512 w' (by omega) (by omega), ?_, by omega⟩
    rw [List.take_of_length_le (by have := h.1.1; omega)]
    exact h

theorem NS.cases {w : World} {a : Option Addr} {n v : Nat} (h : NS w a n v) : (v = 0 ∧ a = none ∧ n = 0) ∨ (v ≠ 0 ∧ ∃ b off, a = some ⟨b, off, none⟩) := by
  by_cases hv : v = 0
  · have := h.2 hv
    exact Or.inl ⟨hv, this, h.nilc this⟩
  · have hl := dig_length_pos hv
    obtain ⟨b, off, e, _⟩ := h.1.2.2 0 hl
    exact Or.inr ⟨hv, b, off, e⟩
theorem copied_any {w : World} {a : Option Addr} {n v : Nat} (h : NS w a n v) (hn : n ≤ 4096) : Calls Tabg.prog 161 #[.slice a n n] w fun e w' => Res w w' e v := by
  rcases h.cases with ⟨rfl, rfl, rfl⟩ | ⟨hv, b, off, rfl⟩
  · refine (copied_nil w).mono ?_
    rintro e w' ⟨rfl, rfl⟩
    refine ⟨w.heap.size, [], ?_, Nat.le_refl _, Up.refl _, fun h => absurd rfl h⟩
    rw [dig_zero]
    rfl
  · have hl := h.len
    refine (copied_some b off n n (dig v) w h.1 hn).mono ?_
    rintro e w' ⟨rfl, hu, ho⟩
    exact ⟨w.heap.size, dig v, by rw [nrmA_pos _ hv, ← hl], Nat.le_refl _, hu, fun _ => ⟨ho, h.1.2.1, bv_dig v⟩⟩
end Go.Proofs.Ygctab
