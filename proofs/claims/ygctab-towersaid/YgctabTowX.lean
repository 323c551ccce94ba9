import Derived.Test.YgctabTowU
import Derived.Test.YgctabTowW
namespace Go.Proofs.Ygctab
open Go.RowKit
set_option linter.unusedVariables false
set_option linter.unusedSimpArgs false

/-- A script: kind and number of each operation, where the slice lies. -/
def Scr (w : World) (a : Option Addr) (n : Nat) (ops : List (Nat × Nat)) : Prop :=
  n = ops.length ∧ ∀ i, i < n → ∃ b off A l c ds, a = some ⟨b, off, none⟩ ∧ w.cell? ⟨b, off + i * 2, none⟩ = some (.int .u8 (((ops[i]?.getD (0, 0)).1 : Nat) : Int)) ∧ w.cell? ⟨b, off + i * 2 + 1, none⟩ = some (.slice A l c) ∧ Inp w A l c ds ∧ (ops[i]?.getD (0, 0)).1 < 256 ∧ bv (ds.take 512) = (ops[i]?.getD (0, 0)).2
theorem Scr.up {w w' : World} {a : Option Addr} {n : Nat} {ops : List (Nat × Nat)} (h : Scr w a n ops) (u : Up w w') : Scr w' a n ops :=
  ⟨h.1, fun i hi => let ⟨b, off, A, l, c, ds, e, h1, h2, h3, h4⟩ := h.2 i hi; ⟨b, off, A, l, c, ds, e, u.cell h1, u.cell h2, h3.up u, h4⟩⟩
theorem Scr.bound {w : World} {a : Option Addr} {n : Nat} {ops : List (Nat × Nat)} (h : Scr w a n ops) : ∀ o ∈ ops, (dig o.2).length ≤ 1024 := fun o ho => by
  obtain ⟨i, hi, e⟩ := List.getElem_of_mem ho
  obtain ⟨b, off, A, l, c, ds, _, _, _, h3, _, h5⟩ := h.2 i (by rw [h.1]; exact hi)
  rw [List.getElem?_eq_getElem hi] at h5
  have e2 : (some ops[i]).getD (0, 0) = o := e
  rw [e2] at h5
  rw [← h5]
  refine Nat.le_trans (dig_len (h3.1.2.1.take 512)) ?_
  simp
  omega
/-- What the first i operations leave. -/
def runI (ops : List (Nat × Nat)) (i : Nat) : List Nat × List Int := runP (ops.take i) [] []
theorem runI_succ {ops : List (Nat × Nat)} {i : Nat} (h : i < ops.length) : runI ops (i + 1) = rowP (ops[i]?.getD (0, 0)).1 (ops[i]?.getD (0, 0)).2 (runI ops i).1 (runI ops i).2 := by
  unfold runI
  rw [List.take_add_one, List.getElem?_eq_getElem h]
  exact runP_snoc _ _ _ _
theorem runI_bnd {w : World} {a : Option Addr} {n : Nat} {ops : List (Nat × Nat)} (h : Scr w a n ops) (i : Nat) : Bnd (runI ops i).1 := runP_bnd _ (fun o ho => h.bound o (List.mem_of_mem_take ho)) _ _ Bnd.nil
theorem runI_out (ops : List (Nat × Nat)) (i : Nat) : (runI ops i).2.length ≤ i := by
  have := runP_out (ops.take i) [] []
  unfold runI
  simp at this
  omega
theorem nil107 (w : World) : (binOp .eql 107 (.slice none 0 0) (.slice none 0 0)).run Tabg.prog w = .ok (.bool true) w := Lib.run_eql_slice_nil (P := Tabg.prog) w 107 24 none 0 0 0 0 (by kernel_rfl)
theorem nil101 (w : World) : (binOp .eql 101 (.slice none 0 0) (.slice none 0 0)).run Tabg.prog w = .ok (.bool true) w := Lib.run_eql_slice_nil (P := Tabg.prog) w 101 50 none 0 0 0 0 (by kernel_rfl)

set_option maxRecDepth 100000 in
theorem onlyBad_yes (w : World) : Calls Tabg.prog 78 #[.agg #[.bool true, .slice none 0 0, .slice none 0 0]] w fun e w' => e = .returned (.bool true) ∧ Up w w' := by
  have h1 := nil107
  have h2 := nil101
  have HU : Hid (Up w (w.alloc (.cells #[.bool true, .slice none 0 0, .slice none 0 0] 109))) := (Up.refl w).alloc _
  go_enter Tabg.func78, Tabg.ntmps78
  go_wp2
  go_ret
  exact ⟨rfl, HU.out⟩

set_option maxRecDepth 100000 in
theorem run_bad (eng : Nat) (he : eng < 4) (a : Option Addr) (n c : Nat) (w : World) (hn : 128 < n) (hn2 : n ≤ 4096) :
    Calls Tabg.prog 77 #[.int .u8 (eng : Int), .slice a n c] w fun e w' => e = .returned (.agg #[.bool true, .slice none 0 0, .slice none 0 0]) ∧ Up w w' := by
  have HU : Hid (Up w (w.alloc (.cells #[.bool true, .slice none 0 0, .slice none 0 0] 109)) ∧ Own (w.alloc (.cells #[.bool true, .slice none 0 0, .slice none 0 0] 109)) w.heap.size 109 [.bool true, .slice none 0 0, .slice none 0 0]) := ⟨(Up.refl w).alloc _, Own.new w 109 #[.bool true, .slice none 0 0, .slice none 0 0]⟩
  have eI : decide ((3 : Int) < (eng : Int)) = false := decide_eq_false (by omega)
  have eI' : (eng : Int) ≤ 3 := by omega
  have g : (128 : Int) < (n : Int) := by omega
  go_enter Tabg.func77, Tabg.ntmps77
  go_wp2_with (fail)
  refine bodyPost_ret (ret109 rfl _ _ _ rfl _ _ _ HU.out.2) rfl ?_
  exact ⟨rfl, HU.out.1⟩

theorem MV.new (w : World) : MV w (w.alloc (.cells #[.slice none 0 0, .slice none 0 0] 164)) w.heap.size [] [] := by
  have hm : Mach w.heap.size (w.alloc (.cells #[.slice none 0 0, .slice none 0 0] 164)) w.heap.size (.slice none 0 0) (.slice none 0 0) [] [] :=
    { le := Nat.le_refl _, own := Own.new w 164 #[.slice none 0 0, .slice none 0 0], st := ⟨rfl, .inl ⟨rfl, rfl⟩⟩, out := ⟨rfl, .inl ⟨rfl, rfl⟩⟩, ent := (fun p hp => nomatch hp), apart := List.Pairwise.nil }
  exact ⟨[], rfl, (Up.refl w).alloc _, _, _, hm⟩

set_option maxRecDepth 100000 in
set_option maxHeartbeats 1600000 in
/-- calc.Run is the table, row by row. -/
theorem run_any (eng : Nat) (he : eng < 4) (a : Option Addr) (n c : Nat) (ops : List (Nat × Nat)) (w : World) (h : Scr w a n ops) (hn : n ≤ 128) :
    Calls Tabg.prog 77 #[.int .u8 (eng : Int), .slice a n c] w fun e w' => ∃ sa o, e = .returned (.agg #[.bool false, .slice sa (runI ops n).1.length (runI ops n).1.length, .slice o (runI ops n).2.length (runI ops n).2.length]) ∧ Up w w' ∧ OC w' sa o (runI ops n).1 (runI ops n).2 := by
  have eI : decide ((3 : Int) < (eng : Int)) = false := decide_eq_false (by omega)
  have eI' : (eng : Int) ≤ 3 := by omega
  have g : (n : Int) ≤ 128 := by omega
  have g' : decide ((128 : Int) < (n : Int)) = false := decide_eq_false (by omega)
  have H : Hid (Scr w a n ops) := h
  have HM : Hid (MV (w.alloc (.cells #[.bool false, .slice none 0 0, .slice none 0 0] 109)) ((w.alloc (.cells #[.bool false, .slice none 0 0, .slice none 0 0] 109)).alloc (.cells #[.slice none 0 0, .slice none 0 0] 164)) (w.heap.size + 1) (runI ops 0).1 (runI ops 0).2) := by
    have := MV.new (w.alloc (.cells #[.bool false, .slice none 0 0, .slice none 0 0] 109))
    simp at this
    exact this
  have HR : Hid (Up w (w.alloc (.cells #[.bool false, .slice none 0 0, .slice none 0 0] 109)) ∧ Own (w.alloc (.cells #[.bool false, .slice none 0 0, .slice none 0 0] 109)) w.heap.size 109 [.bool false, .slice none 0 0, .slice none 0 0]) := ⟨(Up.refl w).alloc _, Own.new w 109 #[.bool false, .slice none 0 0, .slice none 0 0]⟩
  clear h
  go_enter Tabg.func77, Tabg.ntmps77
  go_wp2
  generalize hwA : w.alloc (.cells #[.bool false, .slice none 0 0, .slice none 0 0] 109) = wA at *
  clear hwA
  go_loopw [6] (fun u wr => ∃ i : Nat, u = .int .i64 i ∧ i ≤ n ∧ Hid (MV wA wr (w.heap.size + 1) (runI ops i).1 (runI ops i).2)) (fun u _ => n - (intOf u).toNat)
  case atStart => exact ⟨0, rfl, by omega, HM⟩
  case round =>
    obtain ⟨i, rfl, hi, HW⟩ := hrel
    clear HM
    have hUA : Up wA wr := by obtain ⟨ps, _, h2, _⟩ := HW.out; exact h2
    have hUw : Hid (Up w wr) := HR.out.1.trans hUA
    have i0 : (0 : Int) ≤ (i : Int) := by omega
    by_cases hlt : i < n
    · obtain ⟨b, off, A, l, cc, ds, rfl, hk, ha, hin, hK, ht⟩ := H.out.2 i hlt
      have hk' := hUw.out.cell hk
      have ha' := hUw.out.cell ha
      have iN : (i : Int) < (n : Int) := by omega
      have es := runI_succ (ops := ops) (i := i) (by have := H.out.1; omega)
      have CS := step_any HW.out (runI_bnd H.out i) (by have := runI_out ops i; omega) eng he _ hK (hin.up hUw.out)
      rw [ht, ← es] at CS
      have CS' : Hid (Calls Tabg.prog 135 #[.int .u8 (eng : Int), .pointer (some ⟨w.heap.size + 1, 0, none⟩), .agg #[.int .u8 (((ops[i]?.getD (0, 0)).1 : Nat) : Int), .slice A l cc]] wr fun e w' => e = .returned (.tuple #[]) ∧ MV wA w' (w.heap.size + 1) (runI ops (i + 1)).1 (runI ops (i + 1)).2) := CS
      generalize (ops[i]?.getD (0, 0)).1 = K at *
      clear CS es hk ha hin hK ht H HR HW hUA hUw
      go_wp2_with (fail)
      refine (CS'.out).mono ?_
      rintro e w1 ⟨rfl, h1⟩
      have HW1 : Hid (MV wA w1 (w.heap.size + 1) (runI ops (i + 1)).1 (runI ops (i + 1)).2) := h1
      clear CS' h1
      go_wp2
      go_roundw
      case rel => exact ⟨i + 1, by go_num, by omega, HW1.out⟩
      case measure => simp [intOf]; omega
    · obtain rfl : i = n := by omega
      have CO : Hid (Calls Tabg.prog 136 #[.pointer (some ⟨w.heap.size + 1, 0, none⟩)] wr fun e w' => ∃ sa o, e = .returned (.agg #[.bool false, .slice sa (runI ops i).1.length (runI ops i).1.length, .slice o (runI ops i).2.length (runI ops i).2.length]) ∧ Up wr w' ∧ ∀ wf, Keeps9 w' wf → OC wf sa o (runI ops i).1 (runI ops i).2) := outcome_any HW.out (runI_bnd H.out i) (by have := runI_out ops i; omega)
      have HR1 : Hid (Own wr w.heap.size 109 [.bool false, .slice none 0 0, .slice none 0 0]) := HR.out.2.up hUA
      clear H HR HW hUA
      go_wp2_with (fail)
      refine (CO.out).mono ?_
      rintro e w1 ⟨sa, o, rfl, u1, hOC⟩
      have HR2 := HR1.out.up u1
      have d0 : w1.cell? ⟨w.heap.size, 0, none⟩ = some (.bool false) := by rw [HR2.cell]; rfl
      have d1 : w1.cell? ⟨w.heap.size, 1, none⟩ = some (.slice none 0 0) := by rw [HR2.cell]; rfl
      have d2 : w1.cell? ⟨w.heap.size, 2, none⟩ = some (.slice none 0 0) := by rw [HR2.cell]; rfl
      have f0 := HR2.free 0
      have f1 := HR2.free 1
      have f2 := HR2.free 2
      have HE : Hid (Own (((w1.setCell ⟨w.heap.size, 0, none⟩ (.bool false)).setCell ⟨w.heap.size, 1, none⟩ (.slice sa (runI ops i).1.length (runI ops i).1.length)).setCell ⟨w.heap.size, 2, none⟩ (.slice o (runI ops i).2.length (runI ops i).2.length)) w.heap.size 109 [.bool false, .slice sa (runI ops i).1.length (runI ops i).1.length, .slice o (runI ops i).2.length (runI ops i).2.length]) := ((HR2.set 0 _).set 1 _).set 2 _
      have HF : Hid (Up w (((w1.setCell ⟨w.heap.size, 0, none⟩ (.bool false)).setCell ⟨w.heap.size, 1, none⟩ (.slice sa (runI ops i).1.length (runI ops i).1.length)).setCell ⟨w.heap.size, 2, none⟩ (.slice o (runI ops i).2.length (runI ops i).2.length)) ∧ OC (((w1.setCell ⟨w.heap.size, 0, none⟩ (.bool false)).setCell ⟨w.heap.size, 1, none⟩ (.slice sa (runI ops i).1.length (runI ops i).1.length)).setCell ⟨w.heap.size, 2, none⟩ (.slice o (runI ops i).2.length (runI ops i).2.length)) sa o (runI ops i).1 (runI ops i).2) := by
        refine ⟨(((hUw.out.trans u1).setCell (Nat.le_refl _) _).setCell (Nat.le_refl _) _).setCell (Nat.le_refl _) _, hOC _ (fun T x ys hT hx => ?_)⟩
        have hne := hx.ne HR2 hT
        exact ((hx.other hne _).other hne _).other hne _
      clear CO HR1 HR2 hOC u1 hUw
      go_wp2_with (fail)
      refine bodyPost_ret (ret109 rfl _ _ _ rfl _ _ _ HE.out) rfl ?_
      exact ⟨sa, o, rfl, HF.out⟩
end Go.Proofs.Ygctab
