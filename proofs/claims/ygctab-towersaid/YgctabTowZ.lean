import Derived.Test.YgctabTowY
namespace Go.Proofs.Ygctab
open Go.RowKit
set_option linter.unusedVariables false
set_option linter.unusedSimpArgs false

/-- The engines. -/
def Eng (w : World) (e0 : Nat) : Prop := ∀ j, j < 4 → w.cell? ⟨e0, j, none⟩ = some (.int .u8 ((j : Nat) : Int))

set_option maxRecDepth 100000 in
set_option maxHeartbeats 3200000 in
theorem towerOn_bad (e0 : Nat) (a a' : Option Addr) (n n' c c' : Nat) (w : World) (hE : Eng w e0) (hC : Calls Tabg.prog 75 #[.slice a n c] w fun e w' => e = .returned (.slice a' n' c') ∧ w = w') (hn : 128 < n') (hn2 : n' ≤ 4096) :
    Calls Tabg.prog 13 #[.slice (some ⟨e0, 0, none⟩) 4 4, .slice a n c] w fun e w' => e = .returned (.bool true) ∧ Up w w' := by
  have C0 : Hid (Calls Tabg.prog 75 #[.slice a n c] w fun e w' => e = .returned (.slice a' n' c') ∧ w = w') := hC
  have HE : Hid (Eng w e0) := hE
  have CR : Hid (∀ j w', j < 4 → Calls Tabg.prog 77 #[.int .u8 ((j : Nat) : Int), .slice a' n' c'] w' fun e w'' => e = .returned (.agg #[.bool true, .slice none 0 0, .slice none 0 0]) ∧ Up w' w'') := fun j w' hj => run_bad j hj a' n' c' w' hn hn2
  have CB : Hid (∀ w', Calls Tabg.prog 78 #[.agg #[.bool true, .slice none 0 0, .slice none 0 0]] w' fun e w'' => e = .returned (.bool true) ∧ Up w' w'') := fun w' => onlyBad_yes w'
  have g : (128 : Int) < (n' : Int) := by omega
  have g0 : (0 : Int) < (n' : Int) := by omega
  clear hE hC
  go_enter Tabg.func13, Tabg.ntmps13
  go_wp2_with (fail)
  refine (C0.out).mono ?_
  rintro e w' ⟨rfl, rfl⟩
  have HU0 : Hid (Up w (w.alloc (.cells #[.slice none 0 0, .slice none 0 0] 103))) := (Up.refl w).alloc _
  go_wp2_with (fail)
  refine wp_loop_rounds 1 ?_
  rw [rounds_succ]
  go_wp2_with (fail)
  go_loopw [8] (fun u wr => ∃ j : Nat, u = .int .i64 j ∧ j ≤ 4 ∧ Hid (Up w wr)) (fun u _ => 4 - (intOf u).toNat)
  case atStart => exact ⟨0, rfl, by omega, HU0⟩
  case round =>
    obtain ⟨j, rfl, hj, HU⟩ := hrel
    clear HU0 C0
    have j0 : (0 : Int) ≤ (j : Int) := by omega
    by_cases hlt : j < 4
    · have cj := HU.out.cell (HE.out j hlt)
      have jI : (j : Int) < 4 := by omega
      have CR' := CR.out j wr hlt
      have CR2 : Hid (Calls Tabg.prog 77 #[.int .u8 ((j : Nat) : Int), .slice a' n' c'] wr fun e w'' => e = .returned (.agg #[.bool true, .slice none 0 0, .slice none 0 0]) ∧ Up wr w'') := CR'
      clear CR CR' HE
      go_wp2_with (fail)
      refine (CR2.out).mono ?_
      rintro e w1 ⟨rfl, u1⟩
      have HU1 : Hid (Up w (w1.alloc (.cells #[.bool true, .slice none 0 0, .slice none 0 0] 109))) := (HU.out.trans u1).alloc _
      clear CR2 u1
      go_wp2_with (fail)
      refine (CB.out _).mono ?_
      rintro e w2 ⟨rfl, u2⟩
      have HU2 : Hid (Up w w2) := HU1.out.trans u2
      clear CB u2 HU1
      go_wp2
      go_roundw
      case rel => exact ⟨j + 1, by go_num, by omega, HU2.out⟩
      case measure => simp [intOf]; omega
    · obtain rfl : j = 4 := by omega
      clear CR CB HE
      go_wp2
      go_ret
      exact ⟨rfl, HU.out⟩

/-- The law's own state, while the script goes. -/
def Wnt (w wr : World) (s : Nat) (a o : Option Addr) (n c k oc : Nat) (p : List Nat × List Int) : Prop := Up w wr ∧ w.heap.size ≤ s ∧ Own wr s 103 [.slice a n c, .slice o k oc] ∧ LS wr (.slice a n c) (.slice o k oc) p.1 p.2
theorem Wnt.mono {w wr wf : World} {s : Nat} {a o : Option Addr} {n c k oc : Nat} {p : List Nat × List Int} (h : Wnt w wr s a o n c k oc p) (u : Up wr wf) : Wnt w wf s a o n c k oc p := ⟨h.1.trans u, h.2.1, h.2.2.1.up u, h.2.2.2.keeps u.keeps⟩

set_option maxRecDepth 100000 in
set_option maxHeartbeats 3200000 in
theorem towerOn_good (e0 : Nat) (a : Option Addr) (n c : Nat) (ops : List (Nat × Nat)) (w : World) (hE : Eng w e0) (hS : Scr w a n ops) (hn : n ≤ 128) :
    Calls Tabg.prog 13 #[.slice (some ⟨e0, 0, none⟩) 4 4, .slice a n c] w fun e w' => e = .returned (.bool true) ∧ Up w w' := by
  have C0 : Hid (Calls Tabg.prog 75 #[.slice a n c] w fun e w' => e = .returned (.slice a n c) ∧ w = w') := cutScript_short a n c w (by omega)
  have HE : Hid (Eng w e0) := hE
  have H : Hid (Scr w a n ops) := hS
  have CR : Hid (∀ j w', Up w w' → j < 4 → Calls Tabg.prog 77 #[.int .u8 ((j : Nat) : Int), .slice a n c] w' fun e w'' => ∃ sa o, e = .returned (.agg #[.bool false, .slice sa (runI ops n).1.length (runI ops n).1.length, .slice o (runI ops n).2.length (runI ops n).2.length]) ∧ Up w' w'' ∧ OC w'' sa o (runI ops n).1 (runI ops n).2) := fun j w' hu hj => run_any j hj a n c ops w' (hS.up hu) hn
  have CI : Hid (∀ w' sa o a1 n1 c1 o1 k1 oc1, OC w' sa o (runI ops n).1 (runI ops n).2 → LS w' (.slice a1 n1 c1) (.slice o1 k1 oc1) (runI ops n).1 (runI ops n).2 → Calls Tabg.prog 79 #[.agg #[.bool false, .slice sa (runI ops n).1.length (runI ops n).1.length, .slice o (runI ops n).2.length (runI ops n).2.length], .slice a1 n1 c1, .slice o1 k1 oc1] w' fun e w'' => e = .returned (.bool true) ∧ Up w' w'') := fun w' sa o a1 n1 c1 o1 k1 oc1 h1 h2 => isOutcome_yes h1 h2 (runI_bnd hS n) (by have := runI_out ops n; omega)
  have g : (n : Int) ≤ 128 := by omega
  have g' : decide ((128 : Int) < (n : Int)) = false := decide_eq_false (by omega)
  clear hE hS
  have HW0 : Hid (Wnt w (w.alloc (.cells #[.slice none 0 0, .slice none 0 0] 103)) w.heap.size none none 0 0 0 0 (runI ops 0)) := ⟨(Up.refl w).alloc _, Nat.le_refl _, Own.new w 103 #[.slice none 0 0, .slice none 0 0], LS.nil _⟩
  go_enter Tabg.func13, Tabg.ntmps13
  go_wp2_with (fail)
  refine (C0.out).mono ?_
  rintro e w' ⟨rfl, rfl⟩
  go_wp2_with (fail)
  go_loopw [7] (fun u wr => ∃ i : Nat, u = .int .i64 i ∧ i ≤ n ∧ ∃ a1 n1 c1 o1 k1 oc1, Hid (Wnt w wr w.heap.size a1 o1 n1 c1 k1 oc1 (runI ops i))) (fun u _ => n - (intOf u).toNat)
  case atStart => exact ⟨0, rfl, by omega, none, 0, 0, none, 0, 0, HW0⟩
  case round =>
    obtain ⟨i, rfl, hi, a1, n1, c1, o1, k1, oc1, HW⟩ := hrel
    clear HW0 C0
    have i0 : (0 : Int) ≤ (i : Int) := by omega
    have s0 : wr.cell? ⟨w.heap.size, 0, none⟩ = some (.slice a1 n1 c1) := by rw [HW.out.2.2.1.cell]; rfl
    have s1 : wr.cell? ⟨w.heap.size, 1, none⟩ = some (.slice o1 k1 oc1) := by rw [HW.out.2.2.1.cell]; rfl
    by_cases hlt : i < n
    · obtain ⟨b, off, A, l, cc, ds, rfl, hk, ha, hin, hK, ht⟩ := H.out.2 i hlt
      have hk' := HW.out.1.cell hk
      have ha' := HW.out.1.cell ha
      have iN : (i : Int) < (n : Int) := by omega
      have es := runI_succ (ops := ops) (i := i) (by have := H.out.1; omega)
      have CRW : Hid (Calls Tabg.prog 76 #[.int .u8 0, .agg #[.slice a1 n1 c1, .slice o1 k1 oc1], .agg #[.int .u8 (((ops[i]?.getD (0, 0)).1 : Nat) : Int), .slice A l cc]] wr.drew fun e w' => ∃ a2 n2 c2 o2 k2 oc2, e = .returned (.agg #[.slice a2 n2 c2, .slice o2 k2 oc2]) ∧ (w'.cell? ⟨w.heap.size, 0, none⟩ = some (.slice a1 n1 c1) ∧ w'.cell? ⟨w.heap.size, 1, none⟩ = some (.slice o1 k1 oc1) ∧ w'.frozen? ⟨w.heap.size, 0, none⟩ = false ∧ w'.frozen? ⟨w.heap.size, 1, none⟩ = false) ∧ Hid (Wnt w ((w'.setCell ⟨w.heap.size, 0, none⟩ (.slice a2 n2 c2)).setCell ⟨w.heap.size, 1, none⟩ (.slice o2 k2 oc2)) w.heap.size a2 o2 n2 c2 k2 oc2 (runI ops (i + 1)))) := by
        have hL := HW.out.2.2.2.keeps (Up.keeps ((Up.refl wr).drew))
        have := row_any hL (runI_bnd H.out i) (by have := runI_out ops i; omega) _ hK (hin.up (HW.out.1.drew))
        rw [ht, ← es] at this
        refine this.mono ?_
        rintro e w' ⟨a2, n2, c2, o2, k2, oc2, he, hu, hL2⟩
        have hu2 : Up wr w' := ((Up.refl wr).drew).trans hu
        have ho := HW.out.2.2.1.up hu2
        have ho2 := ho.set 0 (.slice a2 n2 c2)
        exact ⟨a2, n2, c2, o2, k2, oc2, he, ⟨hu2.cell s0, hu2.cell s1, ho.free 0, ho.free 1⟩, ((HW.out.1.trans hu2).setCell (Nat.le_refl _) _).setCell (Nat.le_refl _) _, Nat.le_refl _, ho2.set 1 _, hL2.keeps (((Keeps.refl _).set ho _).set ho2 _)⟩
      generalize (ops[i]?.getD (0, 0)).1 = K at *
      clear es hk ha hin hK ht H HW CR CI HE
      go_wp2_with (fail)
      go_region_with (first | (go_at_call 76; refine (CRW.out).mono ?_; rintro e wL ⟨a2, n2, c2, o2, k2, oc2, rfl, ⟨t0, t1, t2, t3⟩, HL⟩))
      all_goals go_wp2
      all_goals go_roundw
      all_goals first | exact ⟨i + 1, by go_num, by omega, a2, n2, c2, o2, k2, oc2, HL.out⟩ | (simp [intOf]; omega)
    · obtain rfl : i = n := by omega
      clear H
      go_wp2_with (fail)
      go_loopw [8] (fun u wq => ∃ j : Nat, u = .int .i64 j ∧ j ≤ 4 ∧ Hid (Wnt w wq w.heap.size a1 o1 n1 c1 k1 oc1 (runI ops i))) (fun u _ => 4 - (intOf u).toNat)
      case atStart => exact ⟨0, rfl, by omega, HW⟩
      case round =>
        obtain ⟨j, rfl, hj, HQ⟩ := hrel
        clear HW s0 s1
        have j0 : (0 : Int) ≤ (j : Int) := by omega
        by_cases hlj : j < 4
        · have cj := HQ.out.1.cell (HE.out j hlj)
          have jI : (j : Int) < 4 := by omega
          have CR2 : Hid (Calls Tabg.prog 77 #[.int .u8 ((j : Nat) : Int), .slice a i c] wr fun e w'' => ∃ sa o, e = .returned (.agg #[.bool false, .slice sa (runI ops i).1.length (runI ops i).1.length, .slice o (runI ops i).2.length (runI ops i).2.length]) ∧ Up wr w'' ∧ OC w'' sa o (runI ops i).1 (runI ops i).2) := CR.out j wr HQ.out.1 hlj
          clear CR HE
          go_wp2_with (fail)
          refine (CR2.out).mono ?_
          rintro e w1 ⟨sa, o, rfl, u1, hOC⟩
          have HX : Hid (Wnt w (w1.alloc (.cells #[.bool false, .slice sa (runI ops i).1.length (runI ops i).1.length, .slice o (runI ops i).2.length (runI ops i).2.length] 109)) w.heap.size a1 o1 n1 c1 k1 oc1 (runI ops i) ∧ OC (w1.alloc (.cells #[.bool false, .slice sa (runI ops i).1.length (runI ops i).1.length, .slice o (runI ops i).2.length (runI ops i).2.length] 109)) sa o (runI ops i).1 (runI ops i).2) := ⟨(HQ.out.mono u1).mono ((Up.refl _).alloc _), hOC.up ((Up.refl _).alloc _)⟩
          have t0 : w1.cell? ⟨w.heap.size, 0, none⟩ = some (.slice a1 n1 c1) := by rw [(HQ.out.mono u1).2.2.1.cell]; rfl
          have t1 : w1.cell? ⟨w.heap.size, 1, none⟩ = some (.slice o1 k1 oc1) := by rw [(HQ.out.mono u1).2.2.1.cell]; rfl
          have lt := (HQ.out.mono u1).2.2.1.lt
          clear CR2 u1 hOC
          go_wp2_with (fail)
          refine (CI.out _ _ _ _ _ _ _ _ _ HX.out.2 HX.out.1.2.2.2).mono ?_
          rintro e w2 ⟨rfl, u2⟩
          have HX2 : Hid (Wnt w w2 w.heap.size a1 o1 n1 c1 k1 oc1 (runI ops i)) := HX.out.1.mono u2
          clear CI HX HQ t0 t1 lt u2
          go_wp2
          go_roundw
          case rel => exact ⟨j + 1, by go_num, by omega, HX2.out⟩
          case measure => simp [intOf]; omega
        · obtain rfl : j = 4 := by omega
          clear CR CI HE
          go_wp2
          go_ret
          exact ⟨rfl, HQ.out.1⟩

/-- law.Tower is true, and turns nothing. -/
theorem tower_any (a : Option Addr) (n c : Nat) (ops : List (Nat × Nat)) (w : World) (hS : Scr w a n ops) (ha : a = none ∨ ∃ b off, a = some ⟨b, off, none⟩) (hc : n ≤ c) :
    Calls Tabg.prog 3 #[.slice a n c] w fun e w' => e = .returned (.bool true) ∧ Up w w' := by
  have u0 : Up w (w.alloc (.cells #[.int .u8 0, .int .u8 1, .int .u8 2, .int .u8 3] 5)) := (Up.refl w).alloc _
  have hE : Eng (w.alloc (.cells #[.int .u8 0, .int .u8 1, .int .u8 2, .int .u8 3] 5)) w.heap.size := by
    intro j hj
    have ho := Own.new w 5 #[.int .u8 0, .int .u8 1, .int .u8 2, .int .u8 3]
    rw [ho.cell]
    match j, hj with
    | 0, _ => rfl
    | 1, _ => rfl
    | 2, _ => rfl
    | 3, _ => rfl
  have CT : Hid (Calls Tabg.prog 13 #[.slice (some ⟨w.heap.size, 0, none⟩) 4 4, .slice a n c] (w.alloc (.cells #[.int .u8 0, .int .u8 1, .int .u8 2, .int .u8 3] 5)) fun e w' => e = .returned (.bool true) ∧ Up (w.alloc (.cells #[.int .u8 0, .int .u8 1, .int .u8 2, .int .u8 3] 5)) w') := by
    by_cases h1 : n ≤ 128
    · exact towerOn_good w.heap.size a n c ops _ hE (hS.up u0) h1
    · by_cases h2 : n ≤ 129
      · exact towerOn_bad w.heap.size a a n n c c _ hE (cutScript_short a n c _ h2) (by omega) (by omega)
      · have hb : ∃ b off, a = some ⟨b, off, none⟩ := by
          obtain ⟨b, off, _, _, _, _, e, _⟩ := hS.2 0 (by omega)
          exact ⟨b, off, e⟩
        obtain ⟨b, off, rfl⟩ := hb
        exact towerOn_bad w.heap.size _ _ n 129 c 129 _ hE (cutScript_long b off n c _ (by omega) hc) (by omega) (by omega)
  have HU : Hid (Up w (w.alloc (.cells #[.int .u8 0, .int .u8 1, .int .u8 2, .int .u8 3] 5))) := u0
  clear u0 hE hS ha
  go_enter Tabg.func3, Tabg.ntmps3
  go_wp2_with (fail)
  refine (CT.out).mono ?_
  rintro e w1 ⟨rfl, u1⟩
  have HU1 : Hid (Up w w1) := HU.out.trans u1
  clear CT u1
  go_wp2_with (fail)
  go_ret
  exact ⟨rfl, HU1.out⟩
end Go.Proofs.Ygctab
