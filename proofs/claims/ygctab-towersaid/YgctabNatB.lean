import Derived.Test.YgctabNatA
import Derived.Laws.CopyOwn
import Derived.Lib.SliceRun
namespace Go.Proofs.Ygctab
open Go.RowKit
set_option linter.unusedVariables false
set_option linter.unusedSimpArgs false

theorem splice_all (cur ds : List Nat) (h : cur.length = ds.length) : splice cur 0 ds = ds := by
  simp [splice, ← h]
theorem u8s_splice (cur ds : List Nat) (off : Nat) : splice (u8s cur) off (u8s ds) = u8s (splice cur off ds) := by
  simp [splice, u8s]

/-- copy of digits into a row of the call's own. -/
theorem wpList_copyB {w : World} {ops : Array Oper} {rest : List Oper} {o : Oper} {a : Act} {Q : Exit → Act → World → Prop} (hgd : o.guard = none) (d s : Operand) (dT sT : TypeId)
    (ho : o.op = .call { callee := .builtin .copy, args := #[d, s], argTypes := #[dT, sT] }) (hu : Tabg.prog.underlying dT = some (.slice 5))
    (sp : Option Addr) (dLen dCap sLen sCap : Nat) (g off : Nat) (hd : a.eval d = .slice (some ⟨g, off, none⟩) dLen dCap) (hs : a.eval s = .slice sp sLen sCap)
    (cur ds : List Nat) (t : TypeId) (hg : Own w g t (u8s cur)) (hr : RdB w sp sLen ds) (hle : sLen ≤ dLen)
    (hfit : off + sLen ≤ cur.length) (w0 : World) (hb : Up w0 w) (hBg : w0.heap.size ≤ g)
    (h : ∀ w', Hid (Own w' g t (u8s (splice cur off ds))) → Hid (Up w0 w') → wpList Tabg.prog ops Q rest (a.put o.dst (goInt ds.length)) w') :
    wpList Tabg.prog ops Q (o :: rest) a w := by
  have hl := hr.1
  have hl2 : (u8s ds).length = ds.length := u8s_length ds
  refine wpList_copy_splice hgd d s dT sT ho 5 hu (by kernel_rfl) (some ⟨g, off, none⟩) sp dLen dCap sLen sCap hd hs g off (u8s cur) t hg (u8s ds) ?_ ?_ ?_ ?_ w0.heap.size w0 hb hBg ?_
  · rw [hl2, hl]
    exact (Nat.min_eq_left (by omega)).symm
  · intro hp
    refine ⟨rfl, ?_⟩
    rw [hl2] at hp
    obtain ⟨b, off', e, _⟩ := hr.2.2 0 hp
    refine ⟨⟨b, off', none⟩, e, fun j v hv => ?_⟩
    have hj : j < ds.length := by
      have := (List.getElem?_eq_some_iff.1 hv).1
      omega
    rw [u8s_at hj] at hv
    obtain ⟨b2, off2, e2, hc⟩ := hr.2.2 j hj
    rw [e] at e2
    cases e2
    rw [← Option.some.inj hv]
    have hadd : (⟨b, off', none⟩ : Addr).add j = ⟨b, off' + j, none⟩ := by unfold Addr.add; split <;> simp_all
    rw [hadd]
    exact hc
  · rw [hl2, u8s_length, ← hl]; exact hfit
  · intro v hv
    simp only [u8s, List.mem_map] at hv
    obtain ⟨x, _, rfl⟩ := hv
    rfl
  · intro w' hw hb'
    rw [hl2]
    exact h w' (by have := hw.out; rw [u8s_splice] at this; exact this) hb'

theorem nil87 (w : World) : (binOp .eql 87 (.slice none 0 0) (.slice none 0 0)).run Tabg.prog w = .ok (.bool true) w := Lib.run_eql_slice_nil (P := Tabg.prog) w 87 5 none 0 0 0 0 Tabg.underlying87
theorem nil24 (w : World) : (binOp .eql 24 (.slice none 0 0) (.slice none 0 0)).run Tabg.prog w = .ok (.bool true) w := Lib.run_eql_slice_nil (P := Tabg.prog) w 24 5 none 0 0 0 0 Tabg.underlying24
theorem some87 (b off n c : Nat) (w : World) : (binOp .eql 87 (.slice (some ⟨b, off, none⟩) n c) (.slice none 0 0)).run Tabg.prog w = .ok (.bool false) w := Lib.run_eql_slice_nil (P := Tabg.prog) w 87 5 (some ⟨b, off, none⟩) n c 0 0 Tabg.underlying87
theorem some24 (b off n c : Nat) (w : World) : (binOp .eql 24 (.slice (some ⟨b, off, none⟩) n c) (.slice none 0 0)).run Tabg.prog w = .ok (.bool false) w := Lib.run_eql_slice_nil (P := Tabg.prog) w 24 5 (some ⟨b, off, none⟩) n c 0 0 Tabg.underlying24

set_option maxRecDepth 100000 in
theorem ownNat_nil (w : World) : Calls Tabg.prog 60 #[.slice none 0 0] w fun e w' => e = .returned (.slice none 0 0) ∧ w = w' := by
  have hn := nil24
  go_enter Tabg.func60, Tabg.ntmps60
  go_wp2
  go_ret
  exact ⟨rfl, rfl⟩

set_option maxRecDepth 100000 in
theorem ownNat_some (b off n c : Nat) (ds : List Nat) (w : World) (h : RdB w (some ⟨b, off, none⟩) n ds) (hn : n ≤ 4096) :
    Calls Tabg.prog 60 #[.slice (some ⟨b, off, none⟩) n c] w fun e w' => e = .returned (.slice (some ⟨w.heap.size, 0, none⟩) n n) ∧ Up w w' ∧ Own w' w.heap.size 5 (u8s ds) := by
  have hmk := fun w => run_make_row' (P := Tabg.prog) 87 5 (.int .u8 0) 1 Tabg.underlying87 (by kernel_rfl) rfl .i64 .i64 n (by omega) (by omega) w
  have hO := Own.made w 5 (.int .u8 0) n
  have e0 : List.replicate n (Value.int .u8 0) = u8s (List.replicate n 0) := u8s_replicate n 0
  rw [e0] at hO
  have HO : Hid (Own (w.alloc (.cells (madeCells #[.int .u8 0] n) 5)) w.heap.size 5 (u8s (List.replicate n 0))) := hO
  have HR : Hid (RdB w (some ⟨b, off, none⟩) n ds) := h
  have hnI : (n : Int) ≤ 4096 := by omega
  have hnl := some24 b off n c
  clear hO h e0
  go_enter Tabg.func60, Tabg.ntmps60
  go_wp2_with (refine wpList_copyB rfl (.tmp 9) (.tmp 10) 87 24 rfl Tabg.underlying87 (some ⟨b, off, none⟩) n n n c w.heap.size 0 rfl rfl (List.replicate n 0) ds 5 HO.out ((HR.out).up ((Up.refl w).alloc _)) (Nat.le_refl _) (by simp) w ((Up.refl w).alloc _) (Nat.le_refl _) ?_; intro w' hw hb)
  go_ret
  refine ⟨rfl, hb.out, ?_⟩
  have := hw.out
  rwa [splice_all _ _ (by simp; exact (HR.out).1)] at this

/-- nil, or a last digit that is not 0. -/
def nrmB (a : Option Addr) (ds : List Nat) : Bool := a.isNone || (decide (ds.length ≠ 0) && decide (ds[ds.length - 1]?.getD 0 ≠ 0))

set_option maxRecDepth 100000 in
theorem Normal_any (a : Option Addr) (n c : Nat) (ds : List Nat) (w : World) (h : RdB w a n ds) (hn : n ≤ 4611686018427387904) (h0 : a = none → n = 0 ∧ c = 0) :
    Calls Tabg.prog 63 #[.slice a n c] w fun e w' => e = .returned (.bool (nrmB a ds)) ∧ w = w' := by
  have hl := h.1
  by_cases ha : a = none
  · subst ha
    obtain ⟨rfl, rfl⟩ := h0 rfl
    have hnl := nil87
    have HR : Hid (nrmB none ds = true) := rfl
    clear h h0 hl hn
    go_enter Tabg.func63, Tabg.ntmps63
    go_wp2
    go_ret
    exact ⟨by rw [HR.out]; rfl, rfl⟩
  · obtain ⟨x, rfl⟩ : ∃ x, a = some x := by cases a with
      | none => exact absurd rfl ha
      | some x => exact ⟨x, rfl⟩
    have hnl : ∀ w : World, (binOp .eql 87 (.slice (some x) n c) (.slice none 0 0)).run Tabg.prog w = .ok (.bool false) w := fun w => Lib.run_eql_slice_nil (P := Tabg.prog) w 87 5 (some x) n c 0 0 Tabg.underlying87
    by_cases hz : n = 0
    · subst hz
      have HR : Hid (nrmB (some x) ds = false) := by show _ = _; unfold nrmB; rw [← hl]; rfl
      clear h h0 hl
      go_enter Tabg.func63, Tabg.ntmps63
      go_wp2
      go_ret
      exact ⟨by rw [HR.out]; rfl, rfl⟩
    · obtain ⟨b, off, e, hc⟩ := h.2.2 (n - 1) (by omega)
      cases e
      have HR : Hid (nrmB (some ⟨b, off, none⟩) ds = decide (ds[n - 1]?.getD 0 ≠ 0)) := by
        show _ = _
        unfold nrmB
        rw [← hl]
        simp [hz]
      generalize ds[n - 1]?.getD 0 = d at *
      have e1 : ((n : Int) - 1) = ((n - 1 : Nat) : Int) := by omega
      have hz1 : decide ((n : Int) = 0) = false := decide_eq_false (by omega)
      have hz2 : decide (n = 0) = false := decide_eq_false hz
      have hz3 : ((n : Int) == 0) = false := by simp; omega
      have hz4 : (0 : Int) < (n : Int) := by omega
      have i1 : ((n - 1 : Nat) : Int) < (n : Int) := by omega
      have i0 : (0 : Int) ≤ ((n - 1 : Nat) : Int) := by omega
      clear h h0 hl
      by_cases hd : d = 0
      · subst hd
        go_enter Tabg.func63, Tabg.ntmps63
        go_wp2
        go_ret
        exact ⟨by rw [HR.out]; rfl, rfl⟩
      · have d1 : decide ((d : Int) = 0) = false := decide_eq_false (by omega)
        have d2 : decide (d = 0) = false := decide_eq_false hd
        have d3 : ((d : Int) == 0) = false := by simp; omega
        have d4 : ((d : Int) != 0) = true := by simp; omega
        have HR2 : Hid (nrmB (some ⟨b, off, none⟩) ds = true) := by show _ = _; rw [HR.out]; simp [hd]
        clear HR
        go_enter Tabg.func63, Tabg.ntmps63
        go_wp2
        go_ret
        exact ⟨by rw [HR2.out]; rfl, rfl⟩

set_option maxRecDepth 100000 in
theorem lnormal_any (a : Option Addr) (n c : Nat) (ds : List Nat) (w : World) (h : RdB w a n ds) (hn : n ≤ 4611686018427387904) (h0 : a = none → n = 0 ∧ c = 0) :
    Calls Tabg.prog 64 #[.slice a n c] w fun e w' => e = .returned (.bool (nrmB a ds)) ∧ w = w' := by
  have hl := h.1
  by_cases ha : a = none
  · subst ha
    obtain ⟨rfl, rfl⟩ := h0 rfl
    have hnl := nil87
    have HR : Hid (nrmB none ds = true) := rfl
    clear h h0 hl hn
    go_enter Tabg.func64, Tabg.ntmps64
    go_wp2
    go_ret
    exact ⟨by rw [HR.out]; rfl, rfl⟩
  · obtain ⟨x, rfl⟩ : ∃ x, a = some x := by cases a with
      | none => exact absurd rfl ha
      | some x => exact ⟨x, rfl⟩
    have hnl : ∀ w : World, (binOp .eql 87 (.slice (some x) n c) (.slice none 0 0)).run Tabg.prog w = .ok (.bool false) w := fun w => Lib.run_eql_slice_nil (P := Tabg.prog) w 87 5 (some x) n c 0 0 Tabg.underlying87
    by_cases hz : n = 0
    · subst hz
      have HR : Hid (nrmB (some x) ds = false) := by show _ = _; unfold nrmB; rw [← hl]; rfl
      clear h h0 hl
      go_enter Tabg.func64, Tabg.ntmps64
      go_wp2
      go_ret
      exact ⟨by rw [HR.out]; rfl, rfl⟩
    · obtain ⟨b, off, e, hc⟩ := h.2.2 (n - 1) (by omega)
      cases e
      have HR : Hid (nrmB (some ⟨b, off, none⟩) ds = decide (ds[n - 1]?.getD 0 ≠ 0)) := by
        show _ = _
        unfold nrmB
        rw [← hl]
        simp [hz]
      generalize ds[n - 1]?.getD 0 = d at *
      have e1 : ((n : Int) - 1) = ((n - 1 : Nat) : Int) := by omega
      have hz1 : decide ((n : Int) = 0) = false := decide_eq_false (by omega)
      have hz2 : decide (n = 0) = false := decide_eq_false hz
      have hz3 : ((n : Int) == 0) = false := by simp; omega
      have hz4 : (0 : Int) < (n : Int) := by omega
      have i1 : ((n - 1 : Nat) : Int) < (n : Int) := by omega
      have i0 : (0 : Int) ≤ ((n - 1 : Nat) : Int) := by omega
      clear h h0 hl
      by_cases hd : d = 0
      · subst hd
        go_enter Tabg.func64, Tabg.ntmps64
        go_wp2
        go_ret
        exact ⟨by rw [HR.out]; rfl, rfl⟩
      · have d1 : decide ((d : Int) = 0) = false := decide_eq_false (by omega)
        have d2 : decide (d = 0) = false := decide_eq_false hd
        have d3 : ((d : Int) == 0) = false := by simp; omega
        have d4 : ((d : Int) != 0) = true := by simp; omega
        have HR2 : Hid (nrmB (some ⟨b, off, none⟩) ds = true) := by show _ = _; rw [HR.out]; simp [hd]
        clear HR
        go_enter Tabg.func64, Tabg.ntmps64
        go_wp2
        go_ret
        exact ⟨by rw [HR2.out]; rfl, rfl⟩

set_option maxRecDepth 100000 in
theorem sameNat_yes (a a' : Option Addr) (n c c' : Nat) (ds : List Nat) (w : World) (h : RdB w a n ds) (h' : RdB w a' n ds) (hn : n ≤ 4611686018427387904) (ha : a.isNone = a'.isNone) :
    Calls Tabg.prog 74 #[.slice a n c, .slice a' n c'] w fun e w' => e = .returned (.bool true) ∧ Up w w' := by
  have e1 : ∀ w : World, (binOp .eql 87 (.slice a n c) (.slice none 0 0)).run Tabg.prog w = .ok (.bool a.isNone) w := fun w => Lib.run_eql_slice_nil (P := Tabg.prog) w 87 5 a n c 0 0 Tabg.underlying87
  have e2 : ∀ w : World, (binOp .eql 87 (.slice a' n c') (.slice none 0 0)).run Tabg.prog w = .ok (.bool a.isNone) w := fun w => by rw [ha]; exact Lib.run_eql_slice_nil (P := Tabg.prog) w 87 5 a' n c' 0 0 Tabg.underlying87
  generalize hq : a.isNone = q at *
  have HA : Hid (∀ i, i < n → ∃ b off, a = some ⟨b, off, none⟩ ∧ w.cell? ⟨b, off + i, none⟩ = some (.int .u8 ((ds[i]?.getD 0 : Nat) : Int))) := fun i hi => h.2.2 i (by rw [← h.1]; exact hi)
  have HB : Hid (∀ i, i < n → ∃ b off, a' = some ⟨b, off, none⟩ ∧ w.cell? ⟨b, off + i, none⟩ = some (.int .u8 ((ds[i]?.getD 0 : Nat) : Int))) := fun i hi => h'.2.2 i (by rw [← h'.1]; exact hi)
  clear h h' ha hq
  go_enter Tabg.func74, Tabg.ntmps74
  go_wp2
  go_loopw [5] (fun u wr => ∃ i : Nat, u = .int .i64 i ∧ i ≤ n ∧ Hid (Up w wr)) (fun u _ => n - (intOf u).toNat)
  case atStart => exact ⟨0, rfl, by omega, Up.refl _⟩
  case round =>
    obtain ⟨i, rfl, hi, HU⟩ := hrel
    clear e1 e2
    by_cases hlt : i < n
    · obtain ⟨b, off, rfl, hc⟩ := HA.out i hlt
      obtain ⟨b', off', rfl, hc'⟩ := HB.out i hlt
      replace hc := (HU.out).cell hc
      replace hc' := (HU.out).cell hc'
      generalize ds[i]?.getD 0 = d at *
      clear HA HB
      have i0 : (0 : Int) ≤ (i : Int) := by omega
      have im : (i : Int) < (n : Int) := by omega
      go_wp2
      go_quiet (fail)
      go_wp2
      go_roundw
      case rel => exact ⟨i + 1, by go_num, by omega, (HU.out).drewN _⟩
      case measure => simp [intOf]; omega
    · obtain rfl : n = i := by omega
      clear HA HB
      go_wp2
      go_ret
      exact ⟨rfl, HU.out⟩

/-- A slice that holds a number in normal form. -/
def NS (w : World) (a : Option Addr) (n v : Nat) : Prop := RdB w a n (dig v) ∧ (v = 0 → a = none)
theorem NS.up {w w' : World} {a : Option Addr} {n v : Nat} (h : NS w a n v) (u : Up w w') : NS w' a n v := ⟨h.1.up u, h.2⟩
theorem NS.isn {w : World} {a : Option Addr} {n v : Nat} (h : NS w a n v) : a.isNone = decide (v = 0) := by
  by_cases hv : v = 0
  · rw [h.2 hv]; simp [hv]
  · obtain ⟨b, off, e, _⟩ := h.1.2.2 0 (dig_length_pos hv)
    rw [e]; simp [hv]
theorem NS.len {w : World} {a : Option Addr} {n v : Nat} (h : NS w a n v) : n = (dig v).length := h.1.1
theorem NS.ofNrm {w : World} {a : Option Addr} {n : Nat} {ds : List Nat} (h : RdB w a n ds) : NS w (nrmA a (bv ds)) (dig (bv ds)).length (bv ds) := ⟨h.nrm, fun h0 => by rw [h0]; rfl⟩
theorem NS.nrmB {w : World} {a : Option Addr} {n v : Nat} (h : NS w a n v) : nrmB a (dig v) = true := by
  unfold Ygctab.nrmB
  rw [h.isn]
  by_cases hv : v = 0
  · simp [hv]
  · have h1 := dig_length_pos hv
    have h2 := dig_top hv
    simp only [decide_eq_true (show (dig v).length ≠ 0 by omega), decide_eq_true h2, Bool.and_self, Bool.or_true]
theorem NS.zero (w : World) : NS w none 0 0 := ⟨by rw [dig_zero]; exact RdB.nil _ _, fun _ => rfl⟩
theorem NS.nilc {w : World} {a : Option Addr} {n v : Nat} (h : NS w a n v) (ha : a = none) : n = 0 := by
  have h1 := h.isn
  rw [ha] at h1
  have hv : v = 0 := by simpa using h1
  rw [h.len, hv, dig_zero]; rfl

set_option maxRecDepth 100000 in
theorem answers_yes (a a' : Option Addr) (n n' c c' v : Nat) (w : World) (h : NS w a n v) (h' : NS w a' n' v) (hn : n ≤ 4611686018427387904) (hc : a = none → c = 0) :
    Calls Tabg.prog 66 #[.slice a n c, .slice a' n' c'] w fun e w' => e = .returned (.bool true) ∧ Up w w' := by
  have hnn : n' = n := by rw [h'.len, h.len]
  subst hnn
  have C1 : Hid (Calls Tabg.prog 74 #[.slice a n' c, .slice a' n' c'] w fun e w' => e = .returned (.bool true) ∧ Up w w') := sameNat_yes a a' n' c c' (dig v) w h.1 h'.1 hn (by rw [h.isn, h'.isn])
  have C2 : Hid (∀ w', Up w w' → Calls Tabg.prog 64 #[.slice a n' c] w' fun e w'' => e = .returned (.bool true) ∧ w' = w'') := fun w' hu => by
    have := lnormal_any a n' c (dig v) w' (h.1.up hu) hn (fun ha => ⟨h.nilc ha, hc ha⟩)
    rwa [h.nrmB] at this
  have C3 : Hid (∀ w', Up w w' → Calls Tabg.prog 63 #[.slice a n' c] w' fun e w'' => e = .returned (.bool true) ∧ w' = w'') := fun w' hu => by
    have := Normal_any a n' c (dig v) w' (h.1.up hu) hn (fun ha => ⟨h.nilc ha, hc ha⟩)
    rwa [h.nrmB] at this
  clear h h'
  go_enter Tabg.func66, Tabg.ntmps66
  go_wp2_with (fail)
  refine (C1.out).mono ?_
  rintro e w1 ⟨rfl, hu⟩
  have HU : Hid (Up w w1) := hu
  clear hu
  go_wp2_with (fail)
  refine (C2.out _ HU.out).mono ?_
  rintro e w' ⟨rfl, rfl⟩
  go_wp2_with (fail)
  refine (C3.out _ HU.out).mono ?_
  rintro e w' ⟨rfl, rfl⟩
  go_wp2_with (fail)
  go_ret
  exact ⟨rfl, HU.out⟩

/-- digits: the slice, or its first 1024. -/
theorem digits_long (b off n c m : Nat) (w : World) (hm : m < n) (hc : n ≤ c) (hn : n ≤ 4611686018427387904) :
    Calls Tabg.prog 61 #[.slice (some ⟨b, off, none⟩) n c, .int .i64 m] w fun e w' => e = .returned (.slice (some ⟨b, off, none⟩) m m) ∧ w = w' := by
  have hs := fun w' => run_slice0 (P := Tabg.prog) 24 5 1 Tabg.underlying24 (by kernel_rfl) b off n c m m .i64 .i64 (m : Int) (m : Int) rfl rfl (Nat.le_refl _) (by omega) w'
  have g : (m : Int) < (n : Int) := by omega
  go_enter Tabg.func61, Tabg.ntmps61
  go_wp2
  go_ret
  exact ⟨rfl, rfl⟩
theorem digits_short (a : Option Addr) (n c m : Nat) (w : World) (hm : n ≤ m) (hn : n ≤ 4611686018427387904) :
    Calls Tabg.prog 61 #[.slice a n c, .int .i64 m] w fun e w' => e = .returned (.slice a n c) ∧ w = w' := by
  have g : decide ((m : Int) < (n : Int)) = false := decide_eq_false (by omega)
  have g' : (n : Int) ≤ (m : Int) := by omega
  go_enter Tabg.func61, Tabg.ntmps61
  go_wp2
  go_ret
  exact ⟨rfl, rfl⟩

end Go.Proofs.Ygctab
