import Derived.Test.YgctabDig
import Derived.Test.YgctabNttB
namespace Go.Proofs.Ygctab
open Go.RowKit
set_option linter.unusedVariables false
set_option linter.unusedSimpArgs false

/-- Digits as cells. -/
def u8s (ds : List Nat) : List Value := ds.map fun d : Nat => Value.int .u8 (d : Int)
theorem u8s_length (ds : List Nat) : (u8s ds).length = ds.length := by simp [u8s]
theorem u8s_set (ds : List Nat) (i x : Nat) : (u8s ds).set i (.int .u8 (x : Int)) = u8s (ds.set i x) := by simp [u8s, List.map_set]
theorem u8s_at {ds : List Nat} {i : Nat} (h : i < ds.length) : (u8s ds)[i]? = some (.int .u8 ((ds[i]?.getD 0 : Nat) : Int)) := by
  simp [u8s, List.getElem?_eq_getElem h]
theorem u8s_replicate (n x : Nat) : List.replicate n (Value.int .u8 (x : Int)) = u8s (List.replicate n x) := by simp [u8s]
theorem Own.byt {w : World} {b : Nat} {T : TypeId} {ds : List Nat} (h : Own w b T (u8s ds)) {i : Nat} (hi : i < ds.length) :
    w.cell? ⟨b, i, none⟩ = some (.int .u8 ((ds[i]?.getD 0 : Nat) : Int)) := by rw [h.cell, u8s_at hi]
theorem Own.setByt {w : World} {b : Nat} {T : TypeId} {ds : List Nat} (h : Own w b T (u8s ds)) (i x : Nat) :
    Own (w.setCell ⟨b, i, none⟩ (.int .u8 (x : Int))) b T (u8s (ds.set i x)) := by have := h.set i (.int .u8 (x : Int)); rwa [u8s_set] at this

/-- The slice (a, n) reads as the digits ds. -/
def RdB (w : World) (a : Option Addr) (n : Nat) (ds : List Nat) : Prop :=
  n = ds.length ∧ Digs ds ∧ ∀ i, i < ds.length → ∃ b off, a = some ⟨b, off, none⟩ ∧ w.cell? ⟨b, off + i, none⟩ = some (.int .u8 ((ds[i]?.getD 0 : Nat) : Int))
theorem RdB.up {w w' : World} {a : Option Addr} {n : Nat} {ds : List Nat} (h : RdB w a n ds) (u : Up w w') : RdB w' a n ds :=
  ⟨h.1, h.2.1, fun i hi => let ⟨b, off, e, hc⟩ := h.2.2 i hi; ⟨b, off, e, u.cell hc⟩⟩
theorem RdB.nil (w : World) (a : Option Addr) : RdB w a 0 [] := ⟨rfl, Digs.nil, fun i hi => absurd hi (Nat.not_lt_zero _)⟩
theorem Own.rdB {w : World} {b : Nat} {T : TypeId} {ds : List Nat} (h : Own w b T (u8s ds)) (hd : Digs ds) : RdB w (some ⟨b, 0, none⟩) ds.length ds :=
  ⟨rfl, hd, fun i hi => ⟨b, 0, rfl, by rw [Nat.zero_add]; exact h.byt hi⟩⟩
theorem RdB.take {w : World} {a : Option Addr} {n m : Nat} {ds : List Nat} (h : RdB w a n ds) (hm : m ≤ n) : RdB w a m (ds.take m) := by
  have h1 := h.1
  refine ⟨by simp; omega, h.2.1.take m, fun i hi => ?_⟩
  have hi' : i < m := by simp at hi; omega
  obtain ⟨b, off, e, hc⟩ := h.2.2 i (by omega)
  exact ⟨b, off, e, by rw [hc, List.getElem?_take, if_pos hi']⟩
/-- Where a trimmed slice leads. -/
def nrmA (a : Option Addr) (v : Nat) : Option Addr := if v = 0 then none else a
theorem nrmA_zero (a : Option Addr) : nrmA a 0 = none := rfl
theorem nrmA_pos (a : Option Addr) {v : Nat} (h : v ≠ 0) : nrmA a v = a := if_neg h
theorem RdB.nrm {w : World} {a : Option Addr} {n : Nat} {ds : List Nat} (h : RdB w a n ds) : RdB w (nrmA a (bv ds)) (dig (bv ds)).length (dig (bv ds)) := by
  by_cases h0 : bv ds = 0
  · rw [h0, dig_zero]; exact RdB.nil _ _
  · rw [nrmA_pos _ h0]
    have h1 := dig_len h.2.1
    have := h.take (m := (dig (bv ds)).length) (by rw [h.1]; exact h1)
    rwa [← dig_take h.2.1] at this

/-- A slice cut at both ends of its room, from its start. -/
theorem run_slice0 {P : Program} (t e : TypeId) (sz : Nat) (ht : P.underlying t = some (.slice e)) (hz : (P.info? e).map (·.size) = some sz) (b off len cap h m : Nat) (k2 k3 : IntKind) (H M : Int)
    (eH : H = h) (eM : M = m) (h2 : h ≤ m) (h3 : m ≤ cap) (w : World) :
    (Instr.slice t (.slice (some ⟨b, off, none⟩) len cap) none (some (.int k2 H)) (some (.int k3 M))).run P w = .ok (.slice (some ⟨b, off, none⟩) h m) w := by
  subst eH eM
  have ee : P.elem t = e := by simp [Program.elem, ht]
  have ht' : P.underlying t = some (.slice (P.elem t)) := by rw [ee]; exact ht
  rw [run_slice_hm w t _ len cap ht' k2 k3 h m (by omega) (by omega) (by omega), ee]
  cases hq : P.info? e with
  | none => simp [hq] at hz
  | some i =>
    have hi : i.size = sz := by simpa [hq] using hz
    by_cases hm : m = 0 <;> simp [sizeOf, typeInfo, hq, hi, sliced, hm, Addr.add]

set_option maxRecDepth 100000 in
theorem trim_any (a : Option Addr) (n c : Nat) (ds : List Nat) (w : World) (h : RdB w a n ds) (hc : n ≤ c) (hn : n ≤ 4611686018427387904) :
    Calls Tabg.prog 122 #[.slice a n c] w fun e w' => e = .returned (.slice (nrmA a (bv ds)) (dig (bv ds)).length (dig (bv ds)).length) ∧ w = w' := by
  have HD : Hid (n = ds.length ∧ Digs ds) := ⟨h.1, h.2.1⟩
  have HA : Hid (∀ i, i < ds.length → ∃ b off, a = some ⟨b, off, none⟩ ∧ w.cell? ⟨b, off + i, none⟩ = some (.int .u8 ((ds[i]?.getD 0 : Nat) : Int))) := h.2.2
  have hnI : (n : Int) ≤ 4611686018427387904 := by omega
  clear h
  go_enter Tabg.func122, Tabg.ntmps122
  go_wp2
  go_loop [3] (fun u => ∃ j : Nat, u = .int .i64 j ∧ j ≤ n ∧ Hid (∀ i, j ≤ i → i < ds.length → ds[i]?.getD 0 = 0)) (fun u => (intOf u).toNat)
  case atStart => exact ⟨n, rfl, Nat.le_refl _, fun i h1 h2 => by have := HD.out.1; omega⟩
  case round =>
    obtain ⟨j, rfl, hj, HZ⟩ := hrel
    by_cases h0 : j = 0
    · subst h0
      have hv : bv ds = 0 := by
        have := dig_of_cut HD.out.2 (n := 0) (Nat.zero_le _) HZ.out (.inl rfl)
        rw [List.take_zero] at this
        exact dig_nil.1 this
      have HR : Hid ((.slice (nrmA a (bv ds)) (dig (bv ds)).length (dig (bv ds)).length : Value) = .slice none 0 0) := by show _ = _; rw [hv, dig_zero]; rfl
      clear HA HZ hv
      go_wp2
      go_ret
      exact ⟨by rw [HR.out]; rfl, rfl⟩
    · obtain ⟨b, off, rfl, hcell⟩ := HA.out (j - 1) (by have := HD.out.1; omega)
      have jI : (0 : Int) < (j : Int) := by omega
      have e1 : ((j : Int) - 1) = ((j - 1 : Nat) : Int) := by omega
      by_cases hz : ds[j - 1]?.getD 0 = 0
      · rw [hz] at hcell
        clear HA
        have hj1 : ((j - 1 : Nat) : Int) < (n : Int) := by omega
        have hj2 : (0 : Int) ≤ ((j - 1 : Nat) : Int) := by omega
        go_wp2
        go_round
        case rel =>
          refine ⟨j - 1, by go_num, by omega, fun i h1 h2 => ?_⟩
          by_cases hi : i = j - 1
          · rw [hi]; exact hz
          · exact HZ.out i (by omega) h2
        case measure => simp [intOf]; omega
      · have hr := dig_of_cut HD.out.2 (n := j) (by have := HD.out.1; omega) HZ.out (.inr hz)
        have hl : (dig (bv ds)).length = j := by rw [hr, List.length_take, ← HD.out.1]; omega
        have hv : bv ds ≠ 0 := by
          intro h
          rw [h, dig_zero] at hl
          exact h0 (by simpa using hl.symm)
        have HR : Hid ((.slice (nrmA (some ⟨b, off, none⟩) (bv ds)) (dig (bv ds)).length (dig (bv ds)).length : Value) = .slice (some ⟨b, off, none⟩) j j) := by show _ = _; rw [nrmA_pos _ hv, hl]
        generalize ds[j - 1]?.getD 0 = d at *
        have hd : decide ((d : Int) = 0) = false := decide_eq_false (by omega)
        have hd' : decide (d = 0) = false := decide_eq_false hz
        have hd'' : ((d : Int) == 0) = false := by simp; omega
        have hs := fun w' => run_slice0 (P := Tabg.prog) 87 5 1 Tabg.underlying87 (by kernel_rfl) b off n c j j .i64 .i64 (j : Int) (j : Int) rfl rfl (Nat.le_refl _) (by omega) w'
        have hj1 : ((j - 1 : Nat) : Int) < (n : Int) := by omega
        have hj2 : (0 : Int) ≤ ((j - 1 : Nat) : Int) := by omega
        have j0 : decide ((j : Int) = 0) = false := decide_eq_false (by omega)
        have j0' : decide (j = 0) = false := decide_eq_false h0
        have j0'' : ((j : Int) == 0) = false := by simp; omega
        clear HA HZ hr hl hv hz
        go_wp2
        go_ret
        exact ⟨by rw [HR.out]; rfl, rfl⟩

set_option maxRecDepth 100000 in
theorem strip_any (a : Option Addr) (n c : Nat) (ds : List Nat) (w : World) (h : RdB w a n ds) (hc : n ≤ c) (hn : n ≤ 4611686018427387904) :
    Calls Tabg.prog 123 #[.slice a n c] w fun e w' => e = .returned (.slice (nrmA a (bv ds)) (dig (bv ds)).length (dig (bv ds)).length) ∧ w = w' := by
  have HD : Hid (n = ds.length ∧ Digs ds) := ⟨h.1, h.2.1⟩
  have HA : Hid (∀ i, i < ds.length → ∃ b off, a = some ⟨b, off, none⟩ ∧ w.cell? ⟨b, off + i, none⟩ = some (.int .u8 ((ds[i]?.getD 0 : Nat) : Int))) := h.2.2
  have hnI : (n : Int) ≤ 4611686018427387904 := by omega
  clear h
  go_enter Tabg.func123, Tabg.ntmps123
  go_wp2
  go_loop [3] (fun u => ∃ j : Nat, u = .int .i64 j ∧ j ≤ n ∧ Hid (∀ i, j ≤ i → i < ds.length → ds[i]?.getD 0 = 0)) (fun u => (intOf u).toNat)
  case atStart => exact ⟨n, rfl, Nat.le_refl _, fun i h1 h2 => by have := HD.out.1; omega⟩
  case round =>
    obtain ⟨j, rfl, hj, HZ⟩ := hrel
    by_cases h0 : j = 0
    · subst h0
      have hv : bv ds = 0 := by
        have := dig_of_cut HD.out.2 (n := 0) (Nat.zero_le _) HZ.out (.inl rfl)
        rw [List.take_zero] at this
        exact dig_nil.1 this
      have HR : Hid ((.slice (nrmA a (bv ds)) (dig (bv ds)).length (dig (bv ds)).length : Value) = .slice none 0 0) := by show _ = _; rw [hv, dig_zero]; rfl
      clear HA HZ hv
      go_wp2
      go_ret
      exact ⟨by rw [HR.out]; rfl, rfl⟩
    · obtain ⟨b, off, rfl, hcell⟩ := HA.out (j - 1) (by have := HD.out.1; omega)
      have jI : (0 : Int) < (j : Int) := by omega
      have e1 : ((j : Int) - 1) = ((j - 1 : Nat) : Int) := by omega
      by_cases hz : ds[j - 1]?.getD 0 = 0
      · rw [hz] at hcell
        clear HA
        have hj1 : ((j - 1 : Nat) : Int) < (n : Int) := by omega
        have hj2 : (0 : Int) ≤ ((j - 1 : Nat) : Int) := by omega
        go_wp2
        go_round
        case rel =>
          refine ⟨j - 1, by go_num, by omega, fun i h1 h2 => ?_⟩
          by_cases hi : i = j - 1
          · rw [hi]; exact hz
          · exact HZ.out i (by omega) h2
        case measure => simp [intOf]; omega
      · have hr := dig_of_cut HD.out.2 (n := j) (by have := HD.out.1; omega) HZ.out (.inr hz)
        have hl : (dig (bv ds)).length = j := by rw [hr, List.length_take, ← HD.out.1]; omega
        have hv : bv ds ≠ 0 := by
          intro h
          rw [h, dig_zero] at hl
          exact h0 (by simpa using hl.symm)
        have HR : Hid ((.slice (nrmA (some ⟨b, off, none⟩) (bv ds)) (dig (bv ds)).length (dig (bv ds)).length : Value) = .slice (some ⟨b, off, none⟩) j j) := by show _ = _; rw [nrmA_pos _ hv, hl]
        generalize ds[j - 1]?.getD 0 = d at *
        have hd : decide ((d : Int) = 0) = false := decide_eq_false (by omega)
        have hd' : decide (d = 0) = false := decide_eq_false hz
        have hd'' : ((d : Int) == 0) = false := by simp; omega
        have hs := fun w' => run_slice0 (P := Tabg.prog) 87 5 1 Tabg.underlying87 (by kernel_rfl) b off n c j j .i64 .i64 (j : Int) (j : Int) rfl rfl (Nat.le_refl _) (by omega) w'
        have hj1 : ((j - 1 : Nat) : Int) < (n : Int) := by omega
        have hj2 : (0 : Int) ≤ ((j - 1 : Nat) : Int) := by omega
        have j0 : decide ((j : Int) = 0) = false := decide_eq_false (by omega)
        have j0' : decide (j = 0) = false := decide_eq_false h0
        have j0'' : ((j : Int) == 0) = false := by simp; omega
        clear HA HZ hr hl hv hz
        go_wp2
        go_ret
        exact ⟨by rw [HR.out]; rfl, rfl⟩

set_option maxRecDepth 100000 in
theorem knormal_any (a : Option Addr) (n c : Nat) (ds : List Nat) (w : World) (h : RdB w a n ds) (hc : n ≤ c) (hn : n ≤ 4611686018427387904) :
    Calls Tabg.prog 124 #[.slice a n c] w fun e w' => e = .returned (.slice (nrmA a (bv ds)) (dig (bv ds)).length (dig (bv ds)).length) ∧ w = w' := by
  have HD : Hid (n = ds.length ∧ Digs ds) := ⟨h.1, h.2.1⟩
  have HA : Hid (∀ i, i < ds.length → ∃ b off, a = some ⟨b, off, none⟩ ∧ w.cell? ⟨b, off + i, none⟩ = some (.int .u8 ((ds[i]?.getD 0 : Nat) : Int))) := h.2.2
  have hnI : (n : Int) ≤ 4611686018427387904 := by omega
  clear h
  go_enter Tabg.func124, Tabg.ntmps124
  go_wp2
  go_loop [3] (fun u => ∃ j : Nat, u = .int .i64 j ∧ j ≤ n ∧ Hid (∀ i, j ≤ i → i < ds.length → ds[i]?.getD 0 = 0)) (fun u => (intOf u).toNat)
  case atStart => exact ⟨n, rfl, Nat.le_refl _, fun i h1 h2 => by have := HD.out.1; omega⟩
  case round =>
    obtain ⟨j, rfl, hj, HZ⟩ := hrel
    by_cases h0 : j = 0
    · subst h0
      have hv : bv ds = 0 := by
        have := dig_of_cut HD.out.2 (n := 0) (Nat.zero_le _) HZ.out (.inl rfl)
        rw [List.take_zero] at this
        exact dig_nil.1 this
      have HR : Hid ((.slice (nrmA a (bv ds)) (dig (bv ds)).length (dig (bv ds)).length : Value) = .slice none 0 0) := by show _ = _; rw [hv, dig_zero]; rfl
      clear HA HZ hv
      go_wp2
      go_ret
      exact ⟨by rw [HR.out]; rfl, rfl⟩
    · obtain ⟨b, off, rfl, hcell⟩ := HA.out (j - 1) (by have := HD.out.1; omega)
      have jI : (0 : Int) < (j : Int) := by omega
      have e1 : ((j : Int) - 1) = ((j - 1 : Nat) : Int) := by omega
      by_cases hz : ds[j - 1]?.getD 0 = 0
      · rw [hz] at hcell
        clear HA
        have hj1 : ((j - 1 : Nat) : Int) < (n : Int) := by omega
        have hj2 : (0 : Int) ≤ ((j - 1 : Nat) : Int) := by omega
        go_wp2
        go_round
        case rel =>
          refine ⟨j - 1, by go_num, by omega, fun i h1 h2 => ?_⟩
          by_cases hi : i = j - 1
          · rw [hi]; exact hz
          · exact HZ.out i (by omega) h2
        case measure => simp [intOf]; omega
      · have hr := dig_of_cut HD.out.2 (n := j) (by have := HD.out.1; omega) HZ.out (.inr hz)
        have hl : (dig (bv ds)).length = j := by rw [hr, List.length_take, ← HD.out.1]; omega
        have hv : bv ds ≠ 0 := by
          intro h
          rw [h, dig_zero] at hl
          exact h0 (by simpa using hl.symm)
        have HR : Hid ((.slice (nrmA (some ⟨b, off, none⟩) (bv ds)) (dig (bv ds)).length (dig (bv ds)).length : Value) = .slice (some ⟨b, off, none⟩) j j) := by show _ = _; rw [nrmA_pos _ hv, hl]
        generalize ds[j - 1]?.getD 0 = d at *
        have hd : decide ((d : Int) = 0) = false := decide_eq_false (by omega)
        have hd' : decide (d = 0) = false := decide_eq_false hz
        have hd'' : ((d : Int) == 0) = false := by simp; omega
        have hs := fun w' => run_slice0 (P := Tabg.prog) 87 5 1 Tabg.underlying87 (by kernel_rfl) b off n c j j .i64 .i64 (j : Int) (j : Int) rfl rfl (Nat.le_refl _) (by omega) w'
        have hj1 : ((j - 1 : Nat) : Int) < (n : Int) := by omega
        have hj2 : (0 : Int) ≤ ((j - 1 : Nat) : Int) := by omega
        have j0 : decide ((j : Int) = 0) = false := decide_eq_false (by omega)
        have j0' : decide (j = 0) = false := decide_eq_false h0
        have j0'' : ((j : Int) == 0) = false := by simp; omega
        clear HA HZ hr hl hv hz
        go_wp2
        go_ret
        exact ⟨by rw [HR.out]; rfl, rfl⟩

end Go.Proofs.Ygctab
