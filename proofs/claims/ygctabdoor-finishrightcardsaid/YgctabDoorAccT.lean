import Derived.Test.YgctabDoorGrowLaw
import Derived.Deep.WholeRow
namespace Go.Proofs.YgctabDoor
open Go.RowKit
set_option linter.unusedVariables false
set_option linter.unusedSimpArgs false
set_option exponentiation.threshold 6000

theorem size40 : (Tabg.prog.info? 31).map (·.size) = some 68 := by kernel_rfl
theorem under40 : ∃ e, Tabg.prog.underlying 31 = some (.array 68 e) := ⟨29, by kernel_rfl⟩
/-- An accumulator as a value. -/
def accV (xs : List Int) : Value := .agg (ints .u64 xs).toArray

theorem load40 {w : World} {b : Nat} {xs : List Int} (h : AccAt w b xs) : (loadVar 31 ⟨b, 0, none⟩).run Tabg.prog w = .ok (accV xs) w := by
  obtain ⟨e, he⟩ := under40
  exact run_loadVar_row w b 31 31 _ (0, 0) _ h.own he rfl (by rw [size40]; simp [ints_length, h.len])
theorem loadAt40 {w : World} {b : Nat} {xs : List Int} (h : AccAt w b xs) : (Instr.loadAt 31 (.pointer (some ⟨b, 0, none⟩))).run Tabg.prog w = .ok (accV xs) w := by
  simp only [Instr.loadAt, Instr.sureAddr, Sem.run_bind, Sem.run_pure, Result.andThen]
  exact load40 h
theorem ints_one (k : IntKind) (xs : List Int) : (ints k xs).toArray.all (·.oneCell') = true := by
  rw [Array.all_eq_true_iff_forall_mem]
  intro v hv
  simp [ints] at hv
  obtain ⟨x, -, rfl⟩ := hv
  rfl
def setAcc (w : World) (b : Nat) (ys : List Int) : World := w.setRow b (ints .u64 ys).toArray
theorem storeAt40 {w : World} {b : Nat} {xs ys : List Int} (h : AccAt w b xs) (hy : ys.length = 68) : (Instr.storeAt 31 (.pointer (some ⟨b, 0, none⟩)) (accV ys)).run Tabg.prog w = .ok () (setAcc w b ys) := by
  simp only [Instr.storeAt, Instr.sureAddr, Sem.run_bind, Sem.run_pure, Result.andThen]
  exact run_storeVar_row w b 31 31 _ _ h.own (by rw [size40]; simp [ints_length, hy]) (by simp [ints_length, hy, h.len]) (ints_one _ _)
theorem Mod.setAcc {w w' : World} {b : Nat} (h : Mod b w w') (ys : List Int) : Mod b w (setAcc w' b ys) :=
  h.trans ⟨rfl, rfl, rfl, by unfold YgctabDoor.setAcc; rw [setRow_size]; exact Nat.le_refl _, fun k hk hkb => by unfold YgctabDoor.setAcc; rw [setRow_other _ _ _ _ hkb]⟩
theorem AccAt.setAcc {w : World} {b : Nat} {xs ys : List Int} (h : AccAt w b xs) (hy : ys.length = 68) (hw : Words ys) : AccAt (setAcc w b ys) b ys :=
  ⟨setRow_heap w b _ _ 31 (0, 0) h.own, hy, hw⟩

theorem wpList_load40 {ops : Array Oper} {rest : List Oper} {o : Oper} {a : Act} {w : World} {Q : Exit → Act → World → Prop} (hgd : o.guard = none) (x : Operand) (ho : o.op = .load 31 x)
    (b : Nat) (hx : a.eval x = .pointer (some ⟨b, 0, none⟩)) (xs : List Int) (h : AccAt w b xs) (k : wpList Tabg.prog ops Q rest (a.put o.dst (accV xs)) w) : wpList Tabg.prog ops Q (o :: rest) a w := by
  obtain ⟨e, he⟩ := under40
  exact wpList_load_row hgd 31 x ho b hx 31 _ (0, 0) _ h.own he rfl (by rw [size40]; simp [ints_length, h.len]) k
theorem wpList_store40 {ops : Array Oper} {rest : List Oper} {o : Oper} {a : Act} {w : World} {Q : Exit → Act → World → Prop} (hgd : o.guard = none) (x y : Operand) (ho : o.op = .store 31 x y)
    (b : Nat) (hx : a.eval x = .pointer (some ⟨b, 0, none⟩)) (ys : List Int) (hy : a.eval y = accV ys) (hl : ys.length = 68) (xs : List Int) (h : AccAt w b xs) (k : wpList Tabg.prog ops Q rest (a.put o.dst undef) (setAcc w b ys)) : wpList Tabg.prog ops Q (o :: rest) a w :=
  wpList_store_row hgd 31 x y ho b _ hx hy 31 _ h.own (by rw [size40]; simp [ints_length, hl]) (by simp [ints_length, hl, h.len]) (ints_one _ _) k
theorem ret40 {fn : Func} {p : Tmp} (h : fn.results = #[.cell p 31]) (tmps : Array Value) (w : World) (b : Nat) (hp : tmps.getD p undef = .pointer (some ⟨b, 0, none⟩)) (xs : List Int) (hx : AccAt w b xs) :
    (results fn tmps).run Tabg.prog w = .ok (accV xs) w := by
  obtain ⟨e, he⟩ := under40
  exact results_cell_row h tmps w b 31 _ (0, 0) _ hp hx.own he rfl (by rw [size40]; simp [ints_length, hx.len])

set_option maxRecDepth 100000 in
set_option maxHeartbeats 800000 in
theorem accTotal_any (a : Option Addr) (n c : Nat) (ps : List Nat) (w : World) (h : RdF w a n ps) (hn : n ≤ 4096) (hF : ∀ p ∈ ps, Fin64 p) :
    Calls Tabg.prog 6 #[.slice a n c] w fun e w' => ∃ xs, e = .returned (accV xs) ∧ xs.length = 68 ∧ Words xs ∧ num xs = (sumI (vals ps) * 2 ^ 1074) % W ^ 68 ∧ Up w w' := by
  obtain ⟨rfl, h⟩ := h
  have hcI : (ps.length : Int) ≤ 4096 := by omega
  have hA := AccAt.zero' w
  have hB : AccAt ((w.alloc (.cells Z68 31)).alloc (.cells Z68 31)) (w.heap.size + 1) (List.replicate 68 0) := by
    have := AccAt.zero' (w.alloc (.cells Z68 31))
    simpa using this
  go_enter Tabg.func6, Tabg.ntmps6
  go_wp2
  go_loopw [4] (fun t wr => ∃ (i : Nat) (xs : List Int), t = .int .i64 i ∧ i ≤ ps.length ∧ Mod (w.heap.size + 1) ((w.alloc (.cells Z68 31)).alloc (.cells Z68 31)) wr ∧ AccAt wr (w.heap.size + 1) xs ∧ Hid (num xs = (sumI (vals (ps.take i)) * 2 ^ 1074) % W ^ 68)) (fun t _ => ps.length - (intOf t).toNat)
  case atStart => exact ⟨0, _, rfl, by omega, Mod.refl _ _, hB, by show _ = _; rw [num_zeros]; simp [vals, sumI]⟩
  case round =>
    obtain ⟨i, xs, rfl, hi, hm, hx, HV⟩ := hrel
    by_cases hlt : i < ps.length
    · obtain ⟨b, off, rfl, hc⟩ := h i hlt
      have hb : b < w.heap.size := cell_lt hc
      have hc1 := hm.cell (by show b ≠ _; omega) ((((Up.refl w).alloc _).alloc _).cell hc)
      have hpm : ps[i]?.getD 0 ∈ ps := by rw [List.getElem?_eq_getElem hlt]; exact List.getElem_mem hlt
      have hp := hF _ hpm
      have htk : sumI (vals (ps.take (i + 1))) = sumI (vals (ps.take i)) + fval (ps[i]?.getD 0) := by
        rw [List.take_add_one, vals_append, sumI_append, List.getElem?_eq_getElem hlt]; simp [vals, sumI]
      have HT : Hid (sumI (vals (ps.take (i + 1))) = sumI (vals (ps.take i)) + fval (ps[i]?.getD 0)) := htk
      clear hpm hc hF h htk
      generalize ps[i]?.getD 0 = p at *
      have cA := addFloat_yes (w.heap.size + 1) p hp.1 hp.2 xs wr hx
      go_wp2_with (go_at_call 12; refine cA.mono ?_; rintro e w' ⟨rfl, hm2, ys, hy, hyv⟩)
      go_roundw
      case rel =>
        refine ⟨i + 1, ys, by go_num, by omega, hm.trans hm2, hy, ?_⟩
        show _ = _
        rw [hyv, HV.out, HT.out, Int.emod_add_emod, Int.add_mul]
      case measure => simp [intOf]; omega
    · obtain rfl : i = ps.length := by omega
      rw [List.take_of_length_le (Nat.le_refl _)] at HV
      have hA1 : AccAt wr w.heap.size (List.replicate 68 0) := (hA.up ((Up.refl _).alloc _)).mod hm (by omega)
      have hup : Up w (setAcc wr w.heap.size xs) := Up.ofMod (Up.ofMod (((Up.refl w).alloc _).alloc _) hm (by omega)) ((Mod.refl _ wr).setAcc xs) (Nat.le_refl _)
      have HX : Hid (AccAt wr (w.heap.size + 1) xs) := hx
      have HA : Hid (AccAt wr w.heap.size (List.replicate 68 0)) := hA1
      clear hx hA1 hA hB h hF hm
      go_wp2_with (first | (refine wpList_load40 rfl _ rfl (w.heap.size + 1) rfl xs HX.out ?_) | (refine wpList_store40 rfl _ _ rfl w.heap.size rfl xs rfl (AccAt.len HX.out) _ HA.out ?_))
      refine bodyPost_ret (ret40 rfl _ _ w.heap.size rfl xs (AccAt.setAcc HA.out (AccAt.len HX.out) (AccAt.words HX.out))) rfl ?_
      exact ⟨xs, rfl, AccAt.len HX.out, AccAt.words HX.out, HV.out, hup⟩
end Go.Proofs.YgctabDoor
