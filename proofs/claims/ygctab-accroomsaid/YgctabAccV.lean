import Derived.Test.YgctabRoom
namespace Go.Proofs.Ygctab
open Go.RowKit
set_option linter.unusedVariables false
set_option linter.unusedSimpArgs false
set_option exponentiation.threshold 6000

/-- A row of 68 words. -/
def Row (xs : List Int) : Prop := xs.length = 68 ∧ Words xs
theorem AccAt.box (w : World) {xs : List Int} (h : Row xs) : AccAt (w.alloc (.cells (ints .u64 xs).toArray 40)) w.heap.size xs :=
  ⟨by have := Own.new w 40 (ints .u64 xs).toArray; simpa using this, h.1, h.2⟩
theorem AccAt.row {w : World} {b : Nat} {xs : List Int} (h : AccAt w b xs) : Row xs := ⟨h.len, h.words⟩
theorem AccAt.lt {w : World} {b : Nat} {xs : List Int} (h : AccAt w b xs) : b < w.heap.size := h.own.lt

set_option maxRecDepth 100000 in
set_option maxHeartbeats 800000 in
theorem negV_any (xs : List Int) (w : World) (h : Row xs) :
    Calls Tabg.prog 34 #[accV xs] w fun e w' => ∃ ys, e = .returned (accV ys) ∧ Row ys ∧ num ys = (-num xs) % W ^ 68 ∧ Up w w' := by
  have hA : Hid (AccAt (w.alloc (.cells (ints .u64 xs).toArray 40)) w.heap.size xs) := AccAt.box w h
  have hB : Hid (AccAt ((w.alloc (.cells (ints .u64 xs).toArray 40)).alloc (.cells Tabg.zeroCells40 40)) (w.heap.size + 1) (List.replicate 68 0)) := by
    have := AccAt.zero' (w.alloc (.cells (ints .u64 xs).toArray 40))
    show AccAt _ _ _
    simpa using this
  have hu : Hid (Up w ((w.alloc (.cells (ints .u64 xs).toArray 40)).alloc (.cells Tabg.zeroCells40 40))) := ((Up.refl w).alloc _).alloc _
  have hA' : Hid (AccAt ((w.alloc (.cells (ints .u64 xs).toArray 40)).alloc (.cells Tabg.zeroCells40 40)) w.heap.size xs) := AccAt.up hA.out ((Up.refl _).alloc _)
  unfold accV
  go_enter Tabg.func34, Tabg.ntmps34
  go_wp2_with (fail)
  refine (accNeg_any w.heap.size xs _ hA'.out).mono ?_
  rintro e w1 ⟨rfl, hm, ys, hy, hyv⟩
  have HY : Hid (AccAt w1 w.heap.size ys) := hy
  have HB : Hid (AccAt w1 (w.heap.size + 1) (List.replicate 68 0)) := AccAt.mod hB.out hm (by omega)
  have HV : Hid (num ys = (-num xs) % W ^ 68) := hyv
  have HU : Hid (Up w (setAcc w1 (w.heap.size + 1) ys)) := Up.ofMod (Up.ofMod hu.out hm (Nat.le_refl _)) ((Mod.refl _ w1).setAcc ys) (by omega)
  clear hy hm hyv hu hB hA hA' h
  go_wp2_with (first | (refine wpList_load40 rfl _ rfl w.heap.size rfl ys HY.out ?_) | (refine wpList_store40 rfl _ _ rfl (w.heap.size + 1) rfl ys rfl (AccAt.len HY.out) _ HB.out ?_))
  refine bodyPost_ret (ret40 rfl _ _ (w.heap.size + 1) rfl ys (AccAt.setAcc HB.out (AccAt.len HY.out) (AccAt.words HY.out))) rfl ?_
  exact ⟨ys, rfl, AccAt.row HY.out, HV.out, HU.out⟩

/-- Two fresh accumulators at zero. -/
theorem zero2 (w : World) : Hid (AccAt ((w.alloc (.cells Tabg.zeroCells40 40)).alloc (.cells Tabg.zeroCells40 40)) w.heap.size (List.replicate 68 0)) ∧
    Hid (AccAt ((w.alloc (.cells Tabg.zeroCells40 40)).alloc (.cells Tabg.zeroCells40 40)) (w.heap.size + 1) (List.replicate 68 0)) := by
  refine ⟨AccAt.up (AccAt.zero' w) ((Up.refl _).alloc _), ?_⟩
  have := AccAt.zero' (w.alloc (.cells Tabg.zeroCells40 40))
  show AccAt _ _ _
  simpa using this

set_option maxRecDepth 100000 in
set_option maxHeartbeats 800000 in
theorem accOf_any (p : Nat) (hp : Fin64 p) (w : World) :
    Calls Tabg.prog 30 #[.float .f64 p] w fun e w' => ∃ ys, e = .returned (accV ys) ∧ Row ys ∧ num ys = (fval p * 2 ^ 1074) % W ^ 68 ∧ Up w w' := by
  obtain ⟨hA, hB⟩ := zero2 w
  have hu : Hid (Up w ((w.alloc (.cells Tabg.zeroCells40 40)).alloc (.cells Tabg.zeroCells40 40))) := ((Up.refl w).alloc _).alloc _
  go_enter Tabg.func30, Tabg.ntmps30
  go_wp2_with (fail)
  refine (addFloat_yes (w.heap.size + 1) p hp.1 hp.2 _ _ hB.out).mono ?_
  rintro e w1 ⟨rfl, hm, ys, hy, hyv⟩
  rw [num_zeros, Int.zero_add] at hyv
  have HY : Hid (AccAt w1 (w.heap.size + 1) ys) := hy
  have HA : Hid (AccAt w1 w.heap.size (List.replicate 68 0)) := AccAt.mod hA.out hm (by omega)
  have HV : Hid (num ys = (fval p * 2 ^ 1074) % W ^ 68) := hyv
  have HU : Hid (Up w (setAcc w1 w.heap.size ys)) := Up.ofMod (Up.ofMod hu.out hm (by omega)) ((Mod.refl _ w1).setAcc ys) (by omega)
  clear hy hm hyv hu hB hA
  go_wp2_with (first | (refine wpList_load40 rfl _ rfl (w.heap.size + 1) rfl ys HY.out ?_) | (refine wpList_store40 rfl _ _ rfl w.heap.size rfl ys rfl (AccAt.len HY.out) _ HA.out ?_))
  refine bodyPost_ret (ret40 rfl _ _ w.heap.size rfl ys (AccAt.setAcc HA.out (AccAt.len HY.out) (AccAt.words HY.out))) rfl ?_
  exact ⟨ys, rfl, AccAt.row HY.out, HV.out, HU.out⟩
end Go.Proofs.Ygctab
