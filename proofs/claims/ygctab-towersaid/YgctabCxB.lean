import Derived.Test.YgctabCxA
import Derived.Test.YgctabNttG
import Derived.Deep.RegionHeld3
namespace Go.Proofs.Ygctab
open Go.RowKit
set_option linter.unusedVariables false
set_option linter.unusedSimpArgs false

set_option maxRecDepth 100000 in
set_option maxHeartbeats 800000 in
theorem allSameC_yes (a a' : Option Addr) (n c c' : Nat) (xs ys : List (Nat × Nat)) (w : World) (h : RdC w a n xs) (h' : RdC w a' n ys) (hn : n ≤ 4096) (he : clsL xs = clsL ys) :
    Calls Tabg.prog 110 #[.slice a n c, .slice a' n c'] w fun e w' => e = .returned (.bool true) ∧ Up w w' := by
  obtain ⟨hl, h⟩ := h
  obtain ⟨hl', h'⟩ := h'
  have hcI : (n : Int) ≤ 4096 := by omega
  have HL : Hid (n = xs.length ∧ n = ys.length) := ⟨hl, hl'⟩
  clear hl hl'
  go_enter Tabg.func110, Tabg.ntmps110
  go_wp2
  go_loopw [5] (fun t wr => ∃ i : Nat, t = .int .i64 i ∧ i ≤ n ∧ Up w wr) (fun t _ => n - (intOf t).toNat)
  case atStart => exact ⟨0, rfl, by omega, Up.refl w⟩
  case round =>
    obtain ⟨i, rfl, hi, hU⟩ := hrel
    by_cases hlt : i < n
    · obtain ⟨b, off, rfl, hc⟩ := h i (by have := HL.out.1; omega)
      obtain ⟨b', off', rfl, hc'⟩ := h' i (by have := HL.out.2; omega)
      replace hc := hU.cell hc
      replace hc' := hU.cell hc'
      have hcl := clsL_at he i
      generalize zat xs i = x at *
      generalize zat ys i = y at *
      obtain ⟨x1, x2⟩ := x
      obtain ⟨y1, y2⟩ := y
      have cF := sameC_cls x1 x2 y1 y2 hcl
      have hltI : (i : Int) < n := by omega
      clear h h' he hcl
      go_wp2
      go_region_held3 (fun w' => w'.cell? ⟨b, off + i, none⟩ = some (.complex .f64 x1 x2) ∧ w'.cell? ⟨b', off' + i, none⟩ = some (.complex .f64 y1 y2)) (simp [go_sem, *]) (first | (go_at_call 22; refine (cF _).mono ?_; rintro e w' ⟨rfl, rfl⟩))
      go_wp2
      go_roundw
      case rel => exact ⟨i + 1, by go_num, by omega, hU.drew⟩
      case measure => simp [intOf]; omega
    · go_wp2
      go_ret
      exact ⟨rfl, hU⟩

theorem info27 : (Tabg.prog.info? 27).map (fun i => (i.zero, i.size, i.bytes)) = some (some (.complex .f64 0 0), 1, 16) := by kernel_rfl

set_option maxRecDepth 100000 in
theorem copyC_some (b off n c : Nat) (zs : List (Nat × Nat)) (w : World) (h : RdC w (some ⟨b, off, none⟩) n zs) (hn : n ≤ 4096) :
    Calls Tabg.prog 103 #[.slice (some ⟨b, off, none⟩) n c] w fun e w' => e = .returned (.slice (some ⟨w.heap.size, 0, none⟩) n n) ∧ Up w w' ∧ Own w' w.heap.size 27 (cxs zs) := by
  obtain ⟨rfl, hc⟩ := h
  have hmk := fun w => run_make_row' (P := Tabg.prog) 71 27 (.complex .f64 0 0) 16 Tabg.underlying71 (by kernel_rfl) rfl .i64 .i64 zs.length (by omega) (by omega) w
  have hO := Own.made w 27 (.complex .f64 0 0) zs.length
  have hcp := fun ty => run_copy_row (P := Tabg.prog) (w.alloc (.cells (madeCells #[.complex .f64 0 0] zs.length) 27)) 71 71 ty 27 w.heap.size 0 zs.length zs.length ⟨b, off, none⟩ zs.length c _ 27 (cxs zs) Tabg.underlying71 (by kernel_rfl) hO (by simp [cxs_length])
    (by
      intro j v hj
      have hl : j < zs.length := by have := (List.getElem?_eq_some_iff.1 hj).1; rwa [cxs_length] at this
      obtain ⟨b', off', e, hcell⟩ := hc j hl
      cases e
      rw [cxs_at hl] at hj
      cases hj
      rw [addr_add]
      exact ((Up.refl w).alloc _).cell hcell)
    (by simp [cxs_length]) (by intro v hv; simp [cxs] at hv; obtain ⟨x, y, _, rfl⟩ := hv; rfl)
  have e1 : (List.take 0 (List.replicate zs.length (Value.complex .f64 0 0)).toArray.toList ++ cxs zs ++ List.drop (0 + (cxs zs).length) (List.replicate zs.length (Value.complex .f64 0 0)).toArray.toList) = cxs zs := by
    simp [cxs_length]
  rw [e1] at hcp
  clear e1
  go_enter Tabg.func103, Tabg.ntmps103
  go_wp2
  go_ret
  exact ⟨rfl, ((Up.refl w).alloc _).ofMod ((Mod.refl w.heap.size _).setRow _) (Nat.le_refl _), hO.setRow _⟩
end Go.Proofs.Ygctab
