import Derived.Test.YgctabTowJ
namespace Go.Proofs.Ygctab
open Go.RowKit
set_option linter.unusedVariables false

/-- A state and an operation, boxed, and a cell for the result. -/
structure By (w0 w : World) (s1 sb s2 : Nat) (v1 v2 k1 k2 : Value) : Prop where
  bx : Bx w0 w s1 s2 v1 v2
  own3 : Own w sb 106 [k1, k2]
theorem By.new (w : World) (v1 v2 k1 k2 : Value) : By w (((w.alloc (.cells #[v1, v2] 103)).alloc (.cells #[k1, k2] 106)).alloc (.cells #[.slice none 0 0, .slice none 0 0] 103)) w.heap.size (w.heap.size + 1) (w.heap.size + 2) v1 v2 k1 k2 := by
  refine ⟨⟨(((Up.refl w).alloc _).alloc _).alloc _, by omega, by omega, ((Own.new w 103 #[v1, v2]).alloc _).alloc _, ?_⟩, ?_⟩
  · have := Own.new ((w.alloc (.cells #[v1, v2] 103)).alloc (.cells #[k1, k2] 106)) 103 #[.slice none 0 0, .slice none 0 0]
    simpa using this
  · have := (Own.new (w.alloc (.cells #[v1, v2] 103)) 106 #[k1, k2]).alloc (.cells #[.slice none 0 0, .slice none 0 0] 103)
    simpa using this
theorem By.mono {w0 w w' : World} {s1 sb s2 : Nat} {v1 v2 k1 k2 : Value} (h : By w0 w s1 sb s2 v1 v2 k1 k2) (u : Up w w') : By w0 w' s1 sb s2 v1 v2 k1 k2 := ⟨h.bx.mono u, h.own3.up u⟩
theorem By.mf {w0 w : World} {s1 sb s2 : Nat} {v1 v2 k1 k2 : Value} (h : By w0 w s1 sb s2 v1 v2 k1 k2) : w.cell? ⟨sb, 0, none⟩ = some k1 ∧ w.cell? ⟨sb, 1, none⟩ = some k2 ∧ sb < w.heap.size :=
  ⟨by rw [h.own3.cell]; rfl, by rw [h.own3.cell]; rfl, h.own3.lt⟩
theorem cell_set2 {w : World} {s b i : Nat} {x y v : Value} (h : b ≠ s) (hc : w.cell? ⟨b, i, none⟩ = some v) : ((w.setCell ⟨s, 0, none⟩ x).setCell ⟨s, 1, none⟩ y).cell? ⟨b, i, none⟩ = some v := by
  rw [← hc]
  have e : ((w.setCell ⟨s, 0, none⟩ x).setCell ⟨s, 1, none⟩ y).heap[b]? = w.heap[b]? := by rw [setCell_block h, setCell_block h]
  exact World.cell?_of_block (a := ⟨b, i, none⟩) e
theorem LR.drew {w w' : World} {e : Ending} {p : List Nat × List Int} (h : LR w w' e p) : LR w w'.drew e p := by
  obtain ⟨a, n, c, o, k, oc, he, hu, hL⟩ := h
  exact ⟨a, n, c, o, k, oc, he, hu.drew, hL.keeps (Up.keeps ((Up.refl _).drew))⟩
/-- A number in block B. -/
def NSo (w : World) (B v : Nat) (zs : List Nat) : Prop := v ≠ 0 → Own w B 5 (u8s zs) ∧ Digs zs ∧ bv zs = v
end Go.Proofs.Ygctab
