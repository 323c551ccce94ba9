import Derived.Test.YgctabTowN
import Derived.LaidEqlPtr
import Derived.Deep.WholeRow
namespace Go.Proofs.Ygctab
open Go.RowKit
set_option linter.unusedVariables false
set_option linter.unusedSimpArgs false

/-- A place that is nil, or lies at the head of another block. -/
def FarP (w : World) (B : Nat) (p : Value) : Prop := p = .pointer none ∨ ∃ B' zs, p = .pointer (some ⟨B', 0, none⟩) ∧ B' ≠ B ∧ Own w B' 5 zs
theorem FarP.up {w w' : World} {B : Nat} {p : Value} (h : FarP w B p) (u : Up w w') : FarP w' B p := by
  rcases h with h | ⟨B', zs, h1, h2, h3⟩
  · exact Or.inl h
  · exact Or.inr ⟨B', zs, h1, h2, h3.up u⟩
theorem info5size : ∃ j, Tabg.prog.info? 5 = some j ∧ j.size ≠ 0 := by
  have h : (Tabg.prog.info? 5).map (fun i => i.size) = some 1 := by kernel_rfl
  cases e : Tabg.prog.info? 5 with
  | none => rw [e] at h; cases h
  | some i =>
    rw [e] at h
    simp at h
    exact ⟨i, rfl, by omega⟩
theorem FarP.ne {w : World} {B : Nat} {p : Value} {xs : List Value} (h : FarP w B p) (hB : Own w B 5 xs) (i : Nat) : (binOp .eql 201 (.pointer (some ⟨B, i, none⟩)) p).run Tabg.prog w = .ok (.bool false) w := by
  rcases h with rfl | ⟨B', zs, rfl, h2, h3⟩
  · have := run_eql_pointer_nil (P := Tabg.prog) w 201 (some ⟨B, i, none⟩) (by kernel_rfl)
    exact this
  · obtain ⟨j, hj, hs⟩ := info5size
    exact run_eql_ptr_other w (by kernel_rfl) hj hs (fun e => h2 (congrArg Addr.block e).symm) hB h3

set_option maxRecDepth 100000 in
set_option maxHeartbeats 1600000 in
theorem anyOf_no (B L f : Nat) (T : TypeId) (xs : List Value) (p0 p1 p2 p3 p4 p5 p6 p7 : Value) (w : World) (hB : Own w B 5 xs) (hL : L ≤ 4096) (hf : Own w f T [p0, p1, p2, p3, p4, p5, p6, p7])
    (h : ∀ p ∈ [p0, p1, p2, p3, p4, p5, p6, p7], FarP w B p) :
    Calls Tabg.prog 177 #[.slice (some ⟨B, 0, none⟩) L L, .pointer (some ⟨f, 0, none⟩)] w fun e w' => e = .returned (.bool false) ∧ Up w w' := by
  have c0 : w.cell? ⟨f, 0, none⟩ = some p0 := by rw [hf.cell]; rfl
  have c1 : w.cell? ⟨f, 1, none⟩ = some p1 := by rw [hf.cell]; rfl
  have c2 : w.cell? ⟨f, 2, none⟩ = some p2 := by rw [hf.cell]; rfl
  have c3 : w.cell? ⟨f, 3, none⟩ = some p3 := by rw [hf.cell]; rfl
  have c4 : w.cell? ⟨f, 4, none⟩ = some p4 := by rw [hf.cell]; rfl
  have c5 : w.cell? ⟨f, 5, none⟩ = some p5 := by rw [hf.cell]; rfl
  have c6 : w.cell? ⟨f, 6, none⟩ = some p6 := by rw [hf.cell]; rfl
  have c7 : w.cell? ⟨f, 7, none⟩ = some p7 := by rw [hf.cell]; rfl
  have HN : Hid (∀ w' i, Up w w' → ∀ p ∈ [p0, p1, p2, p3, p4, p5, p6, p7], (binOp .eql 201 (.pointer (some ⟨B, i, none⟩)) p).run Tabg.prog w' = .ok (.bool false) w') :=
    fun w' i hu p hp => ((h p hp).up hu).ne (hB.up hu) i
  have LI : (L : Int) ≤ 4096 := by omega
  clear h hB hf
  go_enter Tabg.func177, Tabg.ntmps177
  go_wp2
  go_quiet (fail)
  go_wp2
  clear c0 c1 c2 c3 c4 c5 c6 c7
  go_loopw [13] (fun u wr => ∃ i : Nat, u = .int .i64 i ∧ i ≤ L ∧ Hid (Up w wr)) (fun u _ => L - (intOf u).toNat)
  case atStart => exact ⟨0, rfl, by omega, (Up.refl w).drewN _⟩
  case round =>
    obtain ⟨i, rfl, hi, HU⟩ := hrel
    by_cases hlt : i < L
    · have e0 := HN.out wr i HU.out p0 (by simp)
      have e1 := HN.out wr i HU.out p1 (by simp)
      have e2 := HN.out wr i HU.out p2 (by simp)
      have e3 := HN.out wr i HU.out p3 (by simp)
      have e4 := HN.out wr i HU.out p4 (by simp)
      have e5 := HN.out wr i HU.out p5 (by simp)
      have e6 := HN.out wr i HU.out p6 (by simp)
      have e7 := HN.out wr i HU.out p7 (by simp)
      have i0 : (0 : Int) ≤ (i : Int) := by omega
      have im : (i : Int) < (L : Int) := by omega
      clear HN
      go_wp2
      go_roundw
      case rel => exact ⟨i + 1, by go_num, by omega, HU.out⟩
      case measure => simp [intOf]; omega
    · obtain rfl : L = i := by omega
      clear HN
      go_wp2
      go_ret
      exact ⟨rfl, HU.out⟩
end Go.Proofs.Ygctab
