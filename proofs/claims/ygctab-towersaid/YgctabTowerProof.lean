/-
  'Rows.TowerSaid' ('fftlab/law.Tower') PROVED. The walk is YgctabTowZ (tower_any); what came in is read by YgctabTowFr.
-/
import Derived.Test.YgctabRows
import Derived.Test.YgctabTowZ
import Derived.Test.YgctabTowFr
import Derived.Lib.SmallJoins
import Derived.WalkKit
import Derived.ProofKit
import Derived.OpenShut
import Derived.ShutString
import Derived.ChangeOld
import Derived.Below
namespace Go.Proofs.Ygctab.tower
open Go.ChangeShapes Go.WideShapes Go.ChangeAt Go.RowKit
set_option linter.unusedVariables false

theorem own : ownKnob Tabg.prog.godebug = none := by kernel_rfl
theorem laidOut : laidOutB Tabg.prog = true := by kernel_rfl

set_option maxRecDepth 100000 in
theorem spot22 {W : World} {r : Reach} {b0 b off l c : Nat} {spot : Option Nat} (hv : Value.okWide Tabg.prog W r b0 22 (.slice (some ⟨b, off, spot⟩) l c)) : spot = none := by
  simp only [Value.okWide, u22, Cell.okWide, Cell.ok, World.has] at hv
  exact hv.2.2.2.1

set_option maxRecDepth 100000 in
theorem lifted (os : Os) (started : os.Started) (H : Type) (enc : TypeId × Value → H) :
    ReturnsInHanded {} Tabg.checked os 3 .any (Rows.towerSpec.pre6 enc Tabg.prog Tabg.f3 Rows.towerRow.domain false) (Rows.towerSpec.post enc Tabg.prog Tabg.f3 false true false false) := by
  refine returnsInHanded_of_change (C := Tabg.checked) own started (by kernel_rfl) Tabg.func3
    (ChangeSpec.witness6 (enc := enc) (C := Tabg.checked) false ⟨#[], #[.slice none 0 0], []⟩ 8 (by kernel_rfl) (by kernel_rfl) (by kernel_rfl) (by kernel_rfl)) ?_
  intro W base args ds gs before hval0 hW hcnd _
  have hval : ∀ (j : Nat) t v, Tabg.f3.params[j]? = some t → args[j]? = some v → Value.okWide Tabg.prog W .any base t v := hval0
  have hW' := hW
  obtain ⟨p, q, hA0, hV, rfl, hfz, hnd⟩ := hW
  have hA : DataW.TrodAll enc Tabg.prog W 0 (fun _ => true) true Tabg.f3.params.toList args.toList ds p := hA0
  rw [Tabg.params3] at hA hval
  obtain ⟨v0, vs0, d0, ds0, p0, q0, hargs, rfl, rfl, h0, r0⟩ := trodAll_cons hA
  obtain ⟨rfl, rfl, rfl⟩ := trodAll_nil r0
  obtain rfl : args = #[v0] := by cases args; simp_all
  obtain ⟨rfl, rfl⟩ := trodVars_none hV
  obtain ⟨a0, len0, cap0, rfl⟩ := okWide_slice u22 (hval 0 22 v0 rfl rfl)
  have k0 := h0
  have lt0 : ∀ x ∈ p0, x.block < W.heap.size := by obtain ⟨m, hm⟩ := k0; exact DataW.trod_lt m _ _ _ hm
  have s0 : ∀ x, a0 = some x → x.spot = none := by
    intro x hx
    subst hx
    obtain ⟨b, off, spot⟩ := x
    exact spot22 (hval 0 22 _ rfl rfl)
  have hpl : a0 = none ∨ ∃ b off, a0 = some ⟨b, off, none⟩ := by
    cases a0 with
    | none => exact .inl rfl
    | some x =>
      obtain ⟨b, off, spot⟩ := x
      have hs : spot = none := s0 _ rfl
      subst hs
      exact .inr ⟨b, off, rfl⟩
  obtain ⟨hlc, ops, hlen, hops⟩ := open_script s0 h0
  clear hA0 hval0
  refine (tower_any a0 len0 cap0 ops W ⟨hlen, hops⟩ hpl hlc).mono fun e W' ⟨he, bel⟩ => ?_
  subst he
  replace bel : Below W.heap.size W W' := bel
  exact ⟨_, rfl, _, _, _, [], _, [], hW', trodAll_mk1 (shut_bool Tabg.underlying4 _), (trodAll_cons_mk (Below.trod laidOut (by kernel_rfl) (of_decide_eq_true (by kernel_rfl)) k0 bel lt0) trodAll_mk0), rfl, bel.frame _, fun h => by cases h⟩

theorem over : Rows.towerRow.holds Tabg.pinned (OpenSpec.ofChange Rows.towerSpec) :=
  OpenClaim.holds_of_wide 3 Tabg.f3 rfl rfl rfl rfl rfl rfl rfl ⟨rfl, rfl, rfl, rfl, rfl⟩ rfl rfl rfl rfl rfl (by kernel_rfl) Tabg.func3 (by kernel_rfl)
    (of_decide_eq_true (by kernel_rfl)) (by unfold Func.isWrapper; first | (rw [if_pos (by decide +kernel)]; kernel_rfl) | (rw [if_neg (by decide +kernel)]; exact ⟨rfl, rfl⟩))
    (fun os started H enc _ => lifted os started H enc)

/-- ████ THE STATEMENT ████ -/
theorem proved : Rows.TowerSaid := over
#print axioms proved
end Go.Proofs.Ygctab.tower
