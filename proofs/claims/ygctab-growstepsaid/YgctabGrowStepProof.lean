/-
  'Rows.GrowStepSaid' ('fftlab/law.GrowStep') PROVED. The walk is YgctabGrowStep.
-/
import Derived.Test.YgctabRows
import Derived.WalkKit
import Derived.ProofKit
import Derived.OpenShut
import Derived.ShutString
import Derived.ChangeOld
import Derived.Below
import Derived.Test.YgctabFrame
import Derived.Test.YgctabGrowStep
namespace Go.Proofs.Ygctab.growStep
open Go.ChangeShapes Go.WideShapes Go.ChangeAt Go.RowKit
set_option linter.unusedVariables false

set_option maxRecDepth 100000 in
theorem lifted (os : Os) (started : os.Started) (H : Type) (enc : TypeId × Value → H) :
    ReturnsInHanded {} Tabg.checked os 8 .any (Rows.growStepSpec.pre6 enc Tabg.prog Tabg.f8 Rows.growStepRow.domain false) (Rows.growStepSpec.post enc Tabg.prog Tabg.f8 false true false false) := by
  refine returnsInHanded_of_change (C := Tabg.checked) own started (by kernel_rfl) Tabg.func8
    (ChangeSpec.witness6 (enc := enc) (C := Tabg.checked) false ⟨#[], #[.agg #[.slice none 0 0, .int .u16 0], .int .u64 0], []⟩ 8 (by kernel_rfl) (by kernel_rfl) (by kernel_rfl) (by kernel_rfl)) ?_
  intro W base args ds gs before hval0 hW hcnd _
  have hval : ∀ (j : Nat) t v, Tabg.f8.params[j]? = some t → args[j]? = some v → Value.okWide Tabg.prog W .any base t v := hval0
  have hW' := hW
  obtain ⟨p, q, hA0, hV, rfl, hfz, hnd⟩ := hW
  have hA : DataW.TrodAll enc Tabg.prog W 0 (fun _ => true) true Tabg.f8.params.toList args.toList ds p := hA0
  rw [Tabg.params8] at hA hval
  obtain ⟨v0, vs0, d0, ds0, p0, q0, hargs, rfl, rfl, h0, r0⟩ := trodAll_cons hA
  obtain ⟨v1, vs1, d1, ds1, p1, q1, rfl, rfl, rfl, h1, r1⟩ := trodAll_cons r0
  obtain ⟨rfl, rfl, rfl⟩ := trodAll_nil r1
  obtain rfl : args = #[v0, v1] := by cases args; simp_all
  obtain ⟨rfl, rfl⟩ := trodVars_none hV
  have k0 := h0
  have lt0 : ∀ x ∈ p0, x.block < W.heap.size := by obtain ⟨m, hm⟩ := k0; exact DataW.trod_lt m _ _ _ hm
  obtain ⟨a, n, c, N, ps, rfl, hr, hN, hF⟩ := open_state (hval 0 60 v0 rfl rfl) h0
  obtain ⟨a1, rfl, rfl, rfl, w1⟩ := open_int Tabg.underlying26 (hval 1 26 v1 rfl rfl) h1
  have b1 := bounds_u64 w1
  obtain ⟨x, rfl⟩ : ∃ x : Nat, a1 = x := ⟨a1.toNat, by omega⟩
  clear hA0 hval0
  refine (growStep_any a n c N x ps W hr hN hF (by omega)).mono fun e W' ⟨he, bel⟩ => ?_
  subst he
  replace bel : Below W.heap.size W W' := bel
  exact ⟨_, rfl, _, _, _, [], _, [], hW', trodAll_mk1 (shut_bool Tabg.underlying4 _), (trodAll_cons_mk (Below.trod laidOut (by kernel_rfl) (of_decide_eq_true (by kernel_rfl)) k0 bel lt0) (trodAll_cons_mk (shut_int Tabg.underlying26 w1) trodAll_mk0)), rfl, bel.frame _, fun h => by cases h⟩

theorem over : Rows.growStepRow.holds Tabg.pinned (OpenSpec.ofChange Rows.growStepSpec) :=
  OpenClaim.holds_of_wide 8 Tabg.f8 rfl rfl rfl rfl rfl rfl rfl ⟨rfl, rfl, rfl, rfl, rfl⟩ rfl rfl rfl rfl rfl (by kernel_rfl) Tabg.func8 (by kernel_rfl)
    (of_decide_eq_true (by kernel_rfl)) (by unfold Func.isWrapper; first | (rw [if_pos (by decide +kernel)]; kernel_rfl) | (rw [if_neg (by decide +kernel)]; exact ⟨rfl, rfl⟩))
    (fun os started H enc _ => lifted os started H enc)

/-- ████ THE STATEMENT ████ -/
theorem proved : Rows.GrowStepSaid := over
#print axioms proved
end Go.Proofs.Ygctab.growStep
