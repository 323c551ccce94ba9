/-
  'Rows.GrowRoomSaid' ('fftlab/law.GrowRoom') PROVED. The walk is YgctabGrowRoom.
-/
import Derived.Test.YgctabRows
import Derived.WalkKit
import Derived.ProofKit
import Derived.OpenShut
import Derived.ShutString
import Derived.ChangeOld
import Derived.Below
import Derived.Test.YgctabFrame
import Derived.Test.YgctabGrowRoom
namespace Go.Proofs.Ygctab.growRoom
open Go.ChangeShapes Go.WideShapes Go.ChangeAt Go.RowKit
set_option linter.unusedVariables false

set_option maxRecDepth 100000 in
theorem lifted (os : Os) (started : os.Started) (H : Type) (enc : TypeId × Value → H) :
    ReturnsInHanded {} Tabg.checked os 9 .any (Rows.growRoomSpec.pre6 enc Tabg.prog Tabg.f9 Rows.growRoomRow.domain false) (Rows.growRoomSpec.post enc Tabg.prog Tabg.f9 false true false false) := by
  refine returnsInHanded_of_change (C := Tabg.checked) own started (by kernel_rfl) Tabg.func9
    (ChangeSpec.witness6 (enc := enc) (C := Tabg.checked) false ⟨#[], #[.agg #[.slice none 0 0, .int .u16 0], .int .u64 0, .int .u8 0], []⟩ 8 (by kernel_rfl) (by kernel_rfl) (by kernel_rfl) (by kernel_rfl)) ?_
  intro W base args ds gs before hval0 hW hcnd _
  have hval : ∀ (j : Nat) t v, Tabg.f9.params[j]? = some t → args[j]? = some v → Value.okWide Tabg.prog W .any base t v := hval0
  have hW' := hW
  obtain ⟨p, q, hA0, hV, rfl, hfz, hnd⟩ := hW
  have hA : DataW.TrodAll enc Tabg.prog W 0 (fun _ => true) true Tabg.f9.params.toList args.toList ds p := hA0
  rw [Tabg.params9] at hA hval
  obtain ⟨v0, vs0, d0, ds0, p0, q0, hargs, rfl, rfl, h0, r0⟩ := trodAll_cons hA
  obtain ⟨v1, vs1, d1, ds1, p1, q1, rfl, rfl, rfl, h1, r1⟩ := trodAll_cons r0
  obtain ⟨v2, vs2, d2, ds2, p2, q2, rfl, rfl, rfl, h2, r2⟩ := trodAll_cons r1
  obtain ⟨rfl, rfl, rfl⟩ := trodAll_nil r2
  obtain rfl : args = #[v0, v1, v2] := by cases args; simp_all
  obtain ⟨rfl, rfl⟩ := trodVars_none hV
  have k0 := h0
  have lt0 : ∀ x ∈ p0, x.block < W.heap.size := by obtain ⟨m, hm⟩ := k0; exact DataW.trod_lt m _ _ _ hm
  obtain ⟨a, n, c, N, ps, rfl, hr, hN, hF⟩ := open_state (hval 0 60 v0 rfl rfl) h0
  obtain ⟨a1, rfl, rfl, rfl, w1⟩ := open_int Tabg.underlying26 (hval 1 26 v1 rfl rfl) h1
  obtain ⟨a2, rfl, rfl, rfl, w2⟩ := open_int Tabg.underlying5 (hval 2 5 v2 rfl rfl) h2
  have b1 := bounds_u64 w1
  have b2 := bounds_u8 w2
  obtain ⟨x, rfl⟩ : ∃ x : Nat, a1 = x := ⟨a1.toNat, by omega⟩
  obtain ⟨sp, rfl⟩ : ∃ x : Nat, a2 = x := ⟨a2.toNat, by omega⟩
  clear hA0 hval0
  refine (growRoom_any a n c N x sp ps W hr hN hF (by omega) (by omega)).mono fun e W' ⟨he, bel⟩ => ?_
  subst he
  replace bel : Below W.heap.size W W' := bel
  exact ⟨_, rfl, _, _, _, [], _, [], hW', trodAll_mk1 (shut_bool Tabg.underlying4 _), (trodAll_cons_mk (Below.trod laidOut (by kernel_rfl) (of_decide_eq_true (by kernel_rfl)) k0 bel lt0) (trodAll_cons_mk (shut_int Tabg.underlying26 w1) (trodAll_cons_mk (shut_int Tabg.underlying5 w2) trodAll_mk0))), rfl, bel.frame _, fun h => by cases h⟩

theorem over : Rows.growRoomRow.holds Tabg.pinned (OpenSpec.ofChange Rows.growRoomSpec) :=
  OpenClaim.holds_of_wide 9 Tabg.f9 rfl rfl rfl rfl rfl rfl rfl ⟨rfl, rfl, rfl, rfl, rfl⟩ rfl rfl rfl rfl rfl (by kernel_rfl) Tabg.func9 (by kernel_rfl)
    (of_decide_eq_true (by kernel_rfl)) (by unfold Func.isWrapper; first | (rw [if_pos (by decide +kernel)]; kernel_rfl) | (rw [if_neg (by decide +kernel)]; exact ⟨rfl, rfl⟩))
    (fun os started H enc _ => lifted os started H enc)

/-- ████ THE STATEMENT ████ -/
theorem proved : Rows.GrowRoomSaid := over
#print axioms proved
end Go.Proofs.Ygctab.growRoom
