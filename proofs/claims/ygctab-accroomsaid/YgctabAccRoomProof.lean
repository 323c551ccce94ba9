/-
  'Rows.AccRoomSaid' ('fftlab/law.AccRoom') PROVED. The walk is YgctabAccRoom, YgctabAccRoom2.
-/
import Derived.Test.YgctabRows
import Derived.WalkKit
import Derived.ProofKit
import Derived.OpenShut
import Derived.ShutString
import Derived.ChangeOld
import Derived.Below
import Derived.Test.YgctabFrame
import Derived.Test.YgctabAccRoom2
namespace Go.Proofs.Ygctab.accRoom
open Go.ChangeShapes Go.WideShapes Go.ChangeAt Go.RowKit
set_option linter.unusedVariables false

theorem cellTypes40 : Tabg.prog.cellTypes Tabg.prog.depth 40 = some (List.replicate 68 26) := by kernel_rfl
theorem cells40 : Tabg.prog.cellsOf 40 = 68 := by kernel_rfl


set_option maxRecDepth 100000 in
theorem open_acc {W : World} {r : Reach} {b0 : Nat} {v : Value} (hv : Value.okWide Tabg.prog W r b0 40 v) : ∃ xs, Row xs ∧ v = accV xs := by
  simp only [Value.okWide, under40''] at hv
  obtain ⟨cs, rfl, hs, ts, hts, -, hi⟩ := hv
  rw [cells40] at hs
  rw [cellTypes40] at hts
  obtain rfl := Option.some.inj hts
  have hc : ∀ (i : Nat) (c : Value), cs[i]? = some c → ∃ n : Int, c = .int .u64 n ∧ 0 ≤ n ∧ n < 18446744073709551616 := by
    intro i c hc
    obtain ⟨u, hu, hk⟩ := hi i c hc
    have hm := List.mem_of_getElem? hu
    obtain rfl := List.eq_of_mem_replicate hm
    simp only [Cell.okWide, Cell.ok, Tabg.underlying26] at hk
    cases c <;> simp only at hk <;> try exact hk.elim
    rename_i k n
    obtain ⟨rfl, h1, h2⟩ := hk
    refine ⟨n, rfl, h1, ?_⟩
    have : n ≤ 18446744073709551615 := h2
    omega
  have hl : ∀ l : List Value, (∀ c ∈ l, ∃ n : Int, c = .int .u64 n ∧ 0 ≤ n ∧ n < 18446744073709551616) → ∃ xs, Words xs ∧ l = ints .u64 xs := by
    intro l
    induction l with
    | nil => intro _; exact ⟨[], fun x hx => by simp at hx, rfl⟩
    | cons c l ih =>
      intro h
      obtain ⟨n, rfl, h1, h2⟩ := h c (List.mem_cons_self ..)
      obtain ⟨xs, hw, rfl⟩ := ih (fun d hd => h d (List.mem_cons_of_mem _ hd))
      refine ⟨n :: xs, fun x hx => ?_, rfl⟩
      rcases List.mem_cons.1 hx with rfl | hx
      · exact ⟨h1, h2⟩
      · exact hw x hx
  obtain ⟨xs, hw, he⟩ := hl cs.toList (fun c h => by
    obtain ⟨i, hi⟩ := List.getElem?_of_mem h
    exact hc i c (by simpa using hi))
  refine ⟨xs, ⟨?_, hw⟩, ?_⟩
  · have := congrArg List.length he
    rw [ints_length] at this
    simp at this
    omega
  · unfold accV
    rw [← he]

set_option maxRecDepth 100000 in
theorem lifted (os : Os) (started : os.Started) (H : Type) (enc : TypeId × Value → H) :
    ReturnsInHanded {} Tabg.checked os 7 .any (Rows.accRoomSpec.pre6 enc Tabg.prog Tabg.f7 Rows.accRoomRow.domain false) (Rows.accRoomSpec.post enc Tabg.prog Tabg.f7 false true false false) := by
  refine returnsInHanded_of_change (C := Tabg.checked) own started (by kernel_rfl) Tabg.func7
    (ChangeSpec.witness6 (enc := enc) (C := Tabg.checked) false ⟨#[], #[.agg (Array.replicate 68 (.int .u64 0)), .int .u32 0, .int .u64 0, .int .u64 0], []⟩ 8 (by kernel_rfl) (by kernel_rfl) (by kernel_rfl) (by kernel_rfl)) ?_
  intro W base args ds gs before hval0 hW hcnd _
  have hval : ∀ (j : Nat) t v, Tabg.f7.params[j]? = some t → args[j]? = some v → Value.okWide Tabg.prog W .any base t v := hval0
  have hW' := hW
  obtain ⟨p, q, hA0, hV, rfl, hfz, hnd⟩ := hW
  have hA : DataW.TrodAll enc Tabg.prog W 0 (fun _ => true) true Tabg.f7.params.toList args.toList ds p := hA0
  rw [Tabg.params7] at hA hval
  obtain ⟨v0, vs0, d0, ds0, p0, q0, hargs, rfl, rfl, h0, r0⟩ := trodAll_cons hA
  obtain ⟨v1, vs1, d1, ds1, p1, q1, rfl, rfl, rfl, h1, r1⟩ := trodAll_cons r0
  obtain ⟨v2, vs2, d2, ds2, p2, q2, rfl, rfl, rfl, h2, r2⟩ := trodAll_cons r1
  obtain ⟨v3, vs3, d3, ds3, p3, q3, rfl, rfl, rfl, h3, r3⟩ := trodAll_cons r2
  obtain ⟨rfl, rfl, rfl⟩ := trodAll_nil r3
  obtain rfl : args = #[v0, v1, v2, v3] := by cases args; simp_all
  obtain ⟨rfl, rfl⟩ := trodVars_none hV
  have k0 := h0
  have lt0 : ∀ x ∈ p0, x.block < W.heap.size := by obtain ⟨m, hm⟩ := k0; exact DataW.trod_lt m _ _ _ hm
  obtain ⟨xs, hx, rfl⟩ := open_acc (hval 0 40 v0 rfl rfl)
  obtain ⟨a1, rfl, rfl, rfl, w1⟩ := open_int Tabg.underlying41 (hval 1 41 v1 rfl rfl) h1
  obtain ⟨a2, rfl, rfl, rfl, w2⟩ := open_int Tabg.underlying26 (hval 2 26 v2 rfl rfl) h2
  obtain ⟨a3, rfl, rfl, rfl, w3⟩ := open_int Tabg.underlying26 (hval 3 26 v3 rfl rfl) h3
  have b1 := bounds_u32 w1
  have b2 := bounds_u64 w2
  have b3 := bounds_u64 w3
  obtain ⟨n, rfl⟩ : ∃ x : Nat, a1 = x := ⟨a1.toNat, by omega⟩
  obtain ⟨x, rfl⟩ : ∃ x : Nat, a2 = x := ⟨a2.toNat, by omega⟩
  obtain ⟨y, rfl⟩ : ∃ x : Nat, a3 = x := ⟨a3.toNat, by omega⟩
  clear hA0 hval0
  refine (accRoom_any xs n x y hx (by omega) (by omega) (by omega) W).mono fun e W' ⟨he, bel⟩ => ?_
  subst he
  replace bel : Below W.heap.size W W' := bel
  exact ⟨_, rfl, _, _, _, [], _, [], hW', trodAll_mk1 (shut_bool Tabg.underlying4 _), (trodAll_cons_mk (Below.trod laidOut (by kernel_rfl) (of_decide_eq_true (by kernel_rfl)) k0 bel lt0) (trodAll_cons_mk (shut_int Tabg.underlying41 w1) (trodAll_cons_mk (shut_int Tabg.underlying26 w2) (trodAll_cons_mk (shut_int Tabg.underlying26 w3) trodAll_mk0)))), rfl, bel.frame _, fun h => by cases h⟩

theorem over : Rows.accRoomRow.holds Tabg.pinned (OpenSpec.ofChange Rows.accRoomSpec) :=
  OpenClaim.holds_of_wide 7 Tabg.f7 rfl rfl rfl rfl rfl rfl rfl ⟨rfl, rfl, rfl, rfl, rfl⟩ rfl rfl rfl rfl rfl (by kernel_rfl) Tabg.func7 (by kernel_rfl)
    (of_decide_eq_true (by kernel_rfl)) (by unfold Func.isWrapper; first | (rw [if_pos (by decide +kernel)]; kernel_rfl) | (rw [if_neg (by decide +kernel)]; exact ⟨rfl, rfl⟩))
    (fun os started H enc _ => lifted os started H enc)

/-- ████ THE STATEMENT ████ -/
theorem proved : Rows.AccRoomSaid := over
#print axioms proved
end Go.Proofs.Ygctab.accRoom
