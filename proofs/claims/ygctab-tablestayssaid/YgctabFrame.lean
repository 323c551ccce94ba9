import Derived.Test.YgctabGrowB
import Derived.ProofKit
import Derived.OpenShut
import Derived.ShutString
import Derived.ChangeOld
import Derived.Below
import Derived.Lib.SmallJoins
namespace Go.Proofs.Ygctab
open Go.ChangeShapes Go.WideShapes Go.ChangeAt Go.RowKit Go.Joins
set_option linter.unusedVariables false

theorem own : ownKnob Tabg.prog.godebug = none := by kernel_rfl
theorem laidOut : laidOutB Tabg.prog = true := by kernel_rfl
theorem cells60 : Tabg.prog.cellsOf 60 = 2 := by kernel_rfl

theorem addr_plus (b off i : Nat) : (⟨b, off, none⟩ : Addr).add i = ⟨b, off + i, none⟩ := by
  unfold Addr.add
  split <;> simp_all
/-- The words that lie in a row of numbers. -/
theorem ints_words {zs : List Int} (hw : ∀ n ∈ zs, (Lit.int .u64 n).wf = true) : ∃ ps : List Nat, zs = ps.map (fun p : Nat => (p : Int)) ∧ ∀ p ∈ ps, p < 18446744073709551616 := by
  induction zs with
  | nil => exact ⟨[], rfl, fun p hp => by simp at hp⟩
  | cons z zs ih =>
    obtain ⟨ps, rfl, hp⟩ := ih (fun n hn => hw n (List.mem_cons_of_mem _ hn))
    have hz := hw z (List.mem_cons_self ..)
    have h0 := bounds_u64 hz
    refine ⟨z.toNat :: ps, by simp; omega, fun p h => ?_⟩
    rcases List.mem_cons.1 h with rfl | h
    · omega
    · exact hp p h

theorem cellTypes60 : Tabg.prog.cellTypes Tabg.prog.depth 60 = some [57, 58] := by kernel_rfl
set_option maxRecDepth 100000 in
theorem spot_none {W : World} {r : Reach} {b0 b off l c : Nat} {spot : Option Nat} {v : Value} (hv : Value.okWide Tabg.prog W r b0 60 (.agg #[.slice (some ⟨b, off, spot⟩) l c, v])) : spot = none := by
  simp only [Value.okWide, Tabg.underlying60] at hv
  obtain ⟨cs, hcs, _, ts, hts, _, hi⟩ := hv
  rw [cellTypes60] at hts
  obtain rfl := Option.some.inj hts
  obtain rfl := Value.agg.inj hcs
  obtain ⟨u', hu', hk⟩ := hi 0 _ rfl
  simp at hu'
  subst hu'
  simp only [Cell.okWide, Cell.ok, Tabg.underlying57, World.has] at hk
  exact hk.2.2.2.1

set_option maxRecDepth 100000 in
/-- A state that came in: a slice of words and a number. -/
theorem open_state {H : Type} {enc : TypeId × Value → H} {W : World} {base : Nat} {r : Reach} {b0 : Nat} {sp : Nat → Bool} {hd : Bool} {v : Value} {d : DataW H} {p : List MemPlace} (hv : Value.okWide Tabg.prog W r b0 60 v)
    (h : DataW.Trod enc Tabg.prog W base sp hd 60 v d p) :
    ∃ a n c N ps, v = .agg #[.slice a n c, .int .u16 ((N : Nat) : Int)] ∧ RdU W a n c ps ∧ N < 65536 ∧ F64s ps := by
  obtain ⟨c0, c1, y0, y1, m, rfl, rfl, rfl, hy0, hy1⟩ := open_agg2 Tabg.underlying60 (by kernel_rfl) cells60 hv h
  obtain ⟨N, e1, _, wN⟩ := DataW.trod_int (k := .u16) (by kernel_rfl) hy1
  simp at e1
  subst e1
  have hN := bounds_u16 wN
  obtain ⟨M, rfl⟩ : ∃ M : Nat, N = M := ⟨N.toNat, by omega⟩
  rcases open_ints (k := .u64) Tabg.underlying57 Tabg.underlying26 (by kernel_rfl) hy0 with ⟨hcs, _⟩ | ⟨x, l, c, zs, hcs, _, hl, hm, hz, _, hcell, hwz⟩
  · simp at hcs
    subst hcs
    exact ⟨none, 0, 0, M, [], rfl, ⟨rfl, .inl ⟨rfl, rfl, rfl⟩⟩, by omega, fun p hp => by simp at hp⟩
  · simp at hcs
    subst hcs
    obtain ⟨ps, rfl, hp⟩ := ints_words hwz
    have hlz : l ≤ ps.length := by
      simp at hz
      split at hz <;> omega
    refine ⟨some x, l, c, M, ps.take l, rfl, ⟨by simp; omega, ?_⟩, by omega, fun p h => hp p (List.mem_of_mem_take h)⟩
    obtain ⟨b, off, spot⟩ := x
    have hs : spot = none := spot_none hv
    subst hs
    refine .inr ⟨b, off, rfl, fun i hi => ?_⟩
    have hi' : i < ps.length ∧ i < l := by simp at hi; omega
    have hci := hcell i (by simp; omega)
    rw [addr_plus] at hci
    rw [hci, List.getElem?_take, if_pos hi'.2]
    simp [List.getD_eq_getElem?_getD, List.getElem?_eq_getElem hi'.1]
end Go.Proofs.Ygctab
