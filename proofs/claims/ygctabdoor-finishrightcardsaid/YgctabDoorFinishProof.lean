import Derived.Test.YgctabDoorRows
import Derived.Test.YgctabDoorTie
import Derived.Test.YgctabDoorCards
import Derived.ProofKit
import Derived.OpenShut
import Derived.ChangeOld
import Derived.ChangeSame
import Derived.ChangeVars
import Derived.JoinedOf
import Derived.Below
import Derived.Lib.SmallJoins
import Derived.Test.YgctabDoorFinish
namespace Go.Proofs.YgctabDoor
set_option linter.unusedVariables false
open Go.ChangeShapes Go.WideShapes Go.ChangeAt Go.RowKit Go.Joins

theorem own : ownKnob Tabg.prog.godebug = none := by kernel_rfl
theorem laidOut : laidOutB Tabg.prog = true := by kernel_rfl
theorem cells25 : Tabg.prog.cellsOf 25 = 2 := by kernel_rfl

theorem addr_plus (b off i : Nat) : (⟨b, off, none⟩ : Addr).add i = ⟨b, off + i, none⟩ := by
  unfold Addr.add
  split <;> simp_all
/-- The words that lie in a row of numbers. -/
theorem ints_words {zs : List Int} (hw : ∀ n ∈ zs, (Lit.int .u64 n).wf = true) : ∃ ps : List Nat, zs = ps.map (fun p : Nat => (p : Int)) ∧ ∀ p ∈ ps, p < 18446744073709551616 := by
  induction zs with
  | nil => exact ⟨[], rfl, fun p hp => by simp at hp⟩
  | cons z zs ih =>
    obtain ⟨ps, rfl, hp⟩ := ih (fun n hn => hw n (List.mem_cons_of_mem _ hn))
    have hz := hw z (List.mem_cons_self ..)
    have h0 := bounds_u64 hz
    refine ⟨z.toNat :: ps, by simp; omega, fun p h => ?_⟩
    rcases List.mem_cons.1 h with rfl | h
    · omega
    · exact hp p h

theorem cellTypes25 : Tabg.prog.cellTypes Tabg.prog.depth 25 = some [22, 23] := by kernel_rfl
set_option maxRecDepth 100000 in
theorem spot_none {W : World} {r : Reach} {b0 b off l c : Nat} {spot : Option Nat} {v : Value} (hv : Value.okWide Tabg.prog W r b0 25 (.agg #[.slice (some ⟨b, off, spot⟩) l c, v])) : spot = none := by
  simp only [Value.okWide, Tabg.underlying25] at hv
  obtain ⟨cs, hcs, _, ts, hts, _, hi⟩ := hv
  rw [cellTypes25] at hts
  obtain rfl := Option.some.inj hts
  obtain rfl := Value.agg.inj hcs
  obtain ⟨u', hu', hk⟩ := hi 0 _ rfl
  simp at hu'
  subst hu'
  simp only [Cell.okWide, Cell.ok, Tabg.underlying22, World.has] at hk
  exact hk.2.2.2.1

set_option maxRecDepth 100000 in
/-- A state that came in: a slice of words and a number. -/
theorem open_state {H : Type} {enc : TypeId × Value → H} {W : World} {base : Nat} {r : Reach} {b0 : Nat} {sp : Nat → Bool} {hd : Bool} {v : Value} {d : DataW H} {p : List MemPlace} (hv : Value.okWide Tabg.prog W r b0 25 v)
    (h : DataW.Trod enc Tabg.prog W base sp hd 25 v d p) :
    ∃ a n c N ps, v = .agg #[.slice a n c, .int .u16 ((N : Nat) : Int)] ∧ RdU W a n c ps ∧ N < 65536 ∧ F64s ps := by
  obtain ⟨c0, c1, y0, y1, m, rfl, rfl, rfl, hy0, hy1⟩ := open_agg2 Tabg.underlying25 (by kernel_rfl) cells25 hv h
  obtain ⟨N, e1, _, wN⟩ := DataW.trod_int (k := .u16) (by kernel_rfl) hy1
  simp at e1
  subst e1
  have hN := bounds_u16 wN
  obtain ⟨M, rfl⟩ : ∃ M : Nat, N = M := ⟨N.toNat, by omega⟩
  rcases open_ints (k := .u64) Tabg.underlying22 Tabg.underlying29 (by kernel_rfl) hy0 with ⟨hcs, _⟩ | ⟨x, l, c, zs, hcs, _, hl, hm, hz, _, hcell, hwz⟩
  · simp at hcs
    subst hcs
    exact ⟨none, 0, 0, M, [], rfl, ⟨rfl, .inl ⟨rfl, rfl, rfl⟩⟩, by omega, fun p hp => by simp at hp⟩
  · simp at hcs
    subst hcs
    obtain ⟨ps, rfl, hp⟩ := ints_words hwz
    have hlz : l ≤ ps.length := by
      simp at hz
      split at hz <;> omega
    refine ⟨some x, l, c, M, ps.take l, rfl, ⟨by simp; omega, ?_⟩, by omega, fun p h => hp p (List.mem_of_mem_take h)⟩
    obtain ⟨b, off, spot⟩ := x
    have hs : spot = none := spot_none hv
    subst hs
    refine .inr ⟨b, off, rfl, fun i hi => ?_⟩
    have hi' : i < ps.length ∧ i < l := by simp at hi; omega
    have hci := hcell i (by simp; omega)
    rw [addr_plus] at hci
    rw [hci, List.getElem?_take, if_pos hi'.2]
    simp [List.getD_eq_getElem?_getD, List.getElem?_eq_getElem hi'.1]
theorem tab_global : Tabg.prog.globalNamed "math/bits.deBruijn64tab" = some 1 := by kernel_rfl
theorem tab_type : (Tabg.prog.globals[1]?).map (·.type) = some 70 := by kernel_rfl
theorem cells70 : Tabg.prog.cellsOf 70 = 64 := by kernel_rfl
theorem cells5 : Tabg.prog.cellsOf 5 = 1 := by kernel_rfl
theorem under70 : Tabg.prog.underlying 70 = some (.array 64 5) := by kernel_rfl


theorem mapM_at {α β : Type} {f : α → Option β} : ∀ {l : List α} {ys : List β}, l.mapM f = some ys → ∀ (i : Nat) (a : α), l[i]? = some a → ∃ y, ys[i]? = some y ∧ f a = some y
  | [], ys, h, i, a, hi => by simp at hi
  | x :: l, ys, h, i, a, hi => by
    simp only [List.mapM_cons, Option.bind_eq_bind, Option.bind_eq_some_iff, Option.pure_def, Option.some.injEq] at h
    obtain ⟨y, hy, ys', hys, rfl⟩ := h
    cases i with
    | zero => simp at hi; subst hi; exact ⟨y, rfl, hy⟩
    | succ i => simpa using mapM_at hys i a (by simpa using hi)
theorem int_of_trod {H : Type} {enc : TypeId × Value → H} {P : Program} {w : World} {base : Nat} {sp : Nat → Bool} {held : Bool} {fuel : Nat} {t : TypeId} {k : IntKind} {c : Value} {y : DataW H × List MemPlace}
    (ht : P.underlying t = some (.int k)) (h : DataW.trod enc P w base sp held fuel t [c] = some y) : ∃ n, c = .int k n ∧ y = (.lit (.int k n), []) := by
  cases fuel with
  | zero => simp [DataW.trod] at h
  | succ fuel =>
    cases c <;> simp [DataW.trod, ht] at h
    rename_i k' n
    obtain ⟨⟨rfl, _⟩, rfl⟩ := h
    exact ⟨n, rfl, rfl⟩
theorem under5 : Tabg.prog.underlying 5 = some (.int .u8) := by kernel_rfl
theorem laid_eq : (Rows.laid_math_bits_deBruijn64tab : DataW Unit) = .agg (dbT.map fun n : Nat => .lit (.int .u8 (n : Int))) := by rfl

theorem tab_of_laid {W : World} (h : laidMet Tabg.prog [("math/bits.deBruijn64tab", Rows.laid_math_bits_deBruijn64tab)] W) : TabG W := by
  obtain ⟨ps, ⟨g, t, cs, fuel, p, q, hg, ht, hvar, hd, _, _⟩, _⟩ := h
  obtain rfl := Option.some.inj (tab_global.symm.trans hg)
  obtain rfl := Option.some.inj (tab_type.symm.trans ht)
  cases fuel with
  | zero => simp [DataW.trod] at hd
  | succ fuel =>
    simp only [DataW.trod, under70, cells70, cells5] at hd
    split at hd
    · rename_i hl
      rw [laid_eq] at hd
      simp only [Option.map_eq_some_iff] at hd
      obtain ⟨ys, hys, hy⟩ := hd
      injection hy with hy1 hy2
      injection hy1 with hy1
      intro i hi
      obtain ⟨y, hyi, hf⟩ := mapM_at hys i i (by rw [List.getElem?_range hi])
      have hci : i < cs.toList.length := by rw [hl]; exact hi
      have e1 : List.take 1 (List.drop (i * 1) cs.toList) = [cs.toList[i]] := by
        rw [Nat.mul_one, List.drop_eq_getElem_cons hci]
        rfl
      rw [e1] at hf
      obtain ⟨n, hc, rfl⟩ := int_of_trod under5 hf
      have h1 : (ys.map (fun x => x.fst))[i]? = some (.lit (.int .u8 n)) := by rw [List.getElem?_map, hyi]; rfl
      rw [hy1, List.getElem?_map] at h1
      have hdl : i < dbT.length := hi
      rw [List.getElem?_eq_getElem hdl] at h1
      simp only [Option.map_some, Option.some.injEq, DataW.lit.injEq, Lit.int.injEq, true_and] at h1
      have h2 := World.var?_cell hg hvar i
      rw [h2, List.getElem?_eq_getElem hdl]
      have h3 : cs[i]? = some cs.toList[i] := by
        rw [← Array.getElem?_toList, List.getElem?_eq_getElem hci]
      rw [h3, hc, ← h1]
      rfl
    · cases hd

def dbCells : Array Value := (dbT.map fun n : Nat => Value.int .u8 (n : Int)).toArray
noncomputable def laidWorld (os : Os) : World :=
  { World.holding Tabg.prog os ⟨#[], #[], []⟩ with heap := (World.holding Tabg.prog os ⟨#[], #[], []⟩).heap.modify 1 fun
      | .cells _ t frozen => .cells dbCells t frozen
      | o => o }
def wArgs : Array Value := #[.agg #[.slice Option.none 0 0, .int .u16 0]]
theorem laidWorld_row (os : Os) : ((laidWorld os).forCall (fun _ _ => 0) ⟨#[], wArgs, []⟩).memory.heap[1]? = some (.cells dbCells 70 (0, 0)) := by kernel_rfl

theorem laid_witness (os : Os) : laidMet Tabg.prog [("math/bits.deBruijn64tab", Rows.laid_math_bits_deBruijn64tab)] ((laidWorld os).forCall (fun _ _ => 0) ⟨#[], wArgs, []⟩).memory := by
  refine ⟨_, ⟨1, 70, dbCells, 8, [], [], by kernel_rfl, by kernel_rfl, by kernel_rfl, by kernel_rfl, rfl, rfl⟩, by decide +kernel, fun b off h => ?_⟩
  have h' : MemPlace.cell b off ∈ MemPlace.row ⟨1, 0, Option.none⟩ 64 := by
    have e : MemPlace.row ⟨1, 0, Option.none⟩ dbCells.size ++ [] ++ [] = MemPlace.row ⟨1, 0, Option.none⟩ 64 := by rw [List.append_nil, List.append_nil]; rfl
    rw [← e]
    exact h
  unfold MemPlace.row at h'
  simp only [List.mem_map, List.mem_range, MemPlace.cell.injEq] at h'
  obtain ⟨i, hi, rfl, rfl⟩ := h'
  refine ⟨⟨_, _, laidWorld_row os⟩, fun u v hc => ?_⟩
  simp only [World.cell?, laidWorld_row os] at hc
  simp [dbCells] at hc

set_option maxRecDepth 100000 in
theorem lifted (os : Os) (started : os.Started) (H : Type) (enc : TypeId × Value → H) :
    ReturnsInHanded {} Tabg.checked os 3 .any (fun w args => (Rows.finishRightSpec.pre enc Tabg.prog Tabg.f3 [] false w args ∧ laidMet Tabg.prog [("math/bits.deBruijn64tab", Rows.laid_math_bits_deBruijn64tab)] w) ∧ sizedMet enc Tabg.prog Tabg.f3 (OpenSpec.ofChange Rows.finishRightSpec) false w args)
      (Rows.finishRightSpec.post enc Tabg.prog Tabg.f3 false true false false) := by
  refine returnsInHanded_of_change_and (C := Tabg.checked) (X := fun w _ => laidMet Tabg.prog [("math/bits.deBruijn64tab", Rows.laid_math_bits_deBruijn64tab)] w) (fun _ _ _ hh h => h.of_heap hh) own started (by kernel_rfl) Tabg.func3
    (ChangeSpec.witness_at (enc := enc) (C := Tabg.checked) (os := os) (X := fun w _ => laidMet Tabg.prog [("math/bits.deBruijn64tab", Rows.laid_math_bits_deBruijn64tab)] w) false (laidWorld os) wArgs 8 rfl (by kernel_rfl) (by kernel_rfl) (by kernel_rfl) (by kernel_rfl) (by kernel_rfl) (laid_witness os)) ?_
  intro W base args ds gs before hval0 hW hcnd _ hL _
  have hval : ∀ (j : Nat) t v, Tabg.f3.params[j]? = some t → args[j]? = some v → Value.okWide Tabg.prog W .any base t v := hval0
  have hW' := hW
  obtain ⟨p, q, hA0, hV, rfl, hfz, hnd⟩ := hW
  have hA : DataW.TrodAll enc Tabg.prog W 0 (fun _ => true) true Tabg.f3.params.toList args.toList ds p := hA0
  rw [Tabg.params3] at hA hval
  obtain ⟨v0, vs0, d0, ds0, p0, q0, hargs, rfl, rfl, h0, r0⟩ := trodAll_cons hA
  obtain ⟨rfl, rfl, rfl⟩ := trodAll_nil r0
  obtain rfl : args = #[v0] := by cases args; simp_all
  obtain ⟨rfl, rfl⟩ := trodVars_none hV
  have k0 := h0
  have lt0 : ∀ x ∈ p0, x.block < W.heap.size := by obtain ⟨m, hm⟩ := k0; exact DataW.trod_lt m _ _ _ hm
  obtain ⟨a, n, c, N, ps, rfl, hr, hN, hF⟩ := open_state (hval 0 25 v0 rfl rfl) h0
  clear hA0 hval0
  refine (finishRight_any a n c N ps W hr hN hF (tab_of_laid hL)).mono fun e W' ⟨he, bel⟩ => ?_
  subst he
  replace bel : Below W.heap.size W W' := bel
  exact ⟨_, rfl, _, _, _, [], _, [], hW', trodAll_mk1 (shut_bool Tabg.underlying4 _), (trodAll_cons_mk (Below.trod laidOut (by kernel_rfl) (of_decide_eq_true (by kernel_rfl)) k0 bel lt0) trodAll_mk0), rfl, bel.frame _, fun h => by cases h⟩

theorem over : Rows.FinishRightSaid :=
  OpenClaim.holds_of_wide 3 Tabg.f3 rfl rfl rfl rfl rfl rfl rfl ⟨rfl, rfl, rfl, rfl, rfl⟩ rfl rfl rfl rfl rfl (by kernel_rfl) Tabg.func3 (by kernel_rfl)
    (of_decide_eq_true (by kernel_rfl)) (by unfold Func.isWrapper; first | (rw [if_pos (by decide +kernel)]; kernel_rfl) | (rw [if_neg (by decide +kernel)]; exact ⟨rfl, rfl⟩))
    (fun os started H enc _ => lifted os started H enc)

/-- ████ THE STATEMENT: the tied card ████ -/
theorem finishRight_card : Rows.FinishRightCardSaid :=
  Claim7.holds_tied_plain_at .later [] [.data] true (true, "44b4e248eb031ef2afef73a9010944b4e3aebf5af85c3b541dd722bec93c53ae") false
    over (fun _ h => by cases h) (by kernel_rfl) (fun _ h => by cases h) finishRight_row_tie rfl ⟨rfl, rfl⟩ (by kernel_rfl) rfl
    (fun f fn hf hfn => by
      obtain rfl : f = 3 := Option.some.inj ((show Tabg.prog.funcNamed "fftlab/law.FinishRight" = some 3 by kernel_rfl).symm.trans hf) |>.symm
      obtain rfl : fn = Tabg.f3 := (Option.some.inj (Tabg.func3.symm.trans hfn)).symm
      exact ⟨by kernel_rfl, fun j t ht => by
        rw [Tabg.params3] at ht
        have h3 : t = 25 := by
          rcases j with _ | j
          · simpa using ht.symm
          · simp at ht
        subst h3
        exact (show Tabg.prog.wantsStandIn 25 = false by kernel_rfl)⟩)
    (by kernel_rfl)
#print axioms finishRight_card
end Go.Proofs.YgctabDoor
