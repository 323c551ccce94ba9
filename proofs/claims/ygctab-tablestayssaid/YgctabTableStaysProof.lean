/-
  'Rows.TableStaysSaid' ('fftlab/law.TableStays') PROVED. The frame is the seat's own shell, with the row's premise of size read; the walk is YgctabTabE.
-/
import Derived.Test.YgctabRows
import Derived.Test.YgctabTabE
import Derived.Test.YgctabFrame
import Derived.SizedLaws
import Derived.WalkKit
import Derived.ProofKit
import Derived.OpenShut
import Derived.ShutString
import Derived.ChangeOld
import Derived.Below
namespace Go.Proofs.Ygctab.tableStays
open Go.ChangeShapes Go.WideShapes Go.ChangeAt Go.RowKit
open Go.ChangeMaps (open_string shut_string)
set_option linter.unusedVariables false

theorem own : ownKnob Tabg.prog.godebug = none := by kernel_rfl
theorem laidOut : laidOutB Tabg.prog = true := by kernel_rfl

/-- WHAT THE WALK IS TOLD OF A SLICE OF INTEGERS THAT CAME IN: it is nil; or it leads to a row of 'cap' cells, the numbers 'zs' (the first 'len' are its elements, the rest its spare room), each fitting its kind. -/
def IsRow (k : IntKind) (w : World) (a : Option Addr) (len cap : Nat) (zs : List Int) : Prop :=
  (a = none ∧ len = 0 ∧ cap = 0 ∧ zs = []) ∨
  ∃ x, a = some x ∧ len ≤ cap ∧ cap ≤ maxLen ∧ zs.length = cap ∧ (∀ i, i < zs.length → w.cell? (x.add i) = some (.int k (zs.getD i 0))) ∧ ∀ n ∈ zs, (Lit.int k n).wf = true

set_option maxRecDepth 100000 in
theorem spot57 {W : World} {r : Reach} {b0 b off l c : Nat} {spot : Option Nat} (hv : Value.okWide Tabg.prog W r b0 57 (.slice (some ⟨b, off, spot⟩) l c)) : spot = none := by
  simp only [Value.okWide, Tabg.underlying57, Cell.okWide, Cell.ok, World.has] at hv
  exact hv.2.2.2.1

/-- A row of words that came in, as the walk reads it. -/
theorem rdU_of_row {w : World} {a : Option Addr} {len cap : Nat} {zs : List Int} (hs : ∀ x, a = some x → x.spot = none) (h : IsRow .u64 w a len cap zs) : ∃ ps, RdU w a len cap ps ∧ F64s ps := by
  rcases h with ⟨rfl, rfl, rfl, rfl⟩ | ⟨x, rfl, hl, hm, hz, hc, hw⟩
  · exact ⟨[], ⟨rfl, .inl ⟨rfl, rfl, rfl⟩⟩, fun p hp => by simp at hp⟩
  · obtain ⟨ps, rfl, hp⟩ := ints_words hw
    have hlz : len ≤ ps.length := by simp at hz; omega
    refine ⟨ps.take len, ⟨by simp; omega, ?_⟩, fun p h => hp p (List.mem_of_mem_take h)⟩
    obtain ⟨b, off, spot⟩ := x
    have hsp : spot = none := hs _ rfl
    subst hsp
    refine .inr ⟨b, off, rfl, fun i hi => ?_⟩
    have hi' : i < ps.length ∧ i < len := by simp at hi; omega
    have hci := hc i (by simp; omega)
    rw [addr_plus] at hci
    rw [hci, List.getElem?_take, if_pos hi'.2]
    simp [List.getD_eq_getElem?_getD, List.getElem?_eq_getElem hi'.1]

theorem walk (a0 : Option Addr) (len0 cap0 : Nat) (z0 : List Int) (a1 : Option Addr) (len1 cap1 : Nat) (z1 : List Int) (a2 : Int) (w : World) (s0 : ∀ x, a0 = some x → x.spot = none) (s1 : ∀ x, a1 = some x → x.spot = none)
    (l0 : len0 ≤ 35184372088832) (l1 : len1 ≤ 35184372088832) (w0 : IsRow .u64 w a0 len0 cap0 z0) (w1 : IsRow .u64 w a1 len1 cap1 z1) (w2 : (Lit.int .u8 a2).wf = true) :
    Calls Tabg.prog 10 #[.slice a0 len0 cap0, .slice a1 len1 cap1, .int .u8 a2] w fun e w' => e = .returned (.bool true) ∧ Below w.heap.size w w' := by
  obtain ⟨ps, r0, f0⟩ := rdU_of_row s0 w0
  obtain ⟨qs, r1, f1⟩ := rdU_of_row s1 w1
  have b2 := bounds_u8 w2
  obtain ⟨t, rfl⟩ : ∃ t : Nat, a2 = t := ⟨a2.toNat, by omega⟩
  exact (tabs_any a0 a1 len0 cap0 len1 cap1 t ps qs w r0 r1 l0 l1 f0 (by omega)).mono (fun e w' h => h)

/-! ### THE ROW's STEP: WRITTEN OUT: LEAVE IT -/
set_option maxRecDepth 100000 in
theorem lifted (os : Os) (started : os.Started) (H : Type) (enc : TypeId × Value → H) :
    ReturnsInHanded {} Tabg.checked os 10 .any (Rows.tableStaysSpec.pre6 enc Tabg.prog Tabg.f10 Rows.tableStaysRow.domain false) (Rows.tableStaysSpec.post enc Tabg.prog Tabg.f10 false true false false) := by
  refine returnsInHanded_of_change_sized (C := Tabg.checked) own started (by kernel_rfl) Tabg.func10
    (ChangeSpec.witness6 (enc := enc) (C := Tabg.checked) false ⟨#[], #[.slice none 0 0, .slice none 0 0, .int .u8 0], []⟩ 8 (by kernel_rfl) (by kernel_rfl) (by kernel_rfl) (by kernel_rfl)) ?_
  intro W base args ds gs before hval0 hW hcnd hsz0 _
  have hsz : (DataW.weightsEach Tabg.prog (Tabg.f10.params.toList ++ Rows.tableStaysSpec.plain.varTypes Tabg.prog) (ds ++ gs)).all (· ≤ reachBytes) = true := hsz0
  clear hsz0
  have hval : ∀ (j : Nat) t v, Tabg.f10.params[j]? = some t → args[j]? = some v → Value.okWide Tabg.prog W .any base t v := hval0
  have hW' := hW
  obtain ⟨p, q, hA0, hV, rfl, hfz, hnd⟩ := hW
  have hA : DataW.TrodAll enc Tabg.prog W 0 (fun _ => true) true Tabg.f10.params.toList args.toList ds p := hA0
  rw [Tabg.params10] at hA hval hsz
  obtain ⟨v0, vs0, d0, ds0, p0, q0, hargs, rfl, rfl, h0, r0⟩ := trodAll_cons hA
  obtain ⟨v1, vs1, d1, ds1, p1, q1, rfl, rfl, rfl, h1, r1⟩ := trodAll_cons r0
  obtain ⟨v2, vs2, d2, ds2, p2, q2, rfl, rfl, rfl, h2, r2⟩ := trodAll_cons r1
  obtain ⟨rfl, rfl, rfl⟩ := trodAll_nil r2
  obtain rfl : args = #[v0, v1, v2] := by cases args; simp_all
  obtain ⟨rfl, rfl⟩ := trodVars_none hV
  obtain ⟨a0, len0, cap0, rfl⟩ := okWide_slice Tabg.underlying57 (hval 0 57 v0 rfl rfl)
  have k0 := h0
  have lt0 : ∀ x ∈ p0, x.block < W.heap.size := by obtain ⟨m, hm⟩ := k0; exact DataW.trod_lt m _ _ _ hm
  have s0 : ∀ x, a0 = some x → x.spot = none := by
    intro x hx
    subst hx
    obtain ⟨b, off, spot⟩ := x
    exact spot57 (hval 0 57 _ rfl rfl)
  obtain ⟨z0, w0, l0⟩ : ∃ zs, IsRow .u64 W a0 len0 cap0 zs ∧ len0 ≤ 35184372088832 := by
    obtain ⟨fuel, hf⟩ := h0
    rcases open_ints Tabg.underlying57 Tabg.underlying26 (by kernel_rfl) hf with ⟨hcs, _⟩ | ⟨x, l, c, zs, hcs, _, hl, hm, hz, hd, hcell, hwz⟩
    · simp [Value.cells] at hcs
      obtain ⟨rfl, rfl, rfl⟩ := hcs
      exact ⟨[], .inl ⟨rfl, rfl, rfl, rfl⟩, by omega⟩
    · simp [Value.cells] at hcs
      obtain ⟨rfl, rfl, rfl⟩ := hcs
      have hd' := (Prod.mk.inj hd).1
      subst hd'
      have hq := sized_slice hsz (j := 0) (t := 57) (e := 26) rfl rfl Tabg.underlying57
      have hb : Tabg.prog.bytesOf 26 = 8 := by kernel_rfl
      have hzl : zs.length = cap0 := by simpa using hz
      rw [hb] at hq
      simp only [lits, List.length_map, List.length_take, List.length_drop, reachBytes] at hq
      exact ⟨zs, .inr ⟨_, rfl, hl, hm, by simpa using hz, hcell, hwz⟩, by omega⟩
  obtain ⟨a1, len1, cap1, rfl⟩ := okWide_slice Tabg.underlying57 (hval 1 57 v1 rfl rfl)
  have k1 := h1
  have lt1 : ∀ x ∈ p1, x.block < W.heap.size := by obtain ⟨m, hm⟩ := k1; exact DataW.trod_lt m _ _ _ hm
  have s1 : ∀ x, a1 = some x → x.spot = none := by
    intro x hx
    subst hx
    obtain ⟨b, off, spot⟩ := x
    exact spot57 (hval 1 57 _ rfl rfl)
  obtain ⟨z1, w1, l1⟩ : ∃ zs, IsRow .u64 W a1 len1 cap1 zs ∧ len1 ≤ 35184372088832 := by
    obtain ⟨fuel, hf⟩ := h1
    rcases open_ints Tabg.underlying57 Tabg.underlying26 (by kernel_rfl) hf with ⟨hcs, _⟩ | ⟨x, l, c, zs, hcs, _, hl, hm, hz, hd, hcell, hwz⟩
    · simp [Value.cells] at hcs
      obtain ⟨rfl, rfl, rfl⟩ := hcs
      exact ⟨[], .inl ⟨rfl, rfl, rfl, rfl⟩, by omega⟩
    · simp [Value.cells] at hcs
      obtain ⟨rfl, rfl, rfl⟩ := hcs
      have hd' := (Prod.mk.inj hd).1
      subst hd'
      have hq := sized_slice hsz (j := 1) (t := 57) (e := 26) rfl rfl Tabg.underlying57
      have hb : Tabg.prog.bytesOf 26 = 8 := by kernel_rfl
      have hzl : zs.length = cap1 := by simpa using hz
      rw [hb] at hq
      simp only [lits, List.length_map, List.length_take, List.length_drop, reachBytes] at hq
      exact ⟨zs, .inr ⟨_, rfl, hl, hm, by simpa using hz, hcell, hwz⟩, by omega⟩
  obtain ⟨a2, rfl, rfl, rfl, w2⟩ := open_int Tabg.underlying5 (hval 2 5 v2 rfl rfl) h2
  clear hA0 hval0
  refine (walk a0 len0 cap0 z0 a1 len1 cap1 z1 a2 W s0 s1 l0 l1 w0 w1 w2).mono fun e W' ⟨he, bel⟩ => ?_
  subst he
  exact ⟨_, rfl, _, _, _, [], _, [], hW', trodAll_mk1 (shut_bool Tabg.underlying4 _), (trodAll_cons_mk (Below.trod laidOut (by kernel_rfl) (of_decide_eq_true (by kernel_rfl)) k0 bel lt0) (trodAll_cons_mk (Below.trod laidOut (by kernel_rfl) (of_decide_eq_true (by kernel_rfl)) k1 bel lt1) (trodAll_cons_mk (shut_int Tabg.underlying5 w2) trodAll_mk0))), rfl, bel.frame _, fun h => by cases h⟩

theorem over : Rows.tableStaysRow.holds Tabg.pinned (OpenSpec.ofChange Rows.tableStaysSpec) :=
  OpenClaim.holds_of_wide 10 Tabg.f10 rfl rfl rfl rfl rfl rfl rfl ⟨rfl, rfl, rfl, rfl, rfl⟩ rfl rfl rfl rfl rfl (by kernel_rfl) Tabg.func10 (by kernel_rfl)
    (of_decide_eq_true (by kernel_rfl)) (by unfold Func.isWrapper; first | (rw [if_pos (by decide +kernel)]; kernel_rfl) | (rw [if_neg (by decide +kernel)]; exact ⟨rfl, rfl⟩))
    (fun os started H enc _ => lifted os started H enc)

/-- ████ THE STATEMENT ████ -/
theorem proved : Rows.TableStaysSaid := over
#print axioms proved
end Go.Proofs.Ygctab.tableStays
