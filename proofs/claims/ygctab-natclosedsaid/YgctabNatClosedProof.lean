/-
  'Rows.NatClosedSaid' ('fftlab/law.NatClosed') PROVED. The frame is the seat's own shell; the walk is YgctabNatZ.
-/
import Derived.Test.YgctabRows
import Derived.Test.YgctabNatZ
import Derived.Lib.SmallJoins
import Derived.WalkKit
import Derived.ProofKit
import Derived.OpenShut
import Derived.ShutString
import Derived.ChangeOld
import Derived.Below
namespace Go.Proofs.Ygctab.natClosed
open Go.ChangeShapes Go.WideShapes Go.ChangeAt Go.RowKit
open Go.ChangeMaps (open_string shut_string)
set_option linter.unusedVariables false

theorem own : ownKnob Tabg.prog.godebug = none := by kernel_rfl
theorem laidOut : laidOutB Tabg.prog = true := by kernel_rfl

/-- WHAT THE WALK IS TOLD OF A SLICE OF INTEGERS THAT CAME IN: it is nil; or it leads to a row of 'cap' cells, the numbers 'zs' (the first 'len' are its elements, the rest its spare room), each fitting its kind. -/
def IsRow (k : IntKind) (w : World) (a : Option Addr) (len cap : Nat) (zs : List Int) : Prop :=
  (a = none ∧ len = 0 ∧ cap = 0 ∧ zs = []) ∨
  ∃ x, a = some x ∧ len ≤ cap ∧ cap ≤ maxLen ∧ zs.length = cap ∧ (∀ i, i < zs.length → w.cell? (x.add i) = some (.int k (zs.getD i 0))) ∧ ∀ n ∈ zs, (Lit.int k n).wf = true

set_option maxRecDepth 100000 in
theorem spot24 {W : World} {r : Reach} {b0 b off l c : Nat} {spot : Option Nat} (hv : Value.okWide Tabg.prog W r b0 24 (.slice (some ⟨b, off, spot⟩) l c)) : spot = none := by
  simp only [Value.okWide, Tabg.underlying24, Cell.okWide, Cell.ok, World.has] at hv
  exact hv.2.2.2.1

theorem addr_at (b off i : Nat) : (⟨b, off, none⟩ : Addr).add i = ⟨b, off + i, none⟩ := by
  unfold Addr.add
  split <;> simp_all

/-- The digits that lie in a row of bytes. -/
theorem bytes_digs {zs : List Int} (hw : ∀ n ∈ zs, (Lit.int .u8 n).wf = true) : ∃ ds : List Nat, zs = ds.map (fun p : Nat => (p : Int)) ∧ Digs ds := by
  induction zs with
  | nil => exact ⟨[], rfl, Digs.nil⟩
  | cons z zs ih =>
    obtain ⟨ds, rfl, hp⟩ := ih (fun n hn => hw n (List.mem_cons_of_mem _ hn))
    have h0 := bounds_u8 (hw z (List.mem_cons_self ..))
    refine ⟨z.toNat :: ds, by simp; omega, fun p h => ?_⟩
    rcases List.mem_cons.1 h with rfl | h
    · omega
    · exact hp p h

/-- A row of bytes that came in, as the walk reads it. -/
theorem rdB_of_row {w : World} {a : Option Addr} {len cap : Nat} {zs : List Int} (hs : ∀ x, a = some x → x.spot = none) (h : IsRow .u8 w a len cap zs) :
    ∃ ds, RdB w a len ds ∧ len ≤ cap ∧ Pl a len ∧ (a = none → cap = 0) := by
  rcases h with ⟨rfl, rfl, rfl, rfl⟩ | ⟨x, rfl, hl, hm, hz, hc, hw⟩
  · exact ⟨[], RdB.nil _ _, Nat.le_refl _, .inl ⟨rfl, rfl⟩, fun _ => rfl⟩
  · obtain ⟨ds, rfl, hp⟩ := bytes_digs hw
    have hlz : len ≤ ds.length := by simp at hz; omega
    obtain ⟨b, off, spot⟩ := x
    have hsp : spot = none := hs _ rfl
    subst hsp
    refine ⟨ds.take len, ⟨by simp; omega, hp.take len, fun i hi => ?_⟩, hl, .inr ⟨b, off, rfl⟩, fun h => by cases h⟩
    have hi' : i < ds.length ∧ i < len := by simp at hi; omega
    have hci := hc i (by simp; omega)
    rw [addr_at] at hci
    refine ⟨b, off, rfl, ?_⟩
    rw [hci, List.getElem?_take, if_pos hi'.2]
    simp [List.getD_eq_getElem?_getD, List.getElem?_eq_getElem hi'.1]

theorem long_any (b off n c : Nat) (w : World) (hm : 1024 < n) (hc : n ≤ c) :
    Calls Tabg.prog 61 #[.slice (some ⟨b, off, none⟩) n c, .int .i64 1024] w fun e w' => e = .returned (.slice (some ⟨b, off, none⟩) 1024 1024) ∧ w = w' := by
  have hs := fun w' => run_slice0 (P := Tabg.prog) 24 5 1 Tabg.underlying24 (by kernel_rfl) b off n c 1024 1024 .i64 .i64 1024 1024 rfl rfl (Nat.le_refl _) (by omega) w'
  have g : (1024 : Int) < (n : Int) := by omega
  go_enter Tabg.func61, Tabg.ntmps61
  go_wp2
  go_ret
  exact ⟨rfl, rfl⟩
theorem short_any (a : Option Addr) (n c : Nat) (w : World) (hm : n ≤ 1024) :
    Calls Tabg.prog 61 #[.slice a n c, .int .i64 1024] w fun e w' => e = .returned (.slice a n c) ∧ w = w' := by
  have g : decide ((1024 : Int) < (n : Int)) = false := decide_eq_false (by omega)
  have g' : (n : Int) ≤ 1024 := by omega
  go_enter Tabg.func61, Tabg.ntmps61
  go_wp2
  go_ret
  exact ⟨rfl, rfl⟩

/-- digits, in one: what is left is short. -/
theorem digs_any {w : World} {a : Option Addr} {n c : Nat} {ds : List Nat} (h : RdB w a n ds) (hc : n ≤ c) (hp : Pl a n) (hn : a = none → c = 0) :
    ∃ m d es, (∀ w', Calls Tabg.prog 61 #[.slice a n c, .int .i64 1024] w' fun e w'' => e = .returned (.slice a m d) ∧ w' = w'') ∧ RdB w a m es ∧ Pl a m ∧ (a = none → d = 0) ∧ m ≤ 1024 := by
  by_cases h1 : 1024 < n
  · obtain ⟨b, off, rfl⟩ : ∃ b off, a = some ⟨b, off, none⟩ := by
      rcases hp with ⟨_, h2⟩ | h2
      · omega
      · exact h2
    exact ⟨1024, 1024, ds.take 1024, fun w' => long_any b off n c w' h1 hc, h.take (by omega), .inr ⟨b, off, rfl⟩, (fun h => nomatch h), Nat.le_refl _⟩
  · exact ⟨n, c, ds, fun w' => short_any a n c w' (by omega), h, hp, hn, by omega⟩

theorem walk (a0 : Option Addr) (len0 cap0 : Nat) (z0 : List Int) (a1 : Option Addr) (len1 cap1 : Nat) (z1 : List Int) (a2 : Int) (w : World) (s0 : ∀ x, a0 = some x → x.spot = none) (s1 : ∀ x, a1 = some x → x.spot = none)
    (w0 : IsRow .u8 w a0 len0 cap0 z0) (w1 : IsRow .u8 w a1 len1 cap1 z1) (w2 : (Lit.int .u8 a2).wf = true) :
    Calls Tabg.prog 12 #[.slice a0 len0 cap0, .slice a1 len1 cap1, .int .u8 a2] w fun e w' => e = .returned (.bool true) ∧ Below w.heap.size w w' := by
  obtain ⟨xs, r0, c0, p0, q0⟩ := rdB_of_row s0 w0
  obtain ⟨ys, r1, c1, p1, q1⟩ := rdB_of_row s1 w1
  obtain ⟨n, d, es, D0, R0, P0, Q0, h0⟩ := digs_any r0 c0 p0 q0
  obtain ⟨m, d', fs, D1, R1, P1, Q1, h1⟩ := digs_any r1 c1 p1 q1
  have b2 := bounds_u8 w2
  obtain ⟨lv, rfl⟩ : ∃ lv : Nat, a2 = lv := ⟨a2.toNat, by omega⟩
  exact (natc_any a0 a1 a0 a1 len0 cap0 len1 cap1 n m d d' lv es fs w (D0 w) (fun w' _ => D1 w') R0 R1 P0 P1 Q0 Q1 h0 h1 (by omega)).mono (fun e w' h => h)

/-! ### THE ROW's STEP: WRITTEN OUT: LEAVE IT -/
set_option maxRecDepth 100000 in
theorem lifted (os : Os) (started : os.Started) (H : Type) (enc : TypeId × Value → H) :
    ReturnsInHanded {} Tabg.checked os 12 .any (Rows.natClosedSpec.pre6 enc Tabg.prog Tabg.f12 Rows.natClosedRow.domain false) (Rows.natClosedSpec.post enc Tabg.prog Tabg.f12 false true false false) := by
  refine returnsInHanded_of_change (C := Tabg.checked) own started (by kernel_rfl) Tabg.func12
    (ChangeSpec.witness6 (enc := enc) (C := Tabg.checked) false ⟨#[], #[.slice none 0 0, .slice none 0 0, .int .u8 0], []⟩ 8 (by kernel_rfl) (by kernel_rfl) (by kernel_rfl) (by kernel_rfl)) ?_
  intro W base args ds gs before hval0 hW hcnd _
  have hval : ∀ (j : Nat) t v, Tabg.f12.params[j]? = some t → args[j]? = some v → Value.okWide Tabg.prog W .any base t v := hval0
  have hW' := hW
  obtain ⟨p, q, hA0, hV, rfl, hfz, hnd⟩ := hW
  have hA : DataW.TrodAll enc Tabg.prog W 0 (fun _ => true) true Tabg.f12.params.toList args.toList ds p := hA0
  rw [Tabg.params12] at hA hval
  obtain ⟨v0, vs0, d0, ds0, p0, q0, hargs, rfl, rfl, h0, r0⟩ := trodAll_cons hA
  obtain ⟨v1, vs1, d1, ds1, p1, q1, rfl, rfl, rfl, h1, r1⟩ := trodAll_cons r0
  obtain ⟨v2, vs2, d2, ds2, p2, q2, rfl, rfl, rfl, h2, r2⟩ := trodAll_cons r1
  obtain ⟨rfl, rfl, rfl⟩ := trodAll_nil r2
  obtain rfl : args = #[v0, v1, v2] := by cases args; simp_all
  obtain ⟨rfl, rfl⟩ := trodVars_none hV
  obtain ⟨a0, len0, cap0, rfl⟩ := okWide_slice Tabg.underlying24 (hval 0 24 v0 rfl rfl)
  have k0 := h0
  have lt0 : ∀ x ∈ p0, x.block < W.heap.size := by obtain ⟨m, hm⟩ := k0; exact DataW.trod_lt m _ _ _ hm
  have s0 : ∀ x, a0 = some x → x.spot = none := by
    intro x hx
    subst hx
    obtain ⟨b, off, spot⟩ := x
    exact spot24 (hval 0 24 _ rfl rfl)
  obtain ⟨z0, w0⟩ : ∃ zs, IsRow .u8 W a0 len0 cap0 zs := by
    obtain ⟨fuel, hf⟩ := h0
    rcases open_ints Tabg.underlying24 Tabg.underlying5 (by kernel_rfl) hf with ⟨hcs, _⟩ | ⟨x, l, c, zs, hcs, _, hl, hm, hz, _, hcell, hwz⟩
    · simp [Value.cells] at hcs
      obtain ⟨rfl, rfl, rfl⟩ := hcs
      exact ⟨[], .inl ⟨rfl, rfl, rfl, rfl⟩⟩
    · simp [Value.cells] at hcs
      obtain ⟨rfl, rfl, rfl⟩ := hcs
      exact ⟨zs, .inr ⟨_, rfl, hl, hm, by simpa using hz, hcell, hwz⟩⟩
  obtain ⟨a1, len1, cap1, rfl⟩ := okWide_slice Tabg.underlying24 (hval 1 24 v1 rfl rfl)
  have k1 := h1
  have lt1 : ∀ x ∈ p1, x.block < W.heap.size := by obtain ⟨m, hm⟩ := k1; exact DataW.trod_lt m _ _ _ hm
  have s1 : ∀ x, a1 = some x → x.spot = none := by
    intro x hx
    subst hx
    obtain ⟨b, off, spot⟩ := x
    exact spot24 (hval 1 24 _ rfl rfl)
  obtain ⟨z1, w1⟩ : ∃ zs, IsRow .u8 W a1 len1 cap1 zs := by
    obtain ⟨fuel, hf⟩ := h1
    rcases open_ints Tabg.underlying24 Tabg.underlying5 (by kernel_rfl) hf with ⟨hcs, _⟩ | ⟨x, l, c, zs, hcs, _, hl, hm, hz, _, hcell, hwz⟩
    · simp [Value.cells] at hcs
      obtain ⟨rfl, rfl, rfl⟩ := hcs
      exact ⟨[], .inl ⟨rfl, rfl, rfl, rfl⟩⟩
    · simp [Value.cells] at hcs
      obtain ⟨rfl, rfl, rfl⟩ := hcs
      exact ⟨zs, .inr ⟨_, rfl, hl, hm, by simpa using hz, hcell, hwz⟩⟩
  obtain ⟨a2, rfl, rfl, rfl, w2⟩ := open_int Tabg.underlying5 (hval 2 5 v2 rfl rfl) h2
  clear hA0 hval0
  refine (walk a0 len0 cap0 z0 a1 len1 cap1 z1 a2 W s0 s1 w0 w1 w2).mono fun e W' ⟨he, bel⟩ => ?_
  subst he
  exact ⟨_, rfl, _, _, _, [], _, [], hW', trodAll_mk1 (shut_bool Tabg.underlying4 _), (trodAll_cons_mk (Below.trod laidOut (by kernel_rfl) (of_decide_eq_true (by kernel_rfl)) k0 bel lt0) (trodAll_cons_mk (Below.trod laidOut (by kernel_rfl) (of_decide_eq_true (by kernel_rfl)) k1 bel lt1) (trodAll_cons_mk (shut_int Tabg.underlying5 w2) trodAll_mk0))), rfl, bel.frame _, fun h => by cases h⟩

theorem over : Rows.natClosedRow.holds Tabg.pinned (OpenSpec.ofChange Rows.natClosedSpec) :=
  OpenClaim.holds_of_wide 12 Tabg.f12 rfl rfl rfl rfl rfl rfl rfl ⟨rfl, rfl, rfl, rfl, rfl⟩ rfl rfl rfl rfl rfl (by kernel_rfl) Tabg.func12 (by kernel_rfl)
    (of_decide_eq_true (by kernel_rfl)) (by unfold Func.isWrapper; first | (rw [if_pos (by decide +kernel)]; kernel_rfl) | (rw [if_neg (by decide +kernel)]; exact ⟨rfl, rfl⟩))
    (fun os started H enc _ => lifted os started H enc)

/-- ████ THE STATEMENT ████ -/
theorem proved : Rows.NatClosedSaid := over
#print axioms proved
end Go.Proofs.Ygctab.natClosed
