import Derived.Test.YgctabTowG
import Derived.Deep.SlicePairs
import Derived.Lib.SmallJoins
import Derived.WalkKit
import Derived.ProofKit
import Derived.OpenShut
import Derived.ShutString
import Derived.ChangeOld
import Derived.Below
namespace Go.Proofs.Ygctab
open Go.ChangeShapes Go.WideShapes Go.ChangeAt Go.RowKit
set_option linter.unusedVariables false

theorem u22 : Tabg.prog.underlying 22 = some (.slice 106) := by kernel_rfl
def twoF : TypeDesc → Option (Nat × Nat × TypeId × TypeId)
  | .struct fs => match fs.toList with
    | [f0, f1] => some (f0.offset, f1.offset, f0.type, f1.type)
    | _ => none
  | _ => none
theorem u106' : (Tabg.prog.underlying 106).bind twoF = some (0, 1, 5, 24) := by kernel_rfl
theorem u106 : ∃ f0 f1 : Field, Tabg.prog.underlying 106 = some (.struct #[f0, f1]) ∧ f0.offset = 0 ∧ f1.offset = 1 ∧ f0.type = 5 ∧ f1.type = 24 := by
  obtain ⟨d, hd, h2⟩ := Option.bind_eq_some_iff.1 u106'
  cases d with
  | struct fs =>
    obtain ⟨l⟩ := fs
    unfold twoF at h2
    match l, h2 with
    | [f0, f1], h2 =>
      simp at h2
      exact ⟨f0, f1, hd, h2.1, h2.2.1, h2.2.2.1, h2.2.2.2⟩
  | _ => simp [twoF] at h2
theorem cells106 : Tabg.prog.cellsOf 106 = 2 := by kernel_rfl
theorem cells5 : Tabg.prog.cellsOf 5 = 1 := by kernel_rfl
theorem cells24 : Tabg.prog.cellsOf 24 = 1 := by kernel_rfl

theorem exists_list {α : Type} (d : α) (P : Nat → α → Prop) (n : Nat) (h : ∀ i, i < n → ∃ x, P i x) : ∃ l : List α, l.length = n ∧ ∀ i, i < n → P i (l[i]?.getD d) := by
  induction n with
  | zero => exact ⟨[], rfl, fun i hi => absurd hi (Nat.not_lt_zero _)⟩
  | succ n ih =>
    obtain ⟨l, h1, h2⟩ := ih (fun i hi => h i (by omega))
    obtain ⟨x, hx⟩ := h n (by omega)
    refine ⟨l ++ [x], by simp [h1], fun i hi => ?_⟩
    by_cases hn : i < n
    · rw [List.getElem?_append_left (by omega)]
      exact h2 i hn
    · obtain rfl : i = n := by omega
      rw [List.getElem?_append_right (by omega), h1, Nat.sub_self]
      exact hx
theorem addr_of_cell {W : World} {a : Addr} {v : Value} (h : W.cell? (a.add 0) = some v) : a.spot = none := by
  obtain ⟨b, off, spot⟩ := a
  cases spot with
  | none => rfl
  | some s =>
    exfalso
    have e : (⟨b, off, some s⟩ : Addr).add 0 = ⟨b, off, some s⟩ := by simp [Addr.add]
    rw [e] at h
    unfold World.cell? at h
    split at h
    · simp at h
    · cases h
theorem addr_at3 (b off i : Nat) : (⟨b, off, none⟩ : Addr).add i = ⟨b, off + i, none⟩ := by
  unfold Addr.add
  split <;> simp_all
/-- The digits that lie in a row of bytes. -/
theorem bytes_digs3 {zs : List Int} (hw : ∀ n ∈ zs, (Lit.int .u8 n).wf = true) : ∃ ds : List Nat, zs = ds.map (fun p : Nat => (p : Int)) ∧ Digs ds := by
  induction zs with
  | nil => exact ⟨[], rfl, Digs.nil⟩
  | cons z zs ih =>
    obtain ⟨ds, rfl, hp⟩ := ih (fun n hn => hw n (List.mem_cons_of_mem _ hn))
    have h0 := bounds_u8 (hw z (List.mem_cons_self ..))
    refine ⟨z.toNat :: ds, by simp; omega, fun p h => ?_⟩
    rcases List.mem_cons.1 h with rfl | h
    · omega
    · exact hp p h
/-- A slice of bytes that lies in memory. -/
theorem inp_of {H : Type} {enc : TypeId × Value → H} {W : World} {base fuel : Nat} {v : Value} {x : DataW H × List MemPlace} (h : DataW.trod enc Tabg.prog W base (fun _ => true) true fuel 24 [v] = some x) : ∃ A l c ds, v = .slice A l c ∧ Inp W A l c ds := by
  rcases open_ints Tabg.underlying24 Tabg.underlying5 (by kernel_rfl) h with ⟨hcs, _⟩ | ⟨a, l, c, zs, hcs, _, hl, hm, hz, _, hcell, hwz⟩
  · cases hcs
    exact ⟨none, 0, 0, [], rfl, RdB.nil _ _, .inl (.inl ⟨rfl, rfl⟩), Nat.le_refl _, fun _ => rfl⟩
  · cases hcs
    obtain ⟨ds, rfl, hp⟩ := bytes_digs3 hwz
    have hz' : ds.length = c := by simpa using hz
    by_cases h0 : c = 0
    · subst h0
      obtain rfl : l = 0 := by omega
      exact ⟨some a, 0, 0, [], rfl, RdB.nil _ _, .inr ⟨rfl, rfl⟩, Nat.le_refl _, nofun⟩
    · have hsp := addr_of_cell (hcell 0 (by simp; omega))
      obtain ⟨b, off, spot⟩ := a
      have hsp' : spot = none := hsp
      subst hsp'
      refine ⟨_, l, c, ds.take l, rfl, ⟨by simp; omega, hp.take l, fun i hi => ?_⟩, .inl (.inr ⟨b, off, rfl⟩), hl, nofun⟩
      have hi' : i < ds.length ∧ i < l := by simp at hi; omega
      have hci := hcell i (by simp; omega)
      rw [addr_at3] at hci
      refine ⟨b, off, rfl, ?_⟩
      rw [hci, List.getElem?_take, if_pos hi'.2]
      simp [List.getD_eq_getElem?_getD, List.getElem?_eq_getElem hi'.1]
/-- A script that came in. -/
theorem open_script {H : Type} {enc : TypeId × Value → H} {W : World} {base : Nat} {a : Option Addr} {len cap : Nat} {d : DataW H} {p : List MemPlace} (hs : ∀ x, a = some x → x.spot = none)
    (h : DataW.Trod enc Tabg.prog W base (fun _ => true) true 22 (.slice a len cap) d p) :
    len ≤ cap ∧ ∃ ops : List (Nat × Nat), len = ops.length ∧ ∀ i, i < len → ∃ b off A l c ds, a = some ⟨b, off, none⟩ ∧ W.cell? ⟨b, off + i * 2, none⟩ = some (.int .u8 (((ops[i]?.getD (0, 0)).1 : Nat) : Int)) ∧ W.cell? ⟨b, off + i * 2 + 1, none⟩ = some (.slice A l c) ∧ Inp W A l c ds ∧ (ops[i]?.getD (0, 0)).1 < 256 ∧ bv (ds.take 512) = (ops[i]?.getD (0, 0)).2 := by
  obtain ⟨fuel, hf⟩ := h
  obtain ⟨f0, f1, hu, o0, o1, t0, t1⟩ := u106
  rcases Deep.open_slice_pairs u22 hu cells106 o0 o1 (by rw [t0]; exact cells5) (by rw [t1]; exact cells24) hf with ⟨hcs, _⟩ | ⟨x, l, c, m, n, V0, V1, D0, D1, P0, P1, hcs, _, hl, hm, hmm, _, hx⟩
  · simp [Value.cells] at hcs
    obtain ⟨rfl, rfl, rfl⟩ := hcs
    exact ⟨Nat.le_refl _, [], rfl, fun i hi => absurd hi (Nat.not_lt_zero _)⟩
  · simp [Value.cells] at hcs
    obtain ⟨rfl, rfl, rfl⟩ := hcs
    obtain ⟨b, off, spot⟩ := x
    have hsp : spot = none := hs _ rfl
    subst hsp
    refine ⟨hl, ?_⟩
    have each : ∀ i, i < len → ∃ o : Nat × Nat, ∃ A l c ds, W.cell? ⟨b, off + i * 2, none⟩ = some (.int .u8 ((o.1 : Nat) : Int)) ∧ W.cell? ⟨b, off + i * 2 + 1, none⟩ = some (.slice A l c) ∧ Inp W A l c ds ∧ o.1 < 256 ∧ bv (ds.take 512) = o.2 := fun i hi => by
      obtain ⟨e0, e1, g0, g1⟩ := hx i (by rw [hmm]; simp; omega)
      rw [t0] at g0
      rw [t1] at g1
      obtain ⟨N, hN, _, wN⟩ := DataW.trod_int Tabg.underlying5 g0
      obtain ⟨A, l', c', ds, hA, hI⟩ := inp_of g1
      have hb := bounds_u8 wN
      rw [addr_at3] at e0 e1
      simp at hN
      refine ⟨(N.toNat, bv (ds.take 512)), A, l', c', ds, ?_, ?_, hI, by show N.toNat < 256; omega, rfl⟩
      · rw [e0, hN]
        show some (Value.int .u8 N) = some (.int .u8 ((N.toNat : Nat) : Int))
        rw [Int.toNat_of_nonneg hb.1]
      · rw [← hA, ← Nat.add_assoc] at *
        exact e1
    obtain ⟨ops, h1, h2⟩ := exists_list (0, 0) _ len each
    refine ⟨ops, h1.symm, fun i hi => ?_⟩
    obtain ⟨A, l', c', ds, q⟩ := h2 i hi
    exact ⟨b, off, A, l', c', ds, rfl, q⟩
end Go.Proofs.Ygctab
