/-
  MEMORY: small words on what a world holds, over no program: 'Up' (nothing old has turned), 'Own' (a block and all its cells), 'RdI' (a slice read as numbers).
-/
import Derived.WalkKit
import Derived.WalkSpells
import Derived.WalkLawsBesides
import Derived.Deep.QuietTactic
import Derived.BigQuiet
import Derived.Deep.OwnRows
import Derived.Deep.DeepCutAuto
namespace Go.Proofs.Ygctab
open Go.RowKit
set_option linter.unusedVariables false

theorem ret_int {k : IntKind} {a b : Int} (h : a = b) : Ending.returned (.int k a) = .returned (.int k b) := by rw [h]
theorem ret_bool {a b : Bool} (h : a = b) : Ending.returned (.bool a) = .returned (.bool b) := by rw [h]

/-- Nothing that was there has turned. -/
def Up (w w' : World) : Prop := Below w.heap.size w w'

theorem Up.refl (w : World) : Up w w := Below.refl _ _
theorem Up.size {w w' : World} (h : Up w w') : w.heap.size ≤ w'.heap.size := Below.size h
theorem Up.trans {a b c : World} (h : Up a b) (k : Up b c) : Up a c := Below.trans h (Below.mono k h.size)
theorem Up.drew {a w : World} (h : Up a w) : Up a w.drew := Below.drew h
theorem Up.drewN {a w : World} (h : Up a w) (n : Nat) : Up a (w.drewN n) := by
  induction n generalizing w with
  | zero => exact h
  | succ n ih => exact h.trans ⟨rfl, rfl, rfl, Nat.le_refl _, fun _ _ => rfl⟩
theorem Up.alloc {a w : World} (h : Up a w) (o : Obj) : Up a (w.alloc o) := Below.alloc h h.size o
theorem Up.setCell {a w : World} (h : Up a w) {p : Addr} (hp : a.heap.size ≤ p.block) (u : Value) : Up a (w.setCell p u) := Below.setCell h hp u
theorem Up.block {w w' : World} (h : Up w w') {b : Nat} (hb : b < w.heap.size) : w'.heap[b]? = w.heap[b]? := Below.block h b hb

/-- As 'Up', but block b may have turned. -/
structure Mod (b : Nat) (w w' : World) : Prop where
  os : w'.os = w.os
  tape : w'.tape = w.tape
  output : w'.output = w.output
  size : w.heap.size ≤ w'.heap.size
  block : ∀ k, k < w.heap.size → k ≠ b → w'.heap[k]? = w.heap[k]?

theorem Mod.refl (b : Nat) (w : World) : Mod b w w := ⟨rfl, rfl, rfl, Nat.le_refl _, fun _ _ _ => rfl⟩
theorem Mod.trans {b : Nat} {u v w : World} (h : Mod b u v) (k : Mod b v w) : Mod b u w :=
  ⟨k.os.trans h.os, k.tape.trans h.tape, k.output.trans h.output, Nat.le_trans h.size k.size, fun i hi hb => (k.block i (Nat.lt_of_lt_of_le hi h.size) hb).trans (h.block i hi hb)⟩
theorem Up.mod {w w' : World} (h : Up w w') (b : Nat) : Mod b w w' := ⟨h.os, h.tape, h.output, h.size, fun k hk _ => Below.block h k hk⟩
theorem Mod.up {b : Nat} {u v w : World} (h : Mod b u v) (k : Up v w) : Mod b u w := h.trans (k.mod b)
theorem Mod.setCell {b : Nat} {u v : World} (h : Mod b u v) (i : Nat) (x : Value) : Mod b u (v.setCell ⟨b, i, none⟩ x) :=
  h.trans ⟨rfl, rfl, rfl, by simp [World.setCell], fun k _ hk => Below.heap_setCell _ _ _ _ hk⟩
/-- A new block may be written at will. -/
theorem Mod.setNew {b : Nat} {u v : World} (h : Mod b u v) {p : Addr} (hp : u.heap.size ≤ p.block) (x : Value) : Mod b u (v.setCell p x) :=
  ⟨h.os, h.tape, h.output, by simpa [World.setCell] using h.size, fun k hk hb => by rw [Below.heap_setCell _ _ _ _ (by omega)]; exact h.block k hk hb⟩
/-- What turned only a block that was not there has turned nothing old. -/
theorem Up.ofMod {b : Nat} {u v w : World} (h : Up u v) (k : Mod b v w) (hb : u.heap.size ≤ b) : Up u w :=
  ⟨k.os.trans h.os, k.tape.trans h.tape, k.output.trans h.output, Nat.le_trans h.size k.size, fun i hi => (k.block i (Nat.lt_of_lt_of_le hi h.size) (by omega)).trans (Below.block h i hi)⟩
theorem Mod.ofMod {b c : Nat} {u v w : World} (h : Mod b u v) (k : Mod c v w) (hb : u.heap.size ≤ c) : Mod b u w :=
  ⟨k.os.trans h.os, k.tape.trans h.tape, k.output.trans h.output, Nat.le_trans h.size k.size, fun i hi hb' => (k.block i (Nat.lt_of_lt_of_le hi h.size) (by omega)).trans (h.block i hi hb')⟩

/-- Block b is a row of these cells, none frozen. -/
def Own (w : World) (b : Nat) (T : TypeId) (vs : List Value) : Prop := w.heap[b]? = some (.cells vs.toArray T (0, 0))

theorem Own.lt {w : World} {b : Nat} {T : TypeId} {vs : List Value} (h : Own w b T vs) : b < w.heap.size := lt_of_block h
theorem Own.cell {w : World} {b : Nat} {T : TypeId} {vs : List Value} (h : Own w b T vs) (i : Nat) : w.cell? ⟨b, i, none⟩ = vs[i]? := by
  unfold Own at h; simp [World.cell?, h]
theorem Own.free {w : World} {b : Nat} {T : TypeId} {vs : List Value} (h : Own w b T vs) (i : Nat) : w.frozen? ⟨b, i, none⟩ = false := by
  unfold Own at h; simp [World.frozen?, h]
theorem Own.set {w : World} {b : Nat} {T : TypeId} {vs : List Value} (h : Own w b T vs) (i : Nat) (x : Value) : Own (w.setCell ⟨b, i, none⟩ x) b T (vs.set i x) := by
  have hlt := h.lt
  unfold Own at *
  have h' : w.heap[b] = .cells vs.toArray T (0, 0) := by simpa [Array.getElem?_eq_getElem hlt] using h
  show (w.heap.modify b _)[b]? = _
  rw [Array.getElem?_eq_getElem (by simpa using hlt), Array.getElem_modify_self, h']
  simp
theorem Own.other {w : World} {b : Nat} {T : TypeId} {vs : List Value} (h : Own w b T vs) {p : Addr} (hp : b ≠ p.block) (x : Value) : Own (w.setCell p x) b T vs := by
  unfold Own at *; rw [Below.heap_setCell _ _ _ _ hp]; exact h
theorem Own.up {w w' : World} {b : Nat} {T : TypeId} {vs : List Value} (h : Own w b T vs) (u : Up w w') : Own w' b T vs := by
  unfold Own; rw [u.block h.lt]; exact h
theorem Own.mod {w w' : World} {b c : Nat} {T : TypeId} {vs : List Value} (h : Own w b T vs) (u : Mod c w w') (hc : b ≠ c) : Own w' b T vs := by
  unfold Own; rw [u.block b h.lt hc]; exact h
theorem Own.alloc {w : World} {b : Nat} {T : TypeId} {vs : List Value} (h : Own w b T vs) (o : Obj) : Own (w.alloc o) b T vs := h.up ((Up.refl w).alloc o)
theorem Own.drewN {w : World} {b : Nat} {T : TypeId} {vs : List Value} (h : Own w b T vs) (n : Nat) : Own (w.drewN n) b T vs := h.up ((Up.refl w).drewN n)
theorem Own.drew {w : World} {b : Nat} {T : TypeId} {vs : List Value} (h : Own w b T vs) : Own w.drew b T vs := h.up ((Up.refl w).drew)
theorem Own.new (w : World) (T : TypeId) (vs : Array Value) : Own (w.alloc (.cells vs T)) w.heap.size T vs.toList := by
  unfold Own
  show (w.heap.push _)[w.heap.size]? = _
  simp

theorem madeCells_one (z : Value) (n : Nat) : (madeCells #[z] n).toList = List.replicate n z := by
  apply List.ext_getElem
  · simp [madeCells]
  · intro i h1 h2
    simp [madeCells, Nat.mod_one]

theorem Own.made (w : World) (T : TypeId) (z : Value) (n : Nat) : Own (w.alloc (.cells (madeCells #[z] n) T)) w.heap.size T (List.replicate n z) := by
  have := Own.new w T (madeCells #[z] n)
  rwa [madeCells_one] at this

/-- Numbers as cells. -/
def ints (k : IntKind) (zs : List Int) : List Value := zs.map (Value.int k)
theorem ints_length (k : IntKind) (zs : List Int) : (ints k zs).length = zs.length := by simp [ints]
theorem ints_set (k : IntKind) (zs : List Int) (i : Nat) (x : Int) : (ints k zs).set i (.int k x) = ints k (zs.set i x) := by simp [ints, List.map_set]
theorem ints_at (k : IntKind) {zs : List Int} {i : Nat} (h : i < zs.length) : (ints k zs)[i]? = some (.int k (zs[i]?.getD 0)) := by
  simp [ints, List.getElem?_eq_getElem h]
theorem ints_replicate (k : IntKind) (n : Nat) (x : Int) : List.replicate n (Value.int k x) = ints k (List.replicate n x) := by simp [ints]
theorem Own.int {w : World} {b : Nat} {T : TypeId} {k : IntKind} {zs : List Int} (h : Own w b T (ints k zs)) {i : Nat} (hi : i < zs.length) :
    w.cell? ⟨b, i, none⟩ = some (.int k (zs[i]?.getD 0)) := by rw [h.cell, ints_at k hi]
theorem Own.setInt {w : World} {b : Nat} {T : TypeId} {k : IntKind} {zs : List Int} (h : Own w b T (ints k zs)) (i : Nat) (x : Int) :
    Own (w.setCell ⟨b, i, none⟩ (.int k x)) b T (ints k (zs.set i x)) := by have := h.set i (.int k x); rwa [ints_set] at this

/-- The slice (a, n) reads as the numbers zs. -/
def RdI (k : IntKind) (w : World) (a : Option Addr) (n : Nat) (zs : List Int) : Prop :=
  n = zs.length ∧ ∀ i, i < zs.length → ∃ b off, a = some ⟨b, off, none⟩ ∧ w.cell? ⟨b, off + i, none⟩ = some (.int k (zs[i]?.getD 0))

theorem cell_lt {w : World} {p : Addr} {v : Value} (h : w.cell? p = some v) : p.block < w.heap.size := by
  rcases Nat.lt_or_ge p.block w.heap.size with h' | h'
  · exact h'
  · simp [World.cell?, Array.getElem?_eq_none h'] at h
theorem Up.cell {w w' : World} (u : Up w w') {p : Addr} {v : Value} (h : w.cell? p = some v) : w'.cell? p = some v := by
  rw [Below.cell u (cell_lt h)]; exact h
theorem Mod.cell {w w' : World} {b : Nat} (u : Mod b w w') {p : Addr} {v : Value} (hb : p.block ≠ b) (h : w.cell? p = some v) : w'.cell? p = some v := by
  rw [World.cell?_of_block (w := w) (u.block p.block (cell_lt h) hb)]; exact h
theorem RdI.up {k : IntKind} {w w' : World} {a : Option Addr} {n : Nat} {zs : List Int} (h : RdI k w a n zs) (u : Up w w') : RdI k w' a n zs :=
  ⟨h.1, fun i hi => let ⟨b, off, e, hc⟩ := h.2 i hi; ⟨b, off, e, u.cell hc⟩⟩
theorem RdI.nil (k : IntKind) (w : World) (a : Option Addr) : RdI k w a 0 [] := ⟨rfl, fun i hi => absurd hi (Nat.not_lt_zero _)⟩
theorem Own.rd {w : World} {b : Nat} {T : TypeId} {k : IntKind} {zs : List Int} (h : Own w b T (ints k zs)) : RdI k w (some ⟨b, 0, none⟩) zs.length zs :=
  ⟨rfl, fun i hi => ⟨b, 0, rfl, by rw [Nat.zero_add]; exact h.int hi⟩⟩
theorem Own.rdAt {w : World} {b : Nat} {T : TypeId} {k : IntKind} {zs : List Int} (h : Own w b T (ints k zs)) (o n : Nat) (hn : o + n ≤ zs.length) : RdI k w (some ⟨b, o, none⟩) n ((zs.drop o).take n) :=
  ⟨by simp; omega, fun i hi => ⟨b, o, rfl, by
    simp at hi
    rw [h.int (by omega), List.getElem?_take, if_pos (by omega), List.getElem?_drop]⟩⟩

/-! ### the bits of ints that are not negative -/
theorem ofInt_i64 (a : Nat) (ha : a < 9223372036854775808) : (BitVec.ofInt 64 (a : Int)).toNat = a := by
  rw [BitVec.ofInt_natCast, BitVec.toNat_ofNat]; exact Nat.mod_eq_of_lt (by omega)
theorem i64_and (a b : Nat) (ha : a < 9223372036854775808) (hb : b < 9223372036854775808) : bits .and .i64 (a : Int) (b : Int) = ((a &&& b : Nat) : Int) := by
  have hx : a &&& b < 2 ^ 63 := Nat.and_lt_two_pow _ (by omega)
  show IntKind.i64.wrap ((BitVec.ofInt 64 (a : Int) &&& BitVec.ofInt 64 (b : Int)).toNat : Int) = _
  rw [BitVec.toNat_and, ofInt_i64 a ha, ofInt_i64 b hb, IntKind.wrap_i64]
  omega
theorem i64_or (a b : Nat) (ha : a < 9223372036854775808) (hb : b < 9223372036854775808) : bits .or .i64 (a : Int) (b : Int) = ((a ||| b : Nat) : Int) := by
  have hx : a ||| b < 2 ^ 63 := Nat.or_lt_two_pow (by omega) (by omega)
  show IntKind.i64.wrap ((BitVec.ofInt 64 (a : Int) ||| BitVec.ofInt 64 (b : Int)).toNat : Int) = _
  rw [BitVec.toNat_or, ofInt_i64 a ha, ofInt_i64 b hb, IntKind.wrap_i64]
  omega
theorem i64_xor (a b : Nat) (ha : a < 9223372036854775808) (hb : b < 9223372036854775808) : bits .xor .i64 (a : Int) (b : Int) = ((a ^^^ b : Nat) : Int) := by
  have hx : a ^^^ b < 2 ^ 63 := Nat.xor_lt_two_pow (by omega) (by omega)
  show IntKind.i64.wrap ((BitVec.ofInt 64 (a : Int) ^^^ BitVec.ofInt 64 (b : Int)).toNat : Int) = _
  rw [BitVec.toNat_xor, ofInt_i64 a ha, ofInt_i64 b hb, IntKind.wrap_i64]
  omega

/-! ### slices of slices -/
theorem run_slice3 {P : Program} (t e : TypeId) (sz : Nat) (ht : P.underlying t = some (.slice e)) (hz : (P.info? e).map (·.size) = some sz) (b off len cap l h m : Nat) (k1 k2 k3 : IntKind) (L H M : Int)
    (eL : L = l) (eH : H = h) (eM : M = m) (h1 : l ≤ h) (h2 : h ≤ m) (h3 : m ≤ cap) (hlm : l < m) (w : World) :
    (Instr.slice t (.slice (some ⟨b, off, none⟩) len cap) (some (.int k1 L)) (some (.int k2 H)) (some (.int k3 M))).run P w = .ok (.slice (some ⟨b, off + l * sz, none⟩) (h - l) (m - l)) w := by
  subst eL eH eM
  have ee : P.elem t = e := by simp [Program.elem, ht]
  have ht' : P.underlying t = some (.slice (P.elem t)) := by rw [ee]; exact ht
  rw [run_slice_lhm w t _ len cap ht' k1 k2 k3 l h m (by omega) (by omega) (by omega) (by omega), ee]
  cases hq : P.info? e with
  | none => simp [hq] at hz
  | some i =>
    have hi : i.size = sz := by simpa [hq] using hz
    have hne : ¬ m = l := by omega
    simp [sizeOf, typeInfo, hq, hi, sliced, hne, Addr.add]
end Go.Proofs.Ygctab
