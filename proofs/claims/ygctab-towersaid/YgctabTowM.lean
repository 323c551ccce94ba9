import Derived.Test.YgctabTowP
namespace Go.Proofs.Ygctab
open Go.RowKit
set_option linter.unusedVariables false
set_option linter.unusedSimpArgs false

theorem ownsRow_len {w : World} {base : Nat} {e : TypeId} {v : Value} {n : Nat} {xs : List Value} (h : w.ownsRow base e 1 v n xs) : xs.length = n := by have := h.1; omega
theorem ownsRow_of_block {w w' : World} {base : Nat} {e : TypeId} {v : Value} {n : Nat} {xs : List Value} (h : w.ownsRow base e 1 v n xs) (hb : ∀ (g : Nat) (cur : Array Value), w.heap[g]? = some (Obj.cells cur e (0, 0)) → w'.heap[g]? = w.heap[g]?) : w'.ownsRow base e 1 v n xs := by
  refine ⟨h.1, ?_⟩
  rcases h.2 with hn | ⟨g, cap, cur, hv, hb', hg, rest⟩
  · exact .inl hn
  · exact .inr ⟨g, cap, cur, hv, hb', by rw [hb g cur hg]; exact hg, rest⟩
theorem ownsRow_up {w w' : World} {base : Nat} {e : TypeId} {v : Value} {n : Nat} {xs : List Value} (h : w.ownsRow base e 1 v n xs) (u : Up w w') : w'.ownsRow base e 1 v n xs :=
  ownsRow_of_block h fun g cur hg => u.block (lt_of_block hg)
/-- The slice's parts. -/
theorem ownsRow_slice {w : World} {base : Nat} {e : TypeId} {v : Value} {n : Nat} {xs : List Value} (h : w.ownsRow base e 1 v n xs) : ∃ a c, v = .slice a n c ∧ n ≤ c ∧ (a = none ∨ ∃ b, a = some ⟨b, 0, none⟩) ∧ (a = none → n = 0 ∧ c = 0) ∧ ∀ i, i < n → ∃ b, a = some ⟨b, 0, none⟩ ∧ w.cell? ⟨b, i, none⟩ = xs[i]? ∧ w.frozen? ⟨b, i, none⟩ = false ∧ base ≤ b := by
  rcases h.2 with ⟨rfl, rfl⟩ | ⟨g, cap, cur, rfl, hb', hg, h1, h2, h3, h4⟩
  · exact ⟨none, 0, rfl, Nat.le_refl _, Or.inl rfl, fun _ => ⟨rfl, rfl⟩, fun i hi => absurd hi (Nat.not_lt_zero _)⟩
  · refine ⟨some ⟨g, 0, none⟩, cap, rfl, h1, Or.inr ⟨g, rfl⟩, nofun, fun i hi => ⟨g, rfl, ?_, ?_, hb'⟩⟩
    · have : Own w g e cur.toList := by unfold Own; rw [hg]
      rw [this.cell, ← h4, List.getElem?_take, if_pos (by omega)]
    · have : Own w g e cur.toList := by unfold Own; rw [hg]
      exact this.free i
theorem ownsRow_take {w : World} {base : Nat} {e : TypeId} {a : Option Addr} {n c : Nat} {xs : List Value} (h : w.ownsRow base e 1 (.slice a n c) n xs) {m : Nat} (hm : m ≤ n) : w.ownsRow base e 1 (.slice a m c) m (xs.take m) := by
  refine ⟨by have := h.1; simp; omega, ?_⟩
  rcases h.2 with ⟨hv, rfl⟩ | ⟨g, cap, cur, hv, hb', hg, h1, h2, h3, h4⟩
  · obtain rfl : m = 0 := by omega
    exact .inl ⟨hv, rfl⟩
  · cases hv
    refine .inr ⟨g, c, cur, rfl, hb', hg, by omega, h2, h3, ?_⟩
    rw [← h4, List.take_take]
    congr 1
    omega
theorem ownsRow_set {w : World} {base : Nat} {e : TypeId} {g n c : Nat} {xs : List Value} (h : w.ownsRow base e 1 (.slice (some ⟨g, 0, none⟩) n c) n xs) (i : Nat) (x : Value) : (w.setCell ⟨g, i, none⟩ x).ownsRow base e 1 (.slice (some ⟨g, 0, none⟩) n c) n (xs.set i x) := by
  refine ⟨by have := h.1; simpa using this, ?_⟩
  rcases h.2 with ⟨hv, rfl⟩ | ⟨g', cap, cur, hv, hb', hg, h1, h2, h3, h4⟩
  · cases hv
  · cases hv
    have ho : Own w g e cur.toList := by unfold Own; rw [hg]
    have := ho.set i x
    refine .inr ⟨g, c, (cur.toList.set i x).toArray, rfl, hb', this, h1, h2, by simpa using h3, ?_⟩
    rw [List.toList_toArray, List.take_set, h4]

/-- An entry's cell: nil for zero, else the digits in block B. -/
def entC (p : Nat × Nat) : Value := .slice (nrmA (some ⟨p.1, 0, none⟩) p.2) (dig p.2).length (dig p.2).length
/-- The entry (B, v) holds v in a block of its own. -/
def EntOk (b0 : Nat) (w : World) (p : Nat × Nat) : Prop := p.2 ≠ 0 → b0 ≤ p.1 ∧ ∃ zs, Own w p.1 5 (u8s zs) ∧ Digs zs ∧ bv zs = p.2
def ApartE (p q : Nat × Nat) : Prop := p.2 ≠ 0 → q.2 ≠ 0 → p.1 ≠ q.1
structure Mach (b0 : Nat) (w : World) (m : Nat) (vS vO : Value) (ps : List (Nat × Nat)) (os : List Int) : Prop where
  le : b0 ≤ m
  own : Own w m 164 [vS, vO]
  st : w.ownsRow b0 87 1 vS ps.length (ps.map entC)
  out : w.ownsRow b0 50 1 vO os.length (ints .i8 os)
  ent : ∀ p ∈ ps, EntOk b0 w p
  apart : ps.Pairwise ApartE
theorem EntOk.ns {b0 : Nat} {w : World} {p : Nat × Nat} (h : EntOk b0 w p) : NS w (nrmA (some ⟨p.1, 0, none⟩) p.2) (dig p.2).length p.2 := by
  by_cases hv : p.2 = 0
  · rw [hv, dig_zero]
    exact NS.zero w
  · obtain ⟨_, zs, h1⟩ := h hv
    exact NS.ofRes (fun _ => h1)
theorem EntOk.up {b0 : Nat} {w w' : World} {p : Nat × Nat} (h : EntOk b0 w p) (u : Up w w') : EntOk b0 w' p := fun hv => by
  obtain ⟨h0, zs, h1, h2⟩ := h hv
  exact ⟨h0, zs, h1.up u, h2⟩
theorem Mach.up {b0 : Nat} {w w' : World} {m : Nat} {vS vO : Value} {ps : List (Nat × Nat)} {os : List Int} (h : Mach b0 w m vS vO ps os) (u : Up w w') : Mach b0 w' m vS vO ps os :=
  ⟨h.le, h.own.up u, ownsRow_up h.st u, ownsRow_up h.out u, fun p hp => (h.ent p hp).up u, h.apart⟩
/-- A new entry lies apart from the old ones. -/
theorem Mach.fresh {b0 : Nat} {w : World} {m : Nat} {vS vO : Value} {ps : List (Nat × Nat)} {os : List Int} (h : Mach b0 w m vS vO ps os) {B v : Nat} (hB : w.heap.size ≤ B) : ∀ p ∈ ps, ApartE p (B, v) := fun p hp h1 _ => by
  obtain ⟨_, zs, h2, _⟩ := h.ent p hp h1
  have := h2.lt
  show p.1 ≠ B
  omega
/-- A change in a block of another type leaves the entries. -/
theorem EntOk.of {b0 : Nat} {w w' : World} {p : Nat × Nat} (h : EntOk b0 w p) (hb : ∀ (g : Nat) (cur : Array Value), w.heap[g]? = some (Obj.cells cur 5 (0, 0)) → w'.heap[g]? = w.heap[g]?) : EntOk b0 w' p := fun hv => by
  obtain ⟨h0, zs, h1, h2⟩ := h hv
  refine ⟨h0, zs, ?_, h2⟩
  unfold Own at *
  rw [hb _ _ h1]
  exact h1
theorem setCell_block {w : World} {g i : Nat} {x : Value} {k : Nat} (h : k ≠ g) : (w.setCell ⟨g, i, none⟩ x).heap[k]? = w.heap[k]? := by
  by_cases hk : k < w.heap.size
  · exact (((Mod.refl g w).setCell i x).block k hk h)
  · have : (w.setCell ⟨g, i, none⟩ x).heap.size = w.heap.size := by simp
    rw [Array.getElem?_eq_none (by omega), Array.getElem?_eq_none (by omega)]
/-- A cell of the machine's own is stored. -/
theorem Mach.setS {b0 : Nat} {w : World} {m : Nat} {vS vO vS' : Value} {ps ps' : List (Nat × Nat)} {os : List Int} (h : Mach b0 w m vS vO ps os) (hs : w.ownsRow b0 87 1 vS' ps'.length (ps'.map entC)) (he : ∀ p ∈ ps', EntOk b0 w p) (ha : ps'.Pairwise ApartE) :
    Mach b0 (w.setCell ⟨m, 0, none⟩ vS') m vS' vO ps' os := by
  have ne : ∀ {T : TypeId}, T ≠ 164 → ∀ (g : Nat) (cur : Array Value), w.heap[g]? = some (Obj.cells cur T (0, 0)) → (w.setCell ⟨m, 0, none⟩ vS').heap[g]? = w.heap[g]? := fun {T} hT g cur hg => by
    refine setCell_block (fun e => ?_)
    subst e
    have := h.own
    unfold Own at this
    rw [hg] at this
    simp at this
    exact hT this.2
  exact ⟨h.le, (h.own).set 0 vS', ownsRow_of_block hs (ne (by decide)), ownsRow_of_block h.out (ne (by decide)), fun p hp => (he p hp).of (ne (by decide)), ha⟩
theorem Mach.setO {b0 : Nat} {w : World} {m : Nat} {vS vO vO' : Value} {ps : List (Nat × Nat)} {os os' : List Int} (h : Mach b0 w m vS vO ps os) (hs : w.ownsRow b0 50 1 vO' os'.length (ints .i8 os')) :
    Mach b0 (w.setCell ⟨m, 1, none⟩ vO') m vS vO' ps os' := by
  have ne : ∀ {T : TypeId}, T ≠ 164 → ∀ (g : Nat) (cur : Array Value), w.heap[g]? = some (Obj.cells cur T (0, 0)) → (w.setCell ⟨m, 1, none⟩ vO').heap[g]? = w.heap[g]? := fun {T} hT g cur hg => by
    refine setCell_block (fun e => ?_)
    subst e
    have := h.own
    unfold Own at this
    rw [hg] at this
    simp at this
    exact hT this.2
  exact ⟨h.le, (h.own).set 1 vO', ownsRow_of_block h.st (ne (by decide)), ownsRow_of_block hs (ne (by decide)), fun p hp => (h.ent p hp).of (ne (by decide)), h.apart⟩
/-- A row of the machine grows. -/
theorem grown_keeps {w w' : World} {base : Nat} {e T : TypeId} {v : Value} {n : Nat} {xs : List Value} (h : w.ownsRow base e 1 v n xs) (hg : w.grownBy w' v.ownBlock) (hT : T ≠ e) : ∀ (g : Nat) (cur : Array Value), w.heap[g]? = some (Obj.cells cur T (0, 0)) → w'.heap[g]? = w.heap[g]? := fun g cur hgc => by
  refine hg.block g (lt_of_block hgc) (fun hE => ?_)
  rcases h.2 with ⟨rfl, _⟩ | ⟨g', cap, cur', rfl, _, hb, _⟩
  · cases hE
  · have : g = g' := Option.some.inj hE
    subst this
    rw [hgc] at hb
    simp at hb
    exact hT hb.2
theorem Mach.grownS {b0 : Nat} {w w' : World} {m : Nat} {vS vO : Value} {ps : List (Nat × Nat)} {os : List Int} (h : Mach b0 w m vS vO ps os) (hg : w.grownBy w' vS.ownBlock) :
    Own w' m 164 [vS, vO] ∧ w'.ownsRow b0 50 1 vO os.length (ints .i8 os) ∧ (∀ p, EntOk b0 w p → EntOk b0 w' p) := by
  refine ⟨?_, ownsRow_of_block h.out (grown_keeps h.st hg (by decide)), fun p hp => hp.of (grown_keeps h.st hg (by decide))⟩
  have := h.own
  unfold Own at *
  rw [grown_keeps h.st hg (T := 164) (by decide) m _ this]
  exact this
theorem Mach.grownO {b0 : Nat} {w w' : World} {m : Nat} {vS vO : Value} {ps : List (Nat × Nat)} {os : List Int} (h : Mach b0 w m vS vO ps os) (hg : w.grownBy w' vO.ownBlock) :
    Own w' m 164 [vS, vO] ∧ w'.ownsRow b0 87 1 vS ps.length (ps.map entC) ∧ (∀ p, EntOk b0 w p → EntOk b0 w' p) := by
  refine ⟨?_, ownsRow_of_block h.st (grown_keeps h.out hg (by decide)), fun p hp => hp.of (grown_keeps h.out hg (by decide))⟩
  have := h.own
  unfold Own at *
  rw [grown_keeps h.out hg (T := 164) (by decide) m _ this]
  exact this
/-- What lay below stays. -/
theorem Up.grown {w0 w w' : World} {e : TypeId} {v : Value} {n : Nat} {xs : List Value} (u : Up w0 w) (h : w.ownsRow w0.heap.size e 1 v n xs) (hg : w.grownBy w' v.ownBlock) : Up w0 w' := by
  refine ⟨hg.os.trans u.os, hg.tape.trans u.tape, hg.output.trans u.output, Nat.le_trans u.size hg.size, fun k hk => ?_⟩
  rw [hg.block k (Nat.lt_of_lt_of_le hk u.size) (fun hE => ?_)]
  · exact u.block hk
  · rcases h.2 with ⟨rfl, _⟩ | ⟨g', cap, cur', rfl, hb, _⟩
    · cases hE
    · have : k = g' := Option.some.inj hE
      omega
end Go.Proofs.Ygctab
