import Derived.Test.YgctabNatZ
namespace Go.Proofs.Ygctab
open Go.RowKit
set_option linter.unusedVariables false
set_option linter.unusedSimpArgs false

/-- An entry of a stack, as a cell. -/
def slE (e : Option Addr × Nat) : Value := .slice e.1 e.2 e.2
def entAt (es : List (Option Addr × Nat)) (i : Nat) : Option Addr × Nat := es[i]?.getD (none, 0)
/-- The slice (a, n) reads as these entries. -/
def RdE (w : World) (a : Option Addr) (n : Nat) (es : List (Option Addr × Nat)) : Prop :=
  n = es.length ∧ ∀ i, i < es.length → ∃ b off, a = some ⟨b, off, none⟩ ∧ w.cell? ⟨b, off + i, none⟩ = some (slE (entAt es i))
theorem RdE.up {w w' : World} {a : Option Addr} {n : Nat} {es : List (Option Addr × Nat)} (h : RdE w a n es) (u : Up w w') : RdE w' a n es :=
  ⟨h.1, fun i hi => let ⟨b, off, e, hc⟩ := h.2 i hi; ⟨b, off, e, u.cell hc⟩⟩
/-- The entries hold these numbers. -/
def Hold (w : World) (es : List (Option Addr × Nat)) (vs : List Nat) : Prop := es.length = vs.length ∧ ∀ i, i < es.length → NS w (entAt es i).1 (entAt es i).2 (vs[i]?.getD 0)
theorem Hold.up {w w' : World} {es : List (Option Addr × Nat)} {vs : List Nat} (h : Hold w es vs) (u : Up w w') : Hold w' es vs := ⟨h.1, fun i hi => (h.2 i hi).up u⟩
theorem Hold.nil (w : World) : Hold w [] [] := ⟨rfl, fun i hi => absurd hi (Nat.not_lt_zero _)⟩
theorem Hold.take {w : World} {es : List (Option Addr × Nat)} {vs : List Nat} (h : Hold w es vs) (k : Nat) : Hold w (es.take k) (vs.take k) := by
  refine ⟨by simp [h.1], fun i hi => ?_⟩
  have hi' : i < k ∧ i < es.length := by simp at hi; omega
  have := h.2 i hi'.2
  unfold entAt at *
  rw [List.getElem?_take, if_pos hi'.1, List.getElem?_take, if_pos hi'.1]
  exact this
theorem Hold.push {w : World} {es : List (Option Addr × Nat)} {vs : List Nat} (h : Hold w es vs) {A : Option Addr} {l v : Nat} (hn : NS w A l v) : Hold w (es ++ [(A, l)]) (vs ++ [v]) := by
  refine ⟨by simp [h.1], fun i hi => ?_⟩
  unfold entAt
  have hl := h.1
  rcases Nat.lt_or_ge i es.length with h1 | h1
  · have := h.2 i h1
    unfold entAt at this
    rw [List.getElem?_append_left h1, List.getElem?_append_left (by omega)]
    exact this
  · have hi' : i = es.length := by simp at hi; omega
    subst hi'
    rw [List.getElem?_append_right (Nat.le_refl _), List.getElem?_append_right (by omega), hl]
    simp
    exact hn
def ents (es : List (Option Addr × Nat)) : List Value := es.map slE
theorem ents_length (es : List (Option Addr × Nat)) : (ents es).length = es.length := by simp [ents]
theorem ents_at {es : List (Option Addr × Nat)} {i : Nat} (h : i < es.length) : (ents es)[i]? = some (slE (entAt es i)) := by
  simp [ents, entAt, List.getElem?_eq_getElem h]
theorem Own.rdE {w : World} {b : Nat} {T : TypeId} {es : List (Option Addr × Nat)} (h : Own w b T (ents es)) : RdE w (some ⟨b, 0, none⟩) es.length es :=
  ⟨rfl, fun i hi => ⟨b, 0, rfl, by rw [Nat.zero_add, h.cell, ents_at hi]⟩⟩
theorem RdE.take {w : World} {a : Option Addr} {n : Nat} {es : List (Option Addr × Nat)} (h : RdE w a n es) {k : Nat} (hk : k ≤ n) : RdE w a k (es.take k) := by
  have h1 := h.1
  refine ⟨by simp; omega, fun i hi => ?_⟩
  have hi' : i < k ∧ i < es.length := by simp at hi; omega
  obtain ⟨b, off, e, hc⟩ := h.2 i hi'.2
  refine ⟨b, off, e, ?_⟩
  rw [hc]
  unfold entAt
  rw [List.getElem?_take, if_pos hi'.1]

/-- copy of cells of one word into a row of the call's own. -/
theorem wpList_copyV {w : World} {ops : Array Oper} {rest : List Oper} {o : Oper} {a : Act} {Q : Exit → Act → World → Prop} (hgd : o.guard = none) (d s : Operand) (dT sT el : TypeId)
    (ho : o.op = .call { callee := .builtin .copy, args := #[d, s], argTypes := #[dT, sT] }) (hu : Tabg.prog.underlying dT = some (.slice el)) (hsz : (Tabg.prog.info? el).map (·.size) = some 1)
    (sp : Option Addr) (dLen dCap sLen sCap : Nat) (g off : Nat) (hd : a.eval d = .slice (some ⟨g, off, none⟩) dLen dCap) (hs : a.eval s = .slice sp sLen sCap)
    (cur cs : List Value) (t : TypeId) (hg : Own w g t cur) (hl : cs.length = sLen) (hr : ∀ i, i < sLen → ∃ b o', sp = some ⟨b, o', none⟩ ∧ w.cell? ⟨b, o' + i, none⟩ = cs[i]?) (h1 : ∀ v ∈ cs, v.oneCell' = true) (hle : sLen ≤ dLen)
    (hfit : off + sLen ≤ cur.length) (w0 : World) (hb : Up w0 w) (hBg : w0.heap.size ≤ g)
    (h : ∀ w', Hid (Own w' g t (splice cur off cs)) → Hid (Up w0 w') → wpList Tabg.prog ops Q rest (a.put o.dst (goInt cs.length)) w') :
    wpList Tabg.prog ops Q (o :: rest) a w := by
  refine wpList_copy_splice hgd d s dT sT ho el hu hsz (some ⟨g, off, none⟩) sp dLen dCap sLen sCap hd hs g off cur t hg cs ?_ ?_ ?_ h1 w0.heap.size w0 hb hBg ?_
  · rw [hl]; exact (Nat.min_eq_left hle).symm
  · intro hp
    refine ⟨rfl, ?_⟩
    obtain ⟨b, o', e, _⟩ := hr 0 (by omega)
    refine ⟨⟨b, o', none⟩, e, fun j v hv => ?_⟩
    have hj : j < sLen := by
      have := (List.getElem?_eq_some_iff.1 hv).1
      omega
    obtain ⟨b2, o2, e2, hc⟩ := hr j hj
    rw [e] at e2
    cases e2
    have hadd : (⟨b, o', none⟩ : Addr).add j = ⟨b, o' + j, none⟩ := by unfold Addr.add; split <;> simp_all
    rw [hadd, hc]
    exact hv
  · omega
  · intro w' hw hb'
    exact h w' hw.out hb'
end Go.Proofs.Ygctab
