import Derived.Test.YgctabTowH
import Derived.Test.YgctabTowS
namespace Go.Proofs.Ygctab
open Go.RowKit
set_option linter.unusedVariables false

theorem rowP_0 (t : Nat) (vs : List Nat) (os : List Int) : rowP 0 t vs os = if vs.length = 16 then noP vs os else (vs ++ [t], os) := rfl
theorem rowP_1 (t : Nat) (vs : List Nat) (os : List Int) : rowP 1 t vs os = if vs.length < 2 ∨ 512 < (dig (lowV vs)).length ∨ 512 < (dig (topV vs)).length then noP vs os else (putP vs 2 (lowV vs * topV vs), os) := rfl
theorem rowP_2 (t : Nat) (vs : List Nat) (os : List Int) : rowP 2 t vs os = if vs.length < 2 ∨ 1024 < (dig (lowV vs + topV vs)).length then noP vs os else (putP vs 2 (lowV vs + topV vs), os) := rfl
theorem rowP_3 (t : Nat) (vs : List Nat) (os : List Int) : rowP 3 t vs os = if vs.length < 2 then noP vs os else if lowV vs < topV vs then (putP vs 2 0, os ++ [-4]) else (putP vs 2 (lowV vs - topV vs), os) := rfl
theorem rowP_4 (t : Nat) (vs : List Nat) (os : List Int) : rowP 4 t vs os = if vs.length = 0 ∨ 512 < (dig (topV vs)).length then noP vs os else (putP vs 1 (topV vs * topV vs), os) := rfl
theorem rowP_5 (t : Nat) (vs : List Nat) (os : List Int) : rowP 5 t vs os = if vs.length < 2 then noP vs os else (vs, os ++ [cmpI (lowV vs) (topV vs)]) := rfl
theorem rowP_6 (t : Nat) (vs : List Nat) (os : List Int) : rowP 6 t vs os = if vs.length = 0 ∨ vs.length = 16 then noP vs os else (vs ++ [topV vs], os) := rfl
theorem rowP_7 (t : Nat) (vs : List Nat) (os : List Int) : rowP 7 t vs os = if vs.length < 2 then noP vs os else (putP vs 2 (topV vs) ++ [lowV vs], os) := rfl
theorem rowP_8 (t : Nat) (vs : List Nat) (os : List Int) : rowP 8 t vs os = if vs.length = 0 then noP vs os else (vs.take (vs.length - 1), os) := rfl
theorem rowP_far {k : Nat} (h : 9 ≤ k) (t : Nat) (vs : List Nat) (os : List Int) : rowP k t vs os = (vs, os) := by
  unfold rowP
  split <;> first | omega | rfl
theorem putP_one (vs : List Nat) (x : Nat) : putP vs 1 x = vs.take (vs.length - 1) ++ [x] := rfl
/-- Two top entries change places. -/
theorem set_two {α : Type} (l : List α) (x y : α) (p : Nat) (h : l.length = p + 2) : (l.set p x).set (p + 1) y = l.take p ++ [x, y] := by
  apply List.ext_getElem?
  intro i
  rw [List.getElem?_set, List.getElem?_set]
  by_cases h1 : i < p
  · rw [if_neg (by omega), if_neg (by omega), List.getElem?_append_left (by simp; omega), List.getElem?_take, if_pos h1]
  · rw [List.getElem?_append_right (by simp; omega)]
    have hl : (l.take p).length = p := by simp; omega
    rw [hl]
    by_cases h2 : i = p
    · subst h2
      rw [if_neg (by omega), if_pos rfl, if_pos (by omega), Nat.sub_self]
      rfl
    · by_cases h3 : i = p + 1
      · subst h3
        rw [if_pos rfl, if_pos (by simp; omega), show p + 1 - p = 1 by omega]
        rfl
      · rw [if_neg (by omega), if_neg (by omega), List.getElem?_eq_none (by omega), List.getElem?_eq_none (by simp; omega)]
theorem Mach.swap {b0 : Nat} {w : World} {m : Nat} {vO : Value} {ps : List (Nat × Nat)} {os : List Int} {b n c p1 p2 : Nat} (h : Mach b0 w m (.slice (some ⟨b, 0, none⟩) n c) vO ps os) (hn : n = ps.length) (h2 : ps.length = p2 + 2) (h1 : p1 = p2 + 1) :
    Mach b0 ((w.setCell ⟨b, p2, none⟩ (entC (pat ps p1))).setCell ⟨b, p1, none⟩ (entC (pat ps p2))) m (.slice (some ⟨b, 0, none⟩) n c) vO (ps.take p2 ++ [pat ps p1, pat ps p2]) os ∧ b0 ≤ b := by
  subst h1
  have hst := h.st
  have hb : ∃ cur, Own w b 87 cur ∧ b0 ≤ b := by
    rcases hst.2 with ⟨hv, _⟩ | ⟨g, cap, cur, hv, hb, hg, _⟩
    · cases hv
    · cases hv
      exact ⟨cur.toList, hg, hb⟩
  obtain ⟨cur, hcur, hbb⟩ := hb
  have hcur2 := hcur.set p2 (entC (pat ps (p2 + 1)))
  have keep : ∀ (T : TypeId) (g : Nat) (ys : List Value), T ≠ 87 → Own w g T ys → Own ((w.setCell ⟨b, p2, none⟩ (entC (pat ps (p2 + 1)))).setCell ⟨b, p2 + 1, none⟩ (entC (pat ps p2))) g T ys := fun T g ys hT ho =>
    (ho.other (ho.ne hcur hT) _).other (ho.ne hcur hT) _
  have kb : ∀ {T : TypeId}, T ≠ 87 → ∀ (g : Nat) (ys : Array Value), w.heap[g]? = some (Obj.cells ys T (0, 0)) → ((w.setCell ⟨b, p2, none⟩ (entC (pat ps (p2 + 1)))).setCell ⟨b, p2 + 1, none⟩ (entC (pat ps p2))).heap[g]? = w.heap[g]? := fun {T} hT g ys hg => by
    have ho : Own w g T ys.toList := hg
    have := keep T g _ hT ho
    rw [hg]
    exact this
  rw [← hn] at hst
  have hs2 := ownsRow_set (ownsRow_set hst p2 (entC (pat ps (p2 + 1)))) (p2 + 1) (entC (pat ps p2))
  have he : ((ps.map entC).set p2 (entC (pat ps (p2 + 1)))).set (p2 + 1) (entC (pat ps p2)) = (ps.take p2 ++ [pat ps (p2 + 1), pat ps p2]).map entC := by
    rw [set_two _ _ _ _ (by simpa using h2), List.map_append, List.map_take]
    rfl
  have hl : (ps.take p2 ++ [pat ps (p2 + 1), pat ps p2]).length = n := by simp; omega
  have hp : ps = ps.take p2 ++ [pat ps p2, pat ps (p2 + 1)] := by
    apply List.ext_getElem?
    intro i
    have hl2 : (ps.take p2).length = p2 := by simp; omega
    by_cases h1 : i < p2
    · rw [List.getElem?_append_left (by omega), List.getElem?_take, if_pos h1]
    · rw [List.getElem?_append_right (by omega), hl2]
      by_cases h2' : i = p2
      · subst h2'
        rw [Nat.sub_self]
        unfold pat
        rw [List.getElem?_eq_getElem (by omega)]
        rfl
      · by_cases h3 : i = p2 + 1
        · subst h3
          rw [show p2 + 1 - p2 = 1 by omega]
          unfold pat
          rw [List.getElem?_eq_getElem (by omega : p2 + 1 < ps.length)]
          rfl
        · rw [List.getElem?_eq_none (by omega), List.getElem?_eq_none (by simp; omega)]
  have hperm : List.Perm (ps.take p2 ++ [pat ps (p2 + 1), pat ps p2]) ps := by
    conv => rhs; rw [hp]
    exact List.Perm.append_left _ (List.Perm.swap _ _ _)
  refine ⟨⟨h.le, keep 164 m _ (by decide) h.own, ?_, ownsRow_of_block h.out (kb (by decide)), fun p hp => ?_, ?_⟩, hbb⟩
  · rw [hl, ← he]
    exact hs2
  · exact (h.ent p (hperm.mem_iff.1 hp)).of (kb (by decide))
  · exact (List.Perm.pairwise_iff (fun {x y} hxy a b e => hxy b a e.symm) hperm).2 h.apart
end Go.Proofs.Ygctab
