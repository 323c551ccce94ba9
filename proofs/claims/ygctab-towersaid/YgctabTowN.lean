import Derived.Test.YgctabTowM
namespace Go.Proofs.Ygctab
open Go.RowKit
set_option linter.unusedVariables false
set_option linter.unusedSimpArgs false

/-- The machine in block m, over what lay there before. -/
def MS (w0 w : World) (m : Nat) (ps : List (Nat × Nat)) (os : List Int) : Prop := Up w0 w ∧ ∃ vS vO, Mach w0.heap.size w m vS vO ps os
theorem MS.up {w0 w w' : World} {m : Nat} {ps : List (Nat × Nat)} {os : List Int} (h : MS w0 w m ps os) (u : Up w w') : MS w0 w' m ps os := by
  obtain ⟨h1, vS, vO, h2⟩ := h
  exact ⟨h1.trans u, vS, vO, h2.up u⟩

theorem info50 : (Tabg.prog.info? 50).map (fun i => (i.zero, i.size, i.bytes)) = some (some (.int .i8 0), 1, 1) := by kernel_rfl
theorem info87 : (Tabg.prog.info? 87).map (fun i => (i.zero, i.size, i.bytes)) = some (some (.slice none 0 0), 1, 24) := by kernel_rfl
theorem info_three {T : TypeId} {z : Option Value} {s b : Nat} (h : (Tabg.prog.info? T).map (fun i => (i.zero, i.size, i.bytes)) = some (z, s, b)) : ∃ i, Tabg.prog.info? T = some i ∧ i.zero = z ∧ i.size = s ∧ i.bytes = b := by
  cases e : Tabg.prog.info? T with
  | none => rw [e] at h; cases h
  | some i =>
    rw [e] at h
    simp at h
    exact ⟨i, rfl, h.1, h.2.1, h.2.2⟩

set_option maxRecDepth 100000 in
theorem put_any {w0 w : World} {m : Nat} {ps : List (Nat × Nat)} {os : List Int} (h : MS w0 w m ps os) (hl : os.length ≤ 4096) (x : Int) :
    Calls Tabg.prog 158 #[.pointer (some ⟨m, 0, none⟩), .int .i8 x] w fun e w' => e = .returned (.tuple #[]) ∧ MS w0 w' m ps (os ++ [x]) := by
  obtain ⟨hU, vS, vO, hM⟩ := h
  obtain ⟨i0, hi0, hz0, hz1, hz2⟩ := info_three info50
  obtain ⟨oa, oc, hvO, hx⟩ := ownsRow_slice hM.out
  clear hx
  have hc0 : w.cell? ⟨m, 0, none⟩ = some vS := by rw [hM.own.cell]; rfl
  have hc1 : w.cell? ⟨m, 1, none⟩ = some vO := by rw [hM.own.cell]; rfl
  have hw := hM.out
  have HM : Hid (Mach w0.heap.size w m vS vO ps os) := hM
  have HU : Hid (Up w0 w) := hU
  obtain ⟨n, hn⟩ : ∃ n, n = os.length := ⟨_, rfl⟩
  rw [← hn] at hw hl hvO
  have Hn : Hid (n = os.length) := hn
  subst hvO
  clear hM hU hn
  have HG : Hid (∀ (w3 : World) (v' : Value), w3.ownsRow w0.heap.size 50 1 v' (n + 1) (ints .i8 os ++ [.int .i8 x]) → (w.alloc (.cells #[.int .i8 x] 50)).grownBy w3 (Value.slice oa n oc).ownBlock → w3.cell? ⟨m, 1, none⟩ = some (.slice oa n oc) ∧ w3.frozen? ⟨m, 1, none⟩ = false ∧ MS w0 (w3.setCell ⟨m, 1, none⟩ v') m ps (os ++ [x])) := by
    intro w3 v' ho hg
    have hM1 := (HM.out).up ((Up.refl w).alloc (.cells #[.int .i8 x] 50))
    have hU1 := (HU.out).trans ((Up.refl w).alloc (.cells #[.int .i8 x] 50))
    obtain ⟨g1, g2, g3⟩ := hM1.grownO hg
    refine ⟨by rw [g1.cell]; rfl, g1.free 1, ?_⟩
    have hM3 : Mach w0.heap.size w3 m vS v' ps (os ++ [x]) → True := fun _ => trivial
    have hUp : Up w0 w3 := Up.grown hU1 hM1.out hg
    have ne : ∀ {T : TypeId}, T ≠ 164 → ∀ (g : Nat) (cur : Array Value), w3.heap[g]? = some (Obj.cells cur T (0, 0)) → (w3.setCell ⟨m, 1, none⟩ v').heap[g]? = w3.heap[g]? := fun {T} hT g cur hgc => by
      refine setCell_block (fun e => ?_)
      subst e
      have := g1
      unfold Own at this
      rw [hgc] at this
      simp at this
      exact hT this.2
    have hl' : (os ++ [x]).length = n + 1 := by have := Hn.out; simp; omega
    have hi' : ints .i8 (os ++ [x]) = ints .i8 os ++ [.int .i8 x] := by simp [ints]
    refine ⟨hUp.setCell hM1.le _, vS, v', hM1.le, g1.set 1 v', ownsRow_of_block g2 (ne (by decide)), ?_, fun p hp => (g3 p (hM1.ent p hp)).of (ne (by decide)), hM1.apart⟩
    rw [hl', hi']
    exact ownsRow_of_block ho (ne (by decide))
  go_enter Tabg.func158, Tabg.ntmps158
  go_wp2_with (at_builtin; refine wpList_append_own _ rfl _ _ 101 rfl w0.heap.size 50 i0 (.int .i8 0) 1 1 Tabg.underlying101 hi0 hz0 hz1 hz2 rfl (by decide) (.slice oa n oc) n (ints .i8 os) rfl (hw.alloc _) ⟨w.heap.size, 0, none⟩ 1 1 [.int .i8 x] rfl rfl (cell_one_new _ _ _) (fun u hu => by simp at hu; subst hu; rfl) (by unfold maxLen; omega) (by omega) (by have := (HU.out).size; simp; omega) ?_; intro v' w3 hown' hgrow3 hnil3; obtain ⟨q1, q2, q3⟩ := HG.out w3 v' hown' hgrow3; obtain ⟨a', c', rfl, hx⟩ := ownsRow_slice hown'; clear hx; have HQ : Hid (MS w0 (w3.setCell ⟨m, 1, none⟩ (.slice a' (n + 1) c')) m ps (os ++ [x])) := q3; clear hown' hgrow3 hnil3 q3 HG HM)
  go_end0
  exact ⟨rfl, HQ.out⟩

set_option maxRecDepth 100000 in
theorem push_any {w0 w : World} {m : Nat} {ps : List (Nat × Nat)} {os : List Int} (h : MS w0 w m ps os) (hl : ps.length ≤ 64) (q : Nat × Nat) (hq : EntOk w0.heap.size w q) (ha : ∀ p ∈ ps, ApartE p q) :
    Calls Tabg.prog 159 #[.pointer (some ⟨m, 0, none⟩), entC q] w fun e w' => e = .returned (.tuple #[]) ∧ MS w0 w' m (ps ++ [q]) os := by
  obtain ⟨hU, vS, vO, hM⟩ := h
  obtain ⟨i0, hi0, hz0, hz1, hz2⟩ := info_three info87
  obtain ⟨oa, oc, hvS, hx⟩ := ownsRow_slice hM.st
  clear hx
  have hc0 : w.cell? ⟨m, 0, none⟩ = some vS := by rw [hM.own.cell]; rfl
  have hc1 : w.cell? ⟨m, 1, none⟩ = some vO := by rw [hM.own.cell]; rfl
  have hw := hM.st
  have HM : Hid (Mach w0.heap.size w m vS vO ps os) := hM
  have HU : Hid (Up w0 w) := hU
  have HQQ : Hid (EntOk w0.heap.size w q ∧ ∀ p ∈ ps, ApartE p q) := ⟨hq, ha⟩
  obtain ⟨n, hn⟩ : ∃ n, n = ps.length := ⟨_, rfl⟩
  rw [← hn] at hw hl hvS
  have Hn : Hid (n = ps.length) := hn
  subst hvS
  clear hM hU hn hq ha
  obtain ⟨x, hx⟩ : ∃ x, x = entC q := ⟨_, rfl⟩
  obtain ⟨A, L, hAL⟩ : ∃ A L, entC q = .slice A L L := ⟨_, _, rfl⟩
  rw [hAL] at hx ⊢
  have Hx : Hid (Value.slice A L L = entC q) := hAL.symm
  clear hAL
  have HG : Hid (∀ (w3 : World) (v' : Value), w3.ownsRow w0.heap.size 87 1 v' (n + 1) (ps.map entC ++ [.slice A L L]) → (w.alloc (.cells #[.slice A L L] 87)).grownBy w3 (Value.slice oa n oc).ownBlock → w3.cell? ⟨m, 0, none⟩ = some (.slice oa n oc) ∧ w3.frozen? ⟨m, 0, none⟩ = false ∧ MS w0 (w3.setCell ⟨m, 0, none⟩ v') m (ps ++ [q]) os) := by
    intro w3 v' ho hg
    have u1 : Up w (w.alloc (.cells #[.slice A L L] 87)) := (Up.refl w).alloc _
    have hM1 := (HM.out).up u1
    have hU1 := (HU.out).trans u1
    obtain ⟨g1, g2, g3⟩ := hM1.grownS hg
    refine ⟨by rw [g1.cell]; rfl, g1.free 0, ?_⟩
    have hUp : Up w0 w3 := Up.grown hU1 hM1.st hg
    have ne : ∀ {T : TypeId}, T ≠ 164 → ∀ (g : Nat) (cur : Array Value), w3.heap[g]? = some (Obj.cells cur T (0, 0)) → (w3.setCell ⟨m, 0, none⟩ v').heap[g]? = w3.heap[g]? := fun {T} hT g cur hgc => by
      refine setCell_block (fun e => ?_)
      subst e
      have := g1
      unfold Own at this
      rw [hgc] at this
      simp at this
      exact hT this.2
    have hl' : (ps ++ [q]).length = n + 1 := by have := Hn.out; simp; omega
    have hi' : (ps ++ [q]).map entC = ps.map entC ++ [.slice A L L] := by rw [Hx.out]; simp
    refine ⟨hUp.setCell hM1.le _, v', vO, hM1.le, g1.set 0 v', ?_, ownsRow_of_block g2 (ne (by decide)), fun p hp => ?_, ?_⟩
    · rw [hl', hi']
      exact ownsRow_of_block ho (ne (by decide))
    · rcases List.mem_append.1 hp with h1 | h1
      · exact (g3 p (hM1.ent p h1)).of (ne (by decide))
      · rw [List.mem_singleton.1 h1]
        exact (g3 q ((HQQ.out.1).up u1)).of (ne (by decide))
    · refine List.pairwise_append.2 ⟨hM1.apart, List.pairwise_singleton _ _, fun p hp r hr => ?_⟩
      rw [List.mem_singleton.1 hr]
      exact HQQ.out.2 p hp
  clear hx x
  go_enter Tabg.func159, Tabg.ntmps159
  go_wp2_with (at_builtin; refine wpList_append_own _ rfl _ _ 100 rfl w0.heap.size 87 i0 (.slice none 0 0) 1 24 Tabg.underlying100 hi0 hz0 hz1 hz2 rfl (by decide) (.slice oa n oc) n (ps.map entC) rfl (hw.alloc _) ⟨w.heap.size, 0, none⟩ 1 1 [.slice A L L] rfl rfl (cell_one_new _ _ _) (fun u hu => by simp at hu; subst hu; rfl) (by unfold maxLen; omega) (by omega) (by have := (HU.out).size; simp; omega) ?_; intro v' w3 hown' hgrow3 hnil3; obtain ⟨q1, q2, q3⟩ := HG.out w3 v' hown' hgrow3; obtain ⟨a', c', rfl, hx⟩ := ownsRow_slice hown'; clear hx; have HQ : Hid (MS w0 (w3.setCell ⟨m, 0, none⟩ (.slice a' (n + 1) c')) m (ps ++ [q]) os) := q3; clear hown' hgrow3 hnil3 q3 HG HM)
  go_end0
  exact ⟨rfl, HQ.out⟩
end Go.Proofs.Ygctab
