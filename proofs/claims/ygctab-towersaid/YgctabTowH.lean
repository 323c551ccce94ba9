import Derived.Test.YgctabTowO
namespace Go.Proofs.Ygctab
open Go.RowKit
set_option linter.unusedVariables false
set_option linter.unusedSimpArgs false

/-! The law's state. Its parts lie in blocks of the types 87, 50, 5; states themselves lie in blocks of the type 103. -/
/-- All blocks but those of states stand. -/
def Keeps (w w' : World) : Prop := ∀ (T : TypeId) (g : Nat) (cur : List Value), T ≠ 103 → Own w g T cur → Own w' g T cur
theorem Keeps.refl (w : World) : Keeps w w := fun _ _ _ _ h => h
theorem Keeps.trans {u v w : World} (h : Keeps u v) (k : Keeps v w) : Keeps u w := fun T g cur hT ho => k T g cur hT (h T g cur hT ho)
theorem Up.keeps {w w' : World} (u : Up w w') : Keeps w w' := fun T g cur hT ho => ho.up u
theorem Own.ne {w : World} {b c : Nat} {T T' : TypeId} {xs ys : List Value} (h : Own w b T xs) (h' : Own w c T' ys) (hT : T ≠ T') : b ≠ c := fun e => by
  subst e
  unfold Own at h h'
  rw [h] at h'
  simp at h'
  exact hT h'.2
theorem Keeps.set {w w' : World} (h : Keeps w w') {s i : Nat} {ys : List Value} (hs : Own w' s 103 ys) (x : Value) : Keeps w (w'.setCell ⟨s, i, none⟩ x) := fun T g cur hT ho => by
  have h1 := h T g cur hT ho
  exact h1.other (h1.ne hs hT) x

/-- A slice whose first n cells are xs. -/
def RowL (w : World) (T : TypeId) (v : Value) (n : Nat) (xs : List Value) : Prop :=
  xs.length = n ∧ ((v = .slice none 0 0 ∧ n = 0) ∨ ∃ g cap cur, v = .slice (some ⟨g, 0, none⟩) n cap ∧ Own w g T cur ∧ n ≤ cap ∧ cur.take n = xs)
theorem RowL.keeps {w w' : World} {T : TypeId} {v : Value} {n : Nat} {xs : List Value} (h : RowL w T v n xs) (hT : T ≠ 103) (u : Keeps w w') : RowL w' T v n xs := by
  refine ⟨h.1, ?_⟩
  rcases h.2 with hn | ⟨g, cap, cur, hv, ho, rest⟩
  · exact .inl hn
  · exact .inr ⟨g, cap, cur, hv, u T g cur hT ho, rest⟩
theorem RowL.nil (w : World) (T : TypeId) : RowL w T (.slice none 0 0) 0 [] := ⟨rfl, .inl ⟨rfl, rfl⟩⟩
theorem RowL.new {w : World} {T : TypeId} {B n : Nat} {xs : List Value} (h : Own w B T xs) (hn : xs.length = n) : RowL w T (.slice (some ⟨B, 0, none⟩) n n) n xs :=
  ⟨hn, .inr ⟨B, n, xs, rfl, h, Nat.le_refl _, List.take_of_length_le (by omega)⟩⟩
theorem RowL.sl {w : World} {T : TypeId} {v : Value} {n : Nat} {xs : List Value} (h : RowL w T v n xs) : ∃ a c, v = .slice a n c ∧ n ≤ c ∧ (a = none ∨ ∃ b off, a = some ⟨b, off, none⟩) ∧ ∀ i, i < n → ∃ b, a = some ⟨b, 0, none⟩ ∧ w.cell? ⟨b, i, none⟩ = xs[i]? := by
  rcases h.2 with ⟨rfl, rfl⟩ | ⟨g, cap, cur, rfl, ho, h1, h2⟩
  · exact ⟨none, 0, rfl, Nat.le_refl _, .inl rfl, fun i hi => absurd hi (Nat.not_lt_zero _)⟩
  · refine ⟨some ⟨g, 0, none⟩, cap, rfl, h1, .inr ⟨g, 0, rfl⟩, fun i hi => ⟨g, rfl, ?_⟩⟩
    rw [ho.cell, ← h2, List.getElem?_take, if_pos hi]
theorem RowL.take {w : World} {T : TypeId} {a : Option Addr} {n c : Nat} {xs : List Value} (h : RowL w T (.slice a n c) n xs) (hn : n ≠ 0) {m : Nat} (hm : m ≤ n) : RowL w T (.slice a m m) m (xs.take m) := by
  refine ⟨by have := h.1; simp; omega, ?_⟩
  rcases h.2 with ⟨hv, h0⟩ | ⟨g, cap, cur, hv, ho, h1, h2⟩
  · exact absurd h0 hn
  · cases hv
    refine .inr ⟨g, m, cur, rfl, ho, Nat.le_refl _, ?_⟩
    rw [← h2, List.take_take]
    congr 1
    omega
theorem EntOk.keeps {b0 : Nat} {w w' : World} {p : Nat × Nat} (h : EntOk b0 w p) (u : Keeps w w') : EntOk b0 w' p := fun hv => by
  obtain ⟨h0, zs, h1, h2⟩ := h hv
  exact ⟨h0, zs, u 5 _ _ (by decide) h1, h2⟩
/-- The law's state (v1, v2) holds vs and os. -/
def LS (w : World) (v1 v2 : Value) (vs : List Nat) (os : List Int) : Prop :=
  (∃ ps : List (Nat × Nat), ps.map Prod.snd = vs ∧ RowL w 87 v1 vs.length (ps.map entC) ∧ ∀ p ∈ ps, EntOk 0 w p) ∧ RowL w 50 v2 os.length (ints .i8 os)
theorem LS.keeps {w w' : World} {v1 v2 : Value} {vs : List Nat} {os : List Int} (h : LS w v1 v2 vs os) (u : Keeps w w') : LS w' v1 v2 vs os := by
  obtain ⟨⟨ps, h1, h2, h3⟩, h4⟩ := h
  exact ⟨⟨ps, h1, h2.keeps (by decide) u, fun p hp => (h3 p hp).keeps u⟩, h4.keeps (by decide) u⟩
theorem LS.nil (w : World) : LS w (.slice none 0 0) (.slice none 0 0) [] [] := ⟨⟨[], rfl, RowL.nil _ _, fun p hp => nomatch hp⟩, RowL.nil _ _⟩
def pe (p : Nat × Nat) : Option Addr × Nat := (nrmA (some ⟨p.1, 0, none⟩) p.2, (dig p.2).length)
theorem pe_ents (ps : List (Nat × Nat)) : ps.map entC = ents (ps.map pe) := by simp [ents, List.map_map]; exact fun _ _ _ => rfl
theorem entAt_pe {ps : List (Nat × Nat)} {i : Nat} (h : i < ps.length) : entAt (ps.map pe) i = pe ps[i] := by simp [entAt, List.getElem?_eq_getElem h]
theorem LS.parts {w : World} {v1 v2 : Value} {ps : List (Nat × Nat)} (h2 : RowL w 87 v1 ps.length (ps.map entC)) (h3 : ∀ p ∈ ps, EntOk 0 w p) :
    ∃ a c, v1 = .slice a ps.length c ∧ ps.length ≤ c ∧ (a = none ∨ ∃ b off, a = some ⟨b, off, none⟩) ∧ RdE w a ps.length (ps.map pe) ∧ Hold w (ps.map pe) (ps.map Prod.snd) := by
  obtain ⟨a, c, hv, hc, ha, hcell⟩ := h2.sl
  refine ⟨a, c, hv, hc, ha, ⟨by simp, fun i hi => ?_⟩, ⟨by simp, fun i hi => ?_⟩⟩
  · have hi' : i < ps.length := by simpa using hi
    obtain ⟨b, e, h1⟩ := hcell i hi'
    refine ⟨b, 0, e, ?_⟩
    rw [Nat.zero_add, h1, pe_ents, ents_at hi]
  · have hi' : i < ps.length := by simpa using hi
    rw [entAt_pe hi', List.getElem?_map, List.getElem?_eq_getElem hi']
    exact (h3 _ (List.getElem_mem hi')).ns

theorem stk {w : World} {a : Option Addr} {v2 : Value} {n c : Nat} {vs : List Nat} {os : List Int} (h : LS w (.slice a n c) v2 vs os) (hn : vs.length ≤ 64) (m ct : Nat) (hk : vs.length = m + ct) (q : Nat × Nat) (hq : EntOk 0 w q) :
    Calls Tabg.prog 132 #[.slice a n c, .int .i64 ct, entC q] w fun e w' => ∃ B, e = .returned (.slice (some ⟨B, 0, none⟩) (m + 1) (m + 1)) ∧ Up w w' ∧ LS w' (.slice (some ⟨B, 0, none⟩) (m + 1) (m + 1)) v2 (vs.take m ++ [q.2]) os := by
  obtain ⟨⟨ps, h1, h2, h3⟩, h4⟩ := h
  subst h1
  have hl : (ps.map Prod.snd).length = ps.length := by simp
  rw [hl] at h2 hn hk
  obtain ⟨a', c', hv, hc, ha, hR, hH⟩ := LS.parts (v2 := v2) h2 h3
  cases hv
  refine (stacked_any a ps.length c m ct _ q.2 _ _ _ w hR hH ha hc hn hk hq.ns).mono ?_
  rintro e w' ⟨B, he, hB, hu, ho, hh⟩
  refine ⟨B, he, hu, ⟨ps.take m ++ [q], by simp [List.map_take], ?_, fun p hp => ?_⟩, h4.keeps (by decide) hu.keeps⟩
  · have hl2 : (List.take m (ps.map Prod.snd) ++ [q.2]).length = m + 1 := by simp; omega
    have e2 : (ps.take m ++ [q]).map entC = ents ((ps.map pe).take m ++ [pe q]) := by rw [pe_ents]; simp [List.map_take]
    rw [hl2, e2]
    exact RowL.new ho (by simp [ents]; omega)
  · rcases List.mem_append.1 hp with h1 | h1
    · exact (h3 p (List.mem_of_mem_take h1)).up hu
    · rw [List.mem_singleton.1 h1]
      exact hq.up hu
theorem apd {w : World} {v1 : Value} {o : Option Addr} {k oc : Nat} {vs : List Nat} {os : List Int} (h : LS w v1 (.slice o k oc) vs os) (x : Int) (hn : os.length ≤ 4096) :
    Calls Tabg.prog 131 #[.slice o k oc, .int .i8 x] w fun e w' => ∃ B, e = .returned (.slice (some ⟨B, 0, none⟩) (k + 1) (k + 1)) ∧ Up w w' ∧ LS w' v1 (.slice (some ⟨B, 0, none⟩) (k + 1) (k + 1)) vs (os ++ [x]) := by
  obtain ⟨h0, h4⟩ := h
  obtain ⟨a', c', hv, hc, ha, hcell⟩ := h4.sl
  cases hv
  have hR : RdI .i8 w o os.length os := ⟨rfl, fun i hi => by
    obtain ⟨b, e, h1⟩ := hcell i hi
    refine ⟨b, 0, e, ?_⟩
    rw [Nat.zero_add, h1, ints_at .i8 hi]⟩
  refine (appended_any o os.length oc x os w hR hn).mono ?_
  rintro e w' ⟨B, he, hB, hu, ho⟩
  refine ⟨B, he, hu, ?_⟩
  have hL : LS w v1 (.slice o os.length oc) vs os := ⟨h0, h4⟩
  refine ⟨(hL.keeps hu.keeps).1, ?_⟩
  have hl2 : (os ++ [x]).length = os.length + 1 := by simp
  rw [hl2]
  exact RowL.new ho (by rw [ints_length, hl2])
theorem LS.lens {w : World} {a o : Option Addr} {n c k oc : Nat} {vs : List Nat} {os : List Int} (h : LS w (.slice a n c) (.slice o k oc) vs os) : n = vs.length ∧ k = os.length ∧ n ≤ c := by
  obtain ⟨⟨ps, h1, h2, h3⟩, h4⟩ := h
  obtain ⟨a', c', hv, hc, _⟩ := h2.sl
  obtain ⟨a'', c'', hv', _⟩ := h4.sl
  cases hv
  cases hv'
  exact ⟨rfl, rfl, hc⟩
/-- An entry's cell. -/
theorem LS.at {w : World} {a : Option Addr} {v2 : Value} {n c : Nat} {vs : List Nat} {os : List Int} (h : LS w (.slice a n c) v2 vs os) {i : Nat} (hi : i < vs.length) :
    ∃ b q, a = some ⟨b, 0, none⟩ ∧ w.cell? ⟨b, i, none⟩ = some (entC q) ∧ EntOk 0 w q ∧ q.2 = vs[i]?.getD 0 := by
  obtain ⟨⟨ps, h1, h2, h3⟩, h4⟩ := h
  subst h1
  have hi' : i < ps.length := by simpa using hi
  obtain ⟨a', c', hv, hc, ha, hcell⟩ := h2.sl
  cases hv
  obtain ⟨b, e, h5⟩ := hcell i hi
  refine ⟨b, ps[i], e, ?_, h3 _ (List.getElem_mem hi'), by simp [List.getElem?_eq_getElem hi']⟩
  rw [h5, List.getElem?_map, List.getElem?_eq_getElem hi']
  rfl
theorem LS.drop {w : World} {a : Option Addr} {v2 : Value} {n c : Nat} {vs : List Nat} {os : List Int} (h : LS w (.slice a n c) v2 vs os) (h0 : vs.length ≠ 0) : LS w (.slice a (n - 1) (n - 1)) v2 (vs.take (vs.length - 1)) os := by
  obtain ⟨⟨ps, h1, h2, h3⟩, h4⟩ := h
  subst h1
  have hl : (ps.map Prod.snd).length = ps.length := by simp
  obtain ⟨a', c', hv, hc, ha, hcell⟩ := h2.sl
  cases hv
  refine ⟨⟨ps.take (ps.length - 1), by rw [hl, List.map_take], ?_, fun p hp => h3 p (List.mem_of_mem_take hp)⟩, h4⟩
  have := h2.take h0 (m := ps.length - 1) (by omega)
  rw [List.map_take]
  have hl2 : (List.take ((ps.map Prod.snd).length - 1) (ps.map Prod.snd)).length = ps.length - 1 := by simp
  rw [hl2, hl]
  exact this

theorem size103 : (Tabg.prog.info? 103).map (·.size) = some 2 := by kernel_rfl
def isRow : TypeDesc → Bool | .struct _ | .array _ _ => true | _ => false
theorem row103 : (Tabg.prog.underlying 103).map isRow = some true := by kernel_rfl
theorem ret103 {fn : Func} {p : Tmp} (h : fn.results = #[.cell p 103]) (tmps : Array Value) (w : World) (b : Nat) (hp : tmps.getD p undef = .pointer (some ⟨b, 0, none⟩)) (x y : Value) (ho : Own w b 103 [x, y]) :
    (results fn tmps).run Tabg.prog w = .ok (.agg #[x, y]) w := by
  obtain ⟨d, hd, hr⟩ := Option.map_eq_some_iff.1 row103
  refine results_cell_row h tmps w b 103 #[x, y] (0, 0) d hp ho hd ?_ size103
  cases d <;> first | rfl | exact absurd hr (by simp [isRow])

/-- What a row hands back. -/
def LR (w w' : World) (e : Ending) (p : List Nat × List Int) : Prop :=
  ∃ a n c o k oc, e = .returned (.agg #[.slice a n c, .slice o k oc]) ∧ Up w w' ∧ LS w' (.slice a n c) (.slice o k oc) p.1 p.2

/-- A state that was boxed, and a cell for the result. -/
structure Bx (w0 w : World) (s1 s2 : Nat) (v1 v2 : Value) : Prop where
  up : Up w0 w
  le : w0.heap.size ≤ s2
  ne : s1 ≠ s2
  own1 : Own w s1 103 [v1, v2]
  own2 : Own w s2 103 [.slice none 0 0, .slice none 0 0]
theorem Bx.new (w : World) (v1 v2 : Value) : Bx w ((w.alloc (.cells #[v1, v2] 103)).alloc (.cells #[.slice none 0 0, .slice none 0 0] 103)) w.heap.size (w.heap.size + 1) v1 v2 := by
  refine ⟨((Up.refl w).alloc _).alloc _, by omega, by omega, (Own.new w 103 #[v1, v2]).alloc _, ?_⟩
  have := Own.new (w.alloc (.cells #[v1, v2] 103)) 103 #[.slice none 0 0, .slice none 0 0]
  simpa using this
theorem Bx.mono {w0 w w' : World} {s1 s2 : Nat} {v1 v2 : Value} (h : Bx w0 w s1 s2 v1 v2) (u : Up w w') : Bx w0 w' s1 s2 v1 v2 :=
  ⟨h.up.trans u, h.le, h.ne, h.own1.up u, h.own2.up u⟩
/-- What the walk is told of them. -/
def BF (w : World) (s1 s2 : Nat) (v1 v2 : Value) : Prop :=
  w.cell? ⟨s1, 0, none⟩ = some v1 ∧ w.cell? ⟨s1, 1, none⟩ = some v2 ∧ s1 < w.heap.size ∧
  w.cell? ⟨s2, 0, none⟩ = some (.slice none 0 0) ∧ w.cell? ⟨s2, 1, none⟩ = some (.slice none 0 0) ∧ w.frozen? ⟨s2, 0, none⟩ = false ∧ w.frozen? ⟨s2, 1, none⟩ = false ∧ s2 < w.heap.size
theorem Bx.bf {w0 w : World} {s1 s2 : Nat} {v1 v2 : Value} (h : Bx w0 w s1 s2 v1 v2) : BF w s1 s2 v1 v2 :=
  ⟨by rw [h.own1.cell]; rfl, by rw [h.own1.cell]; rfl, h.own1.lt, by rw [h.own2.cell]; rfl, by rw [h.own2.cell]; rfl, h.own2.free 0, h.own2.free 1, h.own2.lt⟩
/-- The result is stored: the state that it is stands. -/
theorem Bx.fin {w0 w w' : World} {s1 s2 : Nat} {v1 v2 : Value} (h : Bx w0 w s1 s2 v1 v2) {a o : Option Addr} {n c k oc : Nat} {p : List Nat × List Int} (u : Up w w') (hL : LS w' (.slice a n c) (.slice o k oc) p.1 p.2) :
    Hid (Own ((w'.setCell ⟨s2, 0, none⟩ (.slice a n c)).setCell ⟨s2, 1, none⟩ (.slice o k oc)) s2 103 [.slice a n c, .slice o k oc]) ∧
    Hid (LR w0 ((w'.setCell ⟨s2, 0, none⟩ (.slice a n c)).setCell ⟨s2, 1, none⟩ (.slice o k oc)) (.returned (.agg #[.slice a n c, .slice o k oc])) p) := by
  have o2 := h.own2.up u
  have o3 := o2.set 0 (.slice a n c)
  refine ⟨o3.set 1 _, ⟨_, _, _, _, _, _, rfl, ((h.up.trans u).setCell h.le _).setCell h.le _, hL.keeps (((Keeps.refl _).set o2 _).set o3 _)⟩⟩
/-- A call that makes a row, behind the draw. -/
theorem callA {w0 w1 : World} {s1 s2 f L : Nat} {v1 v2 : Value} {args : Array Value} {R : World → Nat → Prop} (h : Bx w0 w1 s1 s2 v1 v2)
    (C : ∀ w2, Up w1 w2 → Calls Tabg.prog f args w2 fun e w' => ∃ B, e = .returned (.slice (some ⟨B, 0, none⟩) L L) ∧ Up w2 w' ∧ R w' B) :
    Hid (Calls Tabg.prog f args w1.drew fun e wL => ∃ B, e = .returned (.slice (some ⟨B, 0, none⟩) L L) ∧ BF wL s1 s2 v1 v2 ∧ Hid (Up w1 wL ∧ R wL B)) := by
  show Calls _ _ _ _ _
  refine (C w1.drew ((Up.refl _).drew)).mono ?_
  rintro e w' ⟨B, he, hu, ho⟩
  have u1 : Up w1 w' := ((Up.refl w1).drew).trans hu
  exact ⟨B, he, (h.mono u1).bf, u1, ho⟩
/-- The same, behind the draw and a new cell. -/
theorem callB {w0 w1 : World} {s1 s2 f L : Nat} {v1 v2 : Value} {args : Array Value} {R : World → Nat → Prop} (h : Bx w0 w1 s1 s2 v1 v2)
    (C : ∀ w2, Up w1 w2 → Calls Tabg.prog f args w2 fun e w' => ∃ B, e = .returned (.slice (some ⟨B, 0, none⟩) L L) ∧ Up w2 w' ∧ R w' B) :
    Hid (Calls Tabg.prog f args (w1.alloc (.cells #[.slice none 0 0, .slice none 0 0] 103)).drew fun e wL => ∃ B, e = .returned (.slice (some ⟨B, 0, none⟩) L L) ∧ BF wL s1 w1.heap.size v1 v2 ∧ Hid (Up w1 wL ∧ R wL B ∧ Own wL w1.heap.size 103 [.slice none 0 0, .slice none 0 0])) := by
  have u0 : Up w1 (w1.alloc (.cells #[.slice none 0 0, .slice none 0 0] 103)).drew := ((Up.refl w1).alloc _).drew
  show Calls _ _ _ _ _
  refine (C _ u0).mono ?_
  rintro e w' ⟨B, he, hu, ho⟩
  have u1 := u0.trans hu
  have o1 := h.own1.up u1
  have o2 : Own w' w1.heap.size 103 [.slice none 0 0, .slice none 0 0] := (Own.new w1 103 #[.slice none 0 0, .slice none 0 0]).up (((Up.refl _).drew).trans hu)
  exact ⟨B, he, ⟨by rw [o1.cell]; rfl, by rw [o1.cell]; rfl, o1.lt, by rw [o2.cell]; rfl, by rw [o2.cell]; rfl, o2.free 0, o2.free 1, o2.lt⟩, u1, ho, o2⟩
/-- The new cell is stored: both orders come to this. -/
def Cut1 (w1 wc : World) (bn : Nat) (x y : Value) (R : World → Prop) : Prop := Own wc bn 103 [x, y] ∧ Up w1 wc ∧ R wc
theorem cutB {w1 wL : World} {R : World → Prop} (hR : ∀ w w', Keeps w w' → R w → R w') (h : Up w1 wL ∧ R wL ∧ Own wL w1.heap.size 103 [.slice none 0 0, .slice none 0 0]) (x y : Value) :
    Cut1 w1 ((wL.setCell ⟨w1.heap.size, 0, none⟩ x).setCell ⟨w1.heap.size, 1, none⟩ y) w1.heap.size x y R :=
  ⟨(h.2.2.set 0 x).set 1 y, (h.1.setCell (Nat.le_refl _) _).setCell (Nat.le_refl _) _, hR _ _ (((Keeps.refl _).set h.2.2 _).set (h.2.2.set 0 x) _) h.2.1⟩
theorem cutA {w1 wL : World} {R : World → Prop} (hR : ∀ w w', Keeps w w' → R w → R w') (h : Up w1 wL ∧ R wL) (x y : Value) :
    Cut1 w1 (wL.alloc (.cells #[x, y] 103)) wL.heap.size x y R :=
  ⟨Own.new wL 103 #[x, y], h.1.alloc _, hR _ _ (Up.keeps ((Up.refl _).alloc _)) h.2⟩
theorem LSk {v1 v2 : Value} {vs : List Nat} {os : List Int} : ∀ w w', Keeps w w' → LS w v1 v2 vs os → LS w' v1 v2 vs os := fun _ _ u h => h.keeps u

set_option maxRecDepth 100000 in
set_option maxHeartbeats 3200000 in
theorem mulRow_any {w : World} {a o : Option Addr} {n c k oc : Nat} {vs : List Nat} {os : List Int} (h : LS w (.slice a n c) (.slice o k oc) vs os) (hn : vs.length ≤ 64) (m ct : Nat) (hk : vs.length = m + ct)
    (q q' : Nat × Nat) (hq : EntOk 0 w q) (hq' : EntOk 0 w q') (hl : (dig q.2).length ≤ 512) (hl' : (dig q'.2).length ≤ 512) :
    Calls Tabg.prog 133 #[.int .u8 0, .agg #[.slice a n c, .slice o k oc], .int .i64 ct, entC q, entC q'] w fun e w' => LR w w' e (vs.take m ++ [q.2 * q'.2], os) := by
  have C1 : Hid (∀ w', Up w w' → Calls Tabg.prog 155 #[.int .u8 0, entC q, entC q'] w' fun e w'' => ResOk w' w'' e (q.2 * q'.2)) := by
    intro w' hu
    have := times_any 0 (by decide) _ _ _ _ _ _ w' (hq.up hu).ns.1 (hq'.up hu).ns.1 hl hl'
    rw [bv_dig, bv_dig] at this
    exact this
  have HB : Hid (Bx w ((w.alloc (.cells #[.slice a n c, .slice o k oc] 103)).alloc (.cells #[.slice none 0 0, .slice none 0 0] 103)) w.heap.size (w.heap.size + 1) (.slice a n c) (.slice o k oc)) := Bx.new ..
  have H : Hid (LS w (.slice a n c) (.slice o k oc) vs os ∧ vs.length ≤ 64 ∧ vs.length = m + ct) := ⟨h, hn, hk⟩
  obtain ⟨A, L, eA⟩ : ∃ A L, entC q = .slice A L L := ⟨_, _, rfl⟩
  obtain ⟨A', L', eA'⟩ : ∃ A L, entC q' = .slice A L L := ⟨_, _, rfl⟩
  rw [eA, eA'] at C1 ⊢
  generalize q.2 * q'.2 = p at *
  clear h hq hq' hl hl' hk hn eA eA'
  go_enter Tabg.func133, Tabg.ntmps133
  go_wp2_with (fail)
  generalize (w.alloc (.cells #[.slice a n c, .slice o k oc] 103)).alloc (.cells #[.slice none 0 0, .slice none 0 0] 103) = w0 at *
  refine (C1.out _ (HB.out.up)).mono ?_
  rintro e w1 ⟨B, zs, rfl, h1, h2, h3⟩
  have HB1 : Hid (Bx w w1 w.heap.size (w.heap.size + 1) (.slice a n c) (.slice o k oc)) := HB.out.mono h2
  have C3 : ∀ w2, Up w1 w2 → Calls Tabg.prog 132 #[.slice a n c, .int .i64 ct, .slice (nrmA (some ⟨B, 0, none⟩) p) (dig p).length (dig p).length] w2 fun e w' => ∃ B, e = .returned (.slice (some ⟨B, 0, none⟩) (m + 1) (m + 1)) ∧ Up w2 w' ∧ LS w' (.slice (some ⟨B, 0, none⟩) (m + 1) (m + 1)) (.slice o k oc) (vs.take m ++ [p]) os :=
    fun w2 hu => stk (H.out.1.keeps (HB1.out.up.trans hu).keeps) H.out.2.1 m ct H.out.2.2 (B, p) (EntOk.up (fun hv => ⟨Nat.zero_le _, zs, h3 hv⟩) hu)
  have CA := callA HB1.out C3
  have CB := callB HB1.out C3
  clear C1 C3 h1 h2 h3 HB H
  generalize nrmA (some ⟨B, 0, none⟩) p = P at *
  generalize (dig p).length = L at *
  obtain ⟨k0, k1, lt1, d0, d1, e0, e1, lt2⟩ := HB1.out.bf
  go_wp2_with (fail)
  go_cut [13] (fun z wc => ∃ bn B', z = .pointer (some ⟨bn, 0, none⟩) ∧ Hid (Cut1 w1 wc bn (.slice (some ⟨B', 0, none⟩) (m + 1) (m + 1)) (.slice o k oc) (fun W => LS W (.slice (some ⟨B', 0, none⟩) (m + 1) (m + 1)) (.slice o k oc) (vs.take m ++ [p]) os)))
  case first =>
    go_region_with (first | (go_at_call 132; refine (CA.out).mono ?_; rintro e wL ⟨Bs, rfl, ⟨k0', k1', lt1', d0', d1', e0', e1', lt2'⟩, HA⟩) | (go_at_call 132; refine (CB.out).mono ?_; rintro e wL ⟨Bs, rfl, ⟨k0', k1', lt1', d0', d1', e0', e1', lt2'⟩, HA⟩))
    all_goals go_wp2
    all_goals go_simp
    all_goals go_meet
    all_goals first | exact ⟨_, _, rfl, cutA LSk HA.out _ _⟩ | exact ⟨_, _, rfl, cutB LSk HA.out _ _⟩
  case rest =>
    obtain ⟨bn, B', rfl, HC⟩ := hcut
    obtain ⟨k0', k1', lt1', d0', d1', e0', e1', lt2'⟩ := (HB1.out.mono HC.out.2.1).bf
    have n0 : wc.cell? ⟨bn, 0, none⟩ = some (.slice (some ⟨B', 0, none⟩) (m + 1) (m + 1)) := by rw [HC.out.1.cell]; rfl
    have n1 : wc.cell? ⟨bn, 1, none⟩ = some (.slice o k oc) := by rw [HC.out.1.cell]; rfl
    obtain ⟨HO, HL⟩ := HB1.out.fin (p := (vs.take m ++ [p], os)) HC.out.2.1 HC.out.2.2
    clear CA CB HB1 k0 k1 lt1 d0 d1 e0 e1 lt2 HC
    go_wp2_with (fail)
    refine bodyPost_ret (ret103 rfl _ _ _ rfl _ _ HO.out) rfl ?_
    exact HL.out
end Go.Proofs.Ygctab
