import Derived.Test.YgctabTowK
import Derived.BigRegion
import Derived.Deep.RegionLaw
import Derived.Laws.CopyOwn
namespace Go.Proofs.Ygctab
open Go.RowKit
set_option linter.unusedVariables false
set_option linter.unusedSimpArgs false

theorem size109 : (Tabg.prog.info? 109).map (·.size) = some 3 := by kernel_rfl
theorem row109 : (Tabg.prog.underlying 109).map isRow = some true := by kernel_rfl
theorem ret109 {fn : Func} {p : Tmp} (h : fn.results = #[.cell p 109]) (tmps : Array Value) (w : World) (b : Nat) (hp : tmps.getD p undef = .pointer (some ⟨b, 0, none⟩)) (x y z : Value) (ho : Own w b 109 [x, y, z]) :
    (results fn tmps).run Tabg.prog w = .ok (.agg #[x, y, z]) w := by
  obtain ⟨d, hd, hr⟩ := Option.map_eq_some_iff.1 row109
  refine results_cell_row h tmps w b 109 #[x, y, z] (0, 0) d hp ho hd ?_ size109
  cases d <;> first | rfl | exact absurd hr (by simp [isRow])

/-- What was put out: the entries and the numbers. -/
def OC (w : World) (sa : Option Addr) (o : Option Addr) (vs : List Nat) (os : List Int) : Prop :=
  (∃ es, RdE w sa vs.length es ∧ Hold w es vs) ∧ RdI .i8 w o os.length os
/-- All blocks but those of outcomes stand. -/
def Keeps9 (w wf : World) : Prop := ∀ (T : TypeId) (x : Nat) (ys : List Value), T ≠ 109 → Own w x T ys → Own wf x T ys
theorem OC.up {w w' : World} {sa o : Option Addr} {vs : List Nat} {os : List Int} (h : OC w sa o vs os) (u : Up w w') : OC w' sa o vs os := by
  obtain ⟨⟨es, h1, h2⟩, h3⟩ := h
  exact ⟨⟨es, h1.up u, h2.up u⟩, h3.up u⟩

/-- The outcome while it is being made: i entries stand. -/
structure OSt (w wr : World) (r2 o3 : Nat) (sa : Option Addr) (vO : Value) (vs : List Nat) (i : Nat) : Prop where
  up : Up w wr
  le2 : w.heap.size ≤ r2
  le3 : w.heap.size ≤ o3
  ne : r2 ≠ o3
  own1 : Own wr r2 109 [.bool false, .slice none 0 0, .slice none 0 0]
  own2 : Own wr o3 109 [.bool false, .slice sa vs.length vs.length, vO]
  row : (vs.length = 0 ∧ sa = none) ∨ ∃ (rb : Nat) (qs : List (Nat × Nat)), sa = some ⟨rb, 0, none⟩ ∧ w.heap.size ≤ rb ∧ Own wr rb 24 (qs.map entC ++ List.replicate (vs.length - i) (.slice none 0 0)) ∧ qs.map Prod.snd = vs.take i ∧ ∀ q ∈ qs, EntOk 0 wr q
theorem OSt.ent {w wr wf : World} {r2 o3 : Nat} {sa : Option Addr} {vO : Value} {vs : List Nat} (h : OSt w wr r2 o3 sa vO vs vs.length) (kt : ∀ (T : TypeId) (x : Nat) (ys : List Value), T ≠ 109 → Own wr x T ys → Own wf x T ys) : ∃ es, RdE wf sa vs.length es ∧ Hold wf es vs := by
  rcases h.row with ⟨h0, rfl⟩ | ⟨rb, qs, rfl, _, h1, h2, h3⟩
  · have : vs = [] := List.eq_nil_of_length_eq_zero h0
    subst this
    exact ⟨[], ⟨rfl, fun i hi => absurd hi (Nat.not_lt_zero _)⟩, Hold.nil _⟩
  · rw [Nat.sub_self, List.replicate_zero, List.append_nil] at h1
    rw [List.take_of_length_le (Nat.le_refl _)] at h2
    replace h1 := kt _ _ _ (by decide) h1
    refine ⟨qs.map pe, ?_, ?_⟩
    · rw [pe_ents] at h1
      have := Own.rdE h1
      have e : (qs.map pe).length = vs.length := by rw [← h2]; simp
      rwa [e] at this
    · rw [← h2]
      refine ⟨by simp, fun i hi => ?_⟩
      have hi' : i < qs.length := by simpa using hi
      rw [entAt_pe hi', List.getElem?_map, List.getElem?_eq_getElem hi']
      have hk : EntOk 0 wf qs[i] := fun hv => by
        obtain ⟨h5, zs, h6, h7⟩ := h3 _ (List.getElem_mem hi') hv
        exact ⟨h5, zs, kt _ _ _ (by decide) h6, h7⟩
      exact hk.ns
theorem OSt.types {w wr wf : World} {r2 o3 : Nat} {sa : Option Addr} {vO : Value} {vs : List Nat} {i : Nat} (h : OSt w wr r2 o3 sa vO vs i) (u : Up w wf) (kt : ∀ (T : TypeId) (x : Nat) (ys : List Value), T ≠ 50 → Own wr x T ys → Own wf x T ys) : OSt w wf r2 o3 sa vO vs i := by
  refine ⟨u, h.le2, h.le3, h.ne, kt _ _ _ (by decide) h.own1, kt _ _ _ (by decide) h.own2, ?_⟩
  rcases h.row with h0 | ⟨rb, qs, e, hl, h1, h2, h3⟩
  · exact .inl h0
  · refine .inr ⟨rb, qs, e, hl, kt _ _ _ (by decide) h1, h2, fun q hq hv => ?_⟩
    obtain ⟨h5, zs, h6, h7⟩ := h3 q hq hv
    exact ⟨h5, zs, kt _ _ _ (by decide) h6, h7⟩
/-- The numbers that were put out, in a row of their own. -/
def Pt (w : World) (o : Option Addr) (os : List Int) : Prop := (os.length = 0 ∧ o = none) ∨ ∃ g, o = some ⟨g, 0, none⟩ ∧ Own w g 50 (ints .i8 os)
theorem Pt.rd {w : World} {o : Option Addr} {os : List Int} (h : Pt w o os) : RdI .i8 w o os.length os := by
  rcases h with ⟨h0, rfl⟩ | ⟨g, rfl, h⟩
  · exact ⟨rfl, fun i hi => by omega⟩
  · exact Own.rd h
/-- A zero entry: nothing is stored. -/
theorem OSt.zero {w wr : World} {r2 o3 : Nat} {sa : Option Addr} {vO : Value} {vs : List Nat} {i : Nat} (h : OSt w wr r2 o3 sa vO vs i) (hi : i < vs.length) (hz : vs[i]?.getD 0 = 0) : OSt w wr r2 o3 sa vO vs (i + 1) := by
  refine ⟨h.up, h.le2, h.le3, h.ne, h.own1, h.own2, ?_⟩
  rcases h.row with ⟨h0, rfl⟩ | ⟨rb, qs, rfl, hl, h1, h2, h3⟩
  · omega
  · refine .inr ⟨rb, qs ++ [(0, 0)], rfl, hl, ?_, ?_, fun q hq => ?_⟩
    · have e : (qs ++ [(0, 0)]).map entC ++ List.replicate (vs.length - (i + 1)) (Value.slice none 0 0) = qs.map entC ++ List.replicate (vs.length - i) (Value.slice none 0 0) := by
        rw [show vs.length - i = (vs.length - (i + 1)) + 1 by omega, List.replicate_succ, List.map_append, List.append_assoc]
        congr 1
        show [entC (0, 0)] ++ _ = _
        unfold entC
        rw [show ((0, 0) : Nat × Nat).2 = 0 from rfl, dig_zero]
        rfl
      rw [e]
      exact h1
    · rw [List.map_append, h2, List.take_add_one]
      congr 1
      rw [List.getElem?_eq_getElem hi] at hz ⊢
      simp at hz
      simp [hz]
    · rcases List.mem_append.1 hq with h4 | h4
      · exact h3 q h4
      · rw [List.mem_singleton.1 h4]
        exact fun h => absurd rfl h
/-- One entry is made: its row is new, and its digits are copied. -/
theorem OSt.put {w wr wm wf : World} {r2 o3 rb g L : Nat} {vO : Value} {vs : List Nat} {i : Nat} (h : OSt w wr r2 o3 (some ⟨rb, 0, none⟩) vO vs i) (hi : i < vs.length) (hz : vs[i]?.getD 0 ≠ 0) (hL : (dig (vs[i]?.getD 0)).length = L)
    (k1 : Up w wm) (k2 : ∀ (T : TypeId) (x : Nat) (ys : List Value), T ≠ 24 → Own wr x T ys → Own wm x T ys) (k3 : ∀ ys, Own wr rb 24 ys → Own wm rb 24 (ys.set i (.slice (some ⟨g, 0, none⟩) L L)))
    (k4 : wr.heap.size ≤ g) (u : Up w wf) (k5 : ∀ (T : TypeId) (x : Nat) (ys : List Value), x ≠ g → Own wm x T ys → Own wf x T ys) (k6 : Own wf g 5 (u8s (dig (vs[i]?.getD 0)))) :
    OSt w wf r2 o3 (some ⟨rb, 0, none⟩) vO vs (i + 1) := by
  have nl : ∀ {T : TypeId} {x : Nat} {ys : List Value}, Own wr x T ys → x ≠ g := fun ho => by have := ho.lt; omega
  refine ⟨u, h.le2, h.le3, h.ne, k5 _ _ _ (nl h.own1) (k2 _ _ _ (by decide) h.own1), k5 _ _ _ (nl h.own2) (k2 _ _ _ (by decide) h.own2), ?_⟩
  rcases h.row with ⟨h0, _⟩ | ⟨rb', qs, e, hl, h1, h2, h3⟩
  · omega
  · cases e
    have hlq : qs.length = i := by
      have := congrArg List.length h2
      simp at this
      omega
    refine .inr ⟨rb, qs ++ [(g, vs[i]?.getD 0)], rfl, hl, ?_, ?_, fun q hq => ?_⟩
    · have e : (qs ++ [(g, vs[i]?.getD 0)]).map entC ++ List.replicate (vs.length - (i + 1)) (Value.slice none 0 0) = (qs.map entC ++ List.replicate (vs.length - i) (Value.slice none 0 0)).set i (Value.slice (some ⟨g, 0, none⟩) L L) := by
        rw [List.set_append, if_neg (by simp; omega), show vs.length - i = (vs.length - (i + 1)) + 1 by omega, List.replicate_succ, List.length_map, hlq, Nat.sub_self, List.set_cons_zero, List.map_append, List.append_assoc]
        congr 1
        show [entC (g, vs[i]?.getD 0)] ++ _ = _
        unfold entC
        rw [show ((g, vs[i]?.getD 0) : Nat × Nat).2 = vs[i]?.getD 0 from rfl, nrmA_pos _ hz, hL]
        rfl
      rw [e]
      exact k5 _ _ _ (nl h1) (k3 _ h1)
    · rw [List.map_append, h2, List.take_add_one, List.getElem?_eq_getElem hi]
      rfl
    · rcases List.mem_append.1 hq with h4 | h4
      · intro hv
        obtain ⟨h5, zs, h6, h7⟩ := h3 q h4 hv
        exact ⟨h5, zs, k5 _ _ _ (nl h6) (k2 _ _ _ (by decide) h6), h7⟩
      · rw [List.mem_singleton.1 h4]
        exact fun hv => ⟨Nat.zero_le _, _, k6, dig_digs _, bv_dig _⟩

theorem OSt.set3 {w wr : World} {r2 o3 : Nat} {sa : Option Addr} {vO vO' : Value} {vs : List Nat} {i : Nat} (h : OSt w wr r2 o3 sa vO vs i) : OSt w (wr.setCell ⟨o3, 2, none⟩ vO') r2 o3 sa vO' vs i := by
  refine ⟨h.up.setCell h.le3 _, h.le2, h.le3, h.ne, h.own1.other h.ne _, h.own2.set 2 vO', ?_⟩
  rcases h.row with h0 | ⟨rb, qs, e, hl, h1, h2, h3⟩
  · exact .inl h0
  · refine .inr ⟨rb, qs, e, hl, h1.other (h1.ne h.own2 (by decide)) _, h2, fun q hq hv => ?_⟩
    obtain ⟨h5, zs, h6, h7⟩ := h3 q hq hv
    exact ⟨h5, zs, h6.other (h6.ne h.own2 (by decide)) _, h7⟩
theorem OSt.mono {w wr wf : World} {r2 o3 : Nat} {sa : Option Addr} {vO : Value} {vs : List Nat} {i : Nat} (h : OSt w wr r2 o3 sa vO vs i) (u : Up wr wf) : OSt w wf r2 o3 sa vO vs i := by
  refine ⟨h.up.trans u, h.le2, h.le3, h.ne, h.own1.up u, h.own2.up u, ?_⟩
  rcases h.row with h0 | ⟨rb, qs, e, hl, h1, h2, h3⟩
  · exact .inl h0
  · exact .inr ⟨rb, qs, e, hl, h1.up u, h2, fun q hq => (h3 q hq).up u⟩
/-- Before the loop. -/
theorem OSt.new0 (w : World) {vs : List Nat} (h0 : vs.length = 0) : OSt w ((w.alloc (.cells #[.bool false, .slice none 0 0, .slice none 0 0] 109)).alloc (.cells #[.bool false, .slice none 0 0, .slice none 0 0] 109)) w.heap.size (w.heap.size + 1) none (.slice none 0 0) vs 0 := by
  refine ⟨((Up.refl w).alloc _).alloc _, by omega, by omega, by omega, (Own.new w 109 #[.bool false, .slice none 0 0, .slice none 0 0]).alloc _, ?_, .inl ⟨h0, rfl⟩⟩
  have := Own.new (w.alloc (.cells #[.bool false, .slice none 0 0, .slice none 0 0] 109)) 109 #[.bool false, .slice none 0 0, .slice none 0 0]
  rw [h0]
  simpa using this
theorem OSt.new1 (w : World) {vs : List Nat} (h0 : vs.length ≠ 0) : OSt w (((w.alloc (.cells #[.bool false, .slice none 0 0, .slice none 0 0] 109)).alloc (.cells #[.bool false, .slice (some ⟨w.heap.size + 1 + 1, 0, none⟩) vs.length vs.length, .slice none 0 0] 109)).alloc (.cells (madeCells #[.slice none 0 0] vs.length) 24)) w.heap.size (w.heap.size + 1) (some ⟨w.heap.size + 1 + 1, 0, none⟩) (.slice none 0 0) vs 0 := by
  refine ⟨(((Up.refl w).alloc _).alloc _).alloc _, by omega, by omega, by omega, ((Own.new w 109 #[.bool false, .slice none 0 0, .slice none 0 0]).alloc _).alloc _, ?_, .inr ⟨w.heap.size + 1 + 1, [], rfl, by omega, ?_, by simp, fun q hq => nomatch hq⟩⟩
  · have := (Own.new (w.alloc (.cells #[.bool false, .slice none 0 0, .slice none 0 0] 109)) 109 #[.bool false, .slice (some ⟨w.heap.size + 1 + 1, 0, none⟩) vs.length vs.length, .slice none 0 0]).alloc (.cells (madeCells #[.slice none 0 0] vs.length) 24)
    simpa using this
  · have := Own.made ((w.alloc (.cells #[.bool false, .slice none 0 0, .slice none 0 0] 109)).alloc (.cells #[.bool false, .slice (some ⟨w.heap.size + 1 + 1, 0, none⟩) vs.length vs.length, .slice none 0 0] 109)) 24 (.slice none 0 0) vs.length
    simpa using this
theorem cell_none_of_ge {w : World} {b i : Nat} (h : w.heap.size ≤ b) : w.cell? ⟨b, i, none⟩ = none := by
  unfold World.cell?
  have : w.heap[b]? = none := Array.getElem?_eq_none h
  simp [this]
theorem addr_pl (b off i : Nat) : (⟨b, off, none⟩ : Addr).add i = ⟨b, off + i, none⟩ := by
  unfold Addr.add
  split <;> simp_all
/-- Between the making of an entry's row and the copying. -/
structure Mid (w wr wm : World) (rb i g L : Nat) : Prop where
  k1 : Up w wm
  k2 : ∀ (T : TypeId) (x : Nat) (ys : List Value), T ≠ 24 → Own wr x T ys → Own wm x T ys
  k3 : ∀ ys, Own wr rb 24 ys → Own wm rb 24 (ys.set i (.slice (some ⟨g, 0, none⟩) L L))
  k4 : wr.heap.size ≤ g
  k5 : wm.heap.size ≤ g + 1
  k6 : Own wm g 5 (u8s (List.replicate L 0))
theorem Mid.of {w wr : World} {rb i L : Nat} {zs : List Value} (u : Up w wr) (hl : w.heap.size ≤ rb) (ho : Own wr rb 24 zs) : Mid w wr ((wr.setCell ⟨rb, i, none⟩ (.slice (some ⟨wr.heap.size, 0, none⟩) L L)).alloc (.cells (madeCells #[.int .u8 0] L) 5)).drew rb i wr.heap.size L := by
  have hlt := ho.lt
  refine ⟨((u.setCell hl _).alloc _).drew, fun T x ys hT hx => ?_, fun ys hy => ?_, Nat.le_refl _, by simp, ?_⟩
  · exact ((hx.other (hx.ne ho hT) _).alloc _).drew
  · exact ((hy.set i _).alloc _).drew
  · have := Own.made (wr.setCell ⟨rb, i, none⟩ (.slice (some ⟨wr.heap.size, 0, none⟩) L L)) 5 (.int .u8 0) L
    have e0 : List.replicate L (Value.int .u8 0) = u8s (List.replicate L 0) := u8s_replicate L 0
    rw [e0] at this
    have e1 : (wr.setCell ⟨rb, i, none⟩ (.slice (some ⟨wr.heap.size, 0, none⟩) L L)).heap.size = wr.heap.size := by simp
    rw [e1] at this
    exact this.drew
/-- The copying is done. -/
theorem Mid.copied {w wr wm wf : World} {rb i g L : Nat} (h : Mid w wr wm rb i g L) (hg : w.heap.size ≤ g) (hb : Below g wm wf) : Up w wf ∧ ∀ (T : TypeId) (x : Nat) (ys : List Value), x ≠ g → Own wm x T ys → Own wf x T ys := by
  refine ⟨⟨hb.os.trans h.k1.os, hb.tape.trans h.k1.tape, hb.output.trans h.k1.output, Nat.le_trans h.k1.size hb.size, fun k hk => ?_⟩, fun T x ys hx ho => ?_⟩
  · rw [hb.block k (by omega)]
    exact h.k1.block hk
  · have hl := ho.lt
    have := h.k5
    unfold Own at *
    rw [hb.block x (by omega)]
    exact ho

set_option maxRecDepth 100000 in
set_option maxHeartbeats 3200000 in
theorem outcome_any {w0 w : World} {m : Nat} {vs : List Nat} {os : List Int} (h : MV w0 w m vs os) (hb : Bnd vs) (ho : os.length ≤ 4095) :
    Calls Tabg.prog 136 #[.pointer (some ⟨m, 0, none⟩)] w fun e w' => ∃ sa o, e = .returned (.agg #[.bool false, .slice sa vs.length vs.length, .slice o os.length os.length]) ∧ Up w w' ∧ ∀ wf, Keeps9 w' wf → OC wf sa o vs os := by
  obtain ⟨ps, hvs, hU, vS, vO, hM⟩ := h
  have hlen : ps.length = vs.length := by rw [← hvs]; simp
  have h16 := hb.1
  obtain ⟨sa, sc, hvS, hsc, hsa, hsn, hcell⟩ := ownsRow_slice hM.st
  obtain ⟨oa, oc, hvO, hoc, hoa, hon, hocell⟩ := ownsRow_slice hM.out
  have hc0 : w.cell? ⟨m, 0, none⟩ = some vS := by rw [hM.own.cell]; rfl
  have hc1 : w.cell? ⟨m, 1, none⟩ = some vO := by rw [hM.own.cell]; rfl
  have mlt := hM.own.lt
  obtain ⟨n, hn⟩ : ∃ n, n = vs.length := ⟨_, rfl⟩
  obtain ⟨k, hk⟩ : ∃ k, k = os.length := ⟨_, rfl⟩
  have HC : Hid (∀ i, i < n → ∃ b q, sa = some ⟨b, 0, none⟩ ∧ w.cell? ⟨b, i, none⟩ = some (entC q) ∧ EntOk w0.heap.size w q ∧ q.2 = vs[i]?.getD 0 ∧ (dig q.2).length ≤ 1024) := fun i hi => by
    obtain ⟨b, e1, e2, e3, _⟩ := hcell i (by omega)
    have hi' : i < ps.length := by omega
    refine ⟨b, ps[i], e1, ?_, hM.ent _ (List.getElem_mem hi'), by rw [← hvs]; simp [List.getElem?_eq_getElem hi'], hb.2 _ (by rw [← hvs]; exact List.mem_map_of_mem (List.getElem_mem hi'))⟩
    rw [e2, List.getElem?_map, List.getElem?_eq_getElem hi']
    rfl
  have HO : Hid (∀ i, i < k → ∃ b o', oa = some ⟨b, o', none⟩ ∧ w.cell? ⟨b, o' + i, none⟩ = (ints .i8 os)[i]?) := fun i hi => by
    obtain ⟨b, e1, e2, _⟩ := hocell i (by omega)
    exact ⟨b, 0, e1, by rw [Nat.zero_add]; exact e2⟩
  subst hvS hvO
  rw [hlen, ← hn] at hc0
  rw [← hk] at hc1
  have Hn : Hid (n = vs.length ∧ k = os.length) := ⟨hn, hk⟩
  have n16 : n ≤ 16 := by omega
  have k4 : k ≤ 4095 := by omega
  have nI : (n : Int) ≤ 16 := by omega
  have n0 : (0 : Int) ≤ (n : Int) := by omega
  have kI : (k : Int) ≤ 4095 := by omega
  have hmk := fun w' => run_make_row' (P := Tabg.prog) 107 24 (.slice none 0 0) 24 (by kernel_rfl) (by kernel_rfl) rfl .i64 .i64 n (by omega) (by omega) w'
  rw [← hn, ← hk]
  clear hM hU hsa hsn hcell hoa hon hocell hlen h16 hb ho hn hk
  go_enter Tabg.func136, Tabg.ntmps136
  go_upto_if 10 with (fail)
  go_cut [] (fun wc => ∃ so, Hid (OSt w wc w.heap.size (w.heap.size + 1) so (.slice none 0 0) vs 0))
  case first =>
    by_cases hz : n = 0
    · subst hz
      have g : decide ((0 : Int) < ((0 : Nat) : Int)) = false := by decide
      go_wp2
      go_meet
      case rel => exact ⟨none, OSt.new0 w (by have := Hn.out; omega)⟩
    · have g : (0 : Int) < (n : Int) := by omega
      have HN : Hid (OSt w _ w.heap.size (w.heap.size + 1) _ (.slice none 0 0) vs 0) := OSt.new1 w (by have := Hn.out; omega)
      rw [← Hn.out.1] at HN
      go_wp2
      go_meet
      case rel => exact ⟨_, HN.out⟩
  case rest =>
    obtain ⟨so, HS⟩ := hcut
    clear hmk
    go_wp2
    go_loopw [4] (fun u wr => ∃ i : Nat, u = .int .i64 i ∧ i ≤ n ∧ Hid (OSt w wr w.heap.size (w.heap.size + 1) so (.slice none 0 0) vs i)) (fun u _ => n - (intOf u).toNat)
    case atStart => exact ⟨0, rfl, by omega, HS⟩
    case round =>
      obtain ⟨i, rfl, hi, HW⟩ := hrel
      clear HS
      have hc0' := HW.out.up.cell hc0
      have i0 : (0 : Int) ≤ (i : Int) := by omega
      by_cases hlt : i < n
      · obtain ⟨b, q, rfl, cj, hq, hqv, hqd⟩ := HC.out i hlt
        have cj' := HW.out.up.cell cj
        have iN : (i : Int) < (n : Int) := by omega
        by_cases hz : q.2 = 0
        · have eq : entC q = .slice none 0 0 := by unfold entC; rw [hz, dig_zero]; rfl
          rw [eq] at cj'
          have HW2 : Hid (OSt w wr w.heap.size (w.heap.size + 1) so (.slice none 0 0) vs (i + 1)) := HW.out.zero (by have := Hn.out; omega) (by rw [← hqv]; exact hz)
          clear HC HO cj hq hqv hqd HW eq
          go_wp2
          go_roundw
          case rel => exact ⟨i + 1, by go_num, by omega, HW2.out⟩
          case measure => simp [intOf]; omega
        · obtain ⟨L, hL⟩ : ∃ L, (dig q.2).length = L := ⟨_, rfl⟩
          have eq : entC q = .slice (some ⟨q.1, 0, none⟩) L L := by unfold entC; rw [nrmA_pos _ hz, hL]
          rw [eq] at cj'
          have L1 : 0 < L := by rw [← hL]; exact dig_length_pos hz
          have LI : (0 : Int) < (L : Int) := by omega
          have LJ : (L : Int) ≤ 1024 := by omega
          obtain ⟨rb, qs, rfl, hrl, hro, _, _⟩ : ∃ (rb : Nat) (qs : List (Nat × Nat)), so = some ⟨rb, 0, none⟩ ∧ w.heap.size ≤ rb ∧ Own wr rb 24 (qs.map entC ++ List.replicate (vs.length - i) (.slice none 0 0)) ∧ qs.map Prod.snd = vs.take i ∧ ∀ q ∈ qs, EntOk 0 wr q := by
            rcases HW.out.row with ⟨h0, _⟩ | h0
            · have := Hn.out; omega
            · exact h0
          have co1 : wr.cell? ⟨w.heap.size + 1, 1, none⟩ = some (.slice (some ⟨rb, 0, none⟩) n n) := by
            rw [HW.out.own2.cell, Hn.out.1]; rfl
          obtain ⟨old, crb⟩ : ∃ x, wr.cell? ⟨rb, i, none⟩ = some x := by
            have hll : i < (qs.map entC ++ List.replicate (vs.length - i) (Value.slice none 0 0)).length := by
              rename_i hh _
              have h1 := congrArg List.length hh
              have := Hn.out
              simp at h1
              simp
              omega
            exact ⟨_, by rw [hro.cell, List.getElem?_eq_getElem hll]⟩
          have frb := hro.free i
          have rlt := hro.lt
          have olt := HW.out.own2.lt
          have blt : b < wr.heap.size := by
            refine Nat.lt_of_lt_of_le ?_ HW.out.up.size
            rcases Nat.lt_or_ge b w.heap.size with h1 | h1
            · exact h1
            · rw [cell_none_of_ge h1] at cj
              cases cj
          have mlt' := Nat.lt_of_lt_of_le mlt HW.out.up.size
          have hmk2 := fun w' => run_make_row' (P := Tabg.prog) 24 5 (.int .u8 0) 1 Tabg.underlying24 (by kernel_rfl) rfl .i64 .i64 L (by omega) (by omega) w'
          have HMid : Hid (Mid w wr _ rb i wr.heap.size L) := Mid.of HW.out.up hrl hro
          have HQ : Hid (EntOk w0.heap.size w q ∧ q.2 = vs[i]?.getD 0 ∧ (dig q.2).length = L ∧ q.2 ≠ 0) := ⟨hq, hqv, hL, hz⟩
          have HRO : Hid (∃ ys, Own wr rb 24 ys ∧ i < ys.length) := by
            refine ⟨_, hro, ?_⟩
            rcases Nat.lt_or_ge i (qs.map entC ++ List.replicate (vs.length - i) (Value.slice none 0 0)).length with h1 | h1
            · exact h1
            · rw [hro.cell, List.getElem?_eq_none h1] at crb
              cases crb
          have HCJ : Hid (w.cell? ⟨b, i, none⟩ = some (.slice (some ⟨q.1, 0, none⟩) L L)) := by rw [← eq]; exact cj
          clear hro HC HO hq hqv hqd hL eq hz cj
          go_wp2_with (fail)
          go_cut [] (fun wc => ∃ g, Hid (Mid w wr wc rb i g L))
          case first =>
            go_region
            go_wp2
            go_meet
            case rel => exact ⟨_, HMid.out⟩
          case rest =>
            obtain ⟨g, HG⟩ := hcut
            clear hmk2 crb frb rlt olt blt mlt' co1 hc0' cj'
            have hc0' := HG.out.k1.cell hc0
            have co1 : wc.cell? ⟨w.heap.size + 1, 1, none⟩ = some (.slice (some ⟨rb, 0, none⟩) n n) := by
              rw [(HG.out.k2 _ _ _ (by decide) HW.out.own2).cell, Hn.out.1]; rfl
            obtain ⟨ys, hys, hyl⟩ : ∃ ys, Own wr rb 24 ys ∧ i < ys.length := HRO.out
            have crb : wc.cell? ⟨rb, i, none⟩ = some (.slice (some ⟨g, 0, none⟩) L L) := by
              rw [(HG.out.k3 _ hys).cell, List.getElem?_set, if_pos rfl, if_pos hyl]
            have cj' : wc.cell? ⟨b, i, none⟩ = some (.slice (some ⟨q.1, 0, none⟩) L L) := HG.out.k1.cell HCJ.out
            have HX : Hid ((u8s (dig q.2)).length = L ∧ (∀ j, j < L → wc.drew.cell? ⟨q.1, 0 + j, none⟩ = (u8s (dig q.2))[j]?) ∧ (∀ v ∈ u8s (dig q.2), v.oneCell' = true) ∧ Own wc.drew g 5 (u8s (List.replicate L 0)) ∧ w.heap.size ≤ g) := by
              have hns := (HQ.out.1.up (HG.out.k1.drew)).ns
              rw [nrmA_pos _ HQ.out.2.2.2] at hns
              refine ⟨by simp [u8s, HQ.out.2.2.1], fun j hj => ?_, fun v hv => ?_, HG.out.k6.drew, Nat.le_trans HW.out.up.size HG.out.k4⟩
              · obtain ⟨b', o', e, hcc⟩ := hns.1.2.2 j (by rw [HQ.out.2.2.1]; exact hj)
                cases e
                rw [hcc]
                have : j < (dig q.2).length := by rw [HQ.out.2.2.1]; exact hj
                simp [u8s, List.getElem?_eq_getElem this]
              · simp only [u8s, List.mem_map] at hv
                obtain ⟨z, _, rfl⟩ := hv
                rfl
            have HSP : Hid (splice (u8s (List.replicate L 0)) 0 (u8s (dig q.2)) = u8s (dig q.2)) := by
              show _ = _
              rw [splice_head _ _ (by rw [HX.out.1]; simp [u8s]), HX.out.1, List.drop_eq_nil_of_le (by simp [u8s]), List.append_nil]
            have HP : Hid (∀ j v, (u8s (dig q.2))[j]? = some v → wc.drew.cell? ((⟨q.1, 0, none⟩ : Addr).add j) = some v) := by
              intro j v hv
              have hj := (List.getElem?_eq_some_iff.1 hv).1
              rw [HX.out.1] at hj
              rw [addr_pl, HX.out.2.1 j hj]
              exact hv
            have HL2 : Hid ((u8s (dig q.2)).length = Nat.min L L ∧ 0 + (u8s (dig q.2)).length ≤ (u8s (List.replicate L 0)).length) := by
              refine ⟨by rw [HX.out.1]; exact (Nat.min_self L).symm, by rw [HX.out.1]; simp [u8s]⟩
            go_wp2_with (fail)
            go_region_law (refine step_copy_splice rfl (.tmp 53) (.tmp 60) 24 87 rfl 5 Tabg.underlying24 (by kernel_rfl) (some ⟨g, 0, none⟩) (some ⟨q.1, 0, none⟩) L L L L rfl rfl g 0 (u8s (List.replicate L 0)) 5 HX.out.2.2.2.1 (u8s (dig q.2)) HL2.out.1 (fun _ => ⟨rfl, ⟨q.1, 0, none⟩, rfl, HP.out⟩) HL2.out.2 HX.out.2.2.1 g wc (Below.drew (Below.refl _ _)) (Nat.le_refl _) ?_; intro wf hwf hbf; have HFF : Hid (Own wf g 5 (splice (u8s (List.replicate L 0)) 0 (u8s (dig q.2))) ∧ Below g wc wf) := ⟨hwf.out, hbf⟩; clear hwf hbf)
            all_goals (
              have HW2 : Hid (OSt w wf w.heap.size (w.heap.size + 1) (some ⟨rb, 0, none⟩) (.slice none 0 0) vs (i + 1)) := by
                have hc := HG.out.copied HX.out.2.2.2.2 HFF.out.2
                have ho := HFF.out.1
                rw [HSP.out] at ho
                exact HW.out.put (by have := Hn.out; omega) (by rw [← HQ.out.2.1]; exact HQ.out.2.2.2) (by rw [← HQ.out.2.1]; exact HQ.out.2.2.1) HG.out.k1 HG.out.k2 HG.out.k3 HG.out.k4 hc.1 hc.2 (by rw [← HQ.out.2.1]; exact ho)
              clear HFF HP HX HSP HL2 HG HQ HW HRO HCJ
              go_wp2)
            all_goals go_roundw
            all_goals first | exact ⟨i + 1, by go_num, by omega, HW2.out⟩ | (simp [intOf]; omega)
      · obtain rfl : i = n := by omega
        have hc1' := HW.out.up.cell hc1
        have k0I : (0 : Int) ≤ (k : Int) := by omega
        go_upto_if 67 with (fail)
        go_cut [] (fun wc => ∃ o, Hid (OSt w wc w.heap.size (w.heap.size + 1) so (.slice o k k) vs i ∧ Pt wc o os))
        case first =>
          by_cases hz : k = 0
          · subst hz
            have g : decide ((0 : Int) < ((0 : Nat) : Int)) = false := by decide
            clear HC HO
            go_wp2
            go_meet
            case rel => exact ⟨none, HW.out, .inl ⟨by have := Hn.out; omega, rfl⟩⟩
          · have gk : (0 : Int) < (k : Int) := by omega
            have hmk3 := fun w' => run_make_row' (P := Tabg.prog) 101 50 (.int .i8 0) 1 Tabg.underlying101 (by kernel_rfl) rfl .i64 .i64 k (by omega) (by omega) w'
            have olt := HW.out.own2.lt
            have f2 := HW.out.own2.free 2
            have c2 : wr.cell? ⟨w.heap.size + 1, 2, none⟩ = some (.slice none 0 0) := by rw [HW.out.own2.cell]; rfl
            have mlt' := Nat.lt_of_lt_of_le mlt HW.out.up.size
            obtain ⟨ob, oo, rfl, _⟩ := HO.out 0 (by omega)
            have HWm : Hid (OSt w ((wr.setCell ⟨w.heap.size + 1, 2, none⟩ (.slice (some ⟨wr.heap.size, 0, none⟩) k k)).alloc (.cells (madeCells #[.int .i8 0] k) 50)) w.heap.size (w.heap.size + 1) so (.slice (some ⟨wr.heap.size, 0, none⟩) k k) vs i) := (HW.out.set3).mono ((Up.refl _).alloc _)
            have HGm : Hid (Own ((wr.setCell ⟨w.heap.size + 1, 2, none⟩ (.slice (some ⟨wr.heap.size, 0, none⟩) k k)).alloc (.cells (madeCells #[.int .i8 0] k) 50)) wr.heap.size 50 (ints .i8 (List.replicate k 0)) ∧ w.heap.size ≤ wr.heap.size ∧ ((wr.setCell ⟨w.heap.size + 1, 2, none⟩ (.slice (some ⟨wr.heap.size, 0, none⟩) k k)).alloc (.cells (madeCells #[.int .i8 0] k) 50)).heap.size ≤ wr.heap.size + 1) := by
              have := Own.made (wr.setCell ⟨w.heap.size + 1, 2, none⟩ (.slice (some ⟨wr.heap.size, 0, none⟩) k k)) 50 (.int .i8 0) k
              rw [ints_replicate] at this
              have e1 : (wr.setCell ⟨w.heap.size + 1, 2, none⟩ (.slice (some ⟨wr.heap.size, 0, none⟩) k k)).heap.size = wr.heap.size := by simp
              rw [e1] at this
              exact ⟨this, HW.out.up.size, by simp⟩
            go_wp2_with (fail)
            clear hmk3 olt f2 c2 mlt' HW HC hc1' hc0' hc0
            generalize (wr.setCell ⟨w.heap.size + 1, 2, none⟩ (.slice (some ⟨wr.heap.size, 0, none⟩) k k)).alloc (.cells (madeCells #[.int .i8 0] k) 50) = wm at *
            have hc1' := HWm.out.up.cell hc1
            have c2 : wm.cell? ⟨w.heap.size + 1, 2, none⟩ = some (.slice (some ⟨wr.heap.size, 0, none⟩) k k) := by rw [HWm.out.own2.cell]; rfl
            generalize wr.heap.size = g at *
            have HX : Hid ((ints .i8 os).length = k ∧ (∀ v ∈ ints .i8 os, v.oneCell' = true) ∧ Own wm.drew g 50 (ints .i8 (List.replicate k 0))) := by
              refine ⟨by rw [ints_length]; exact Hn.out.2.symm, fun v hv => ?_, HGm.out.1.drew⟩
              simp only [ints, List.mem_map] at hv
              obtain ⟨z, _, rfl⟩ := hv
              rfl
            have HSP : Hid (splice (ints .i8 (List.replicate k 0)) 0 (ints .i8 os) = ints .i8 os) := by
              show _ = _
              rw [splice_head _ _ (by rw [HX.out.1]; simp [ints]), HX.out.1, List.drop_eq_nil_of_le (by simp [ints]), List.append_nil]
            have HP : Hid (∀ j v, (ints .i8 os)[j]? = some v → wm.drew.cell? ((⟨ob, oo, none⟩ : Addr).add j) = some v) := by
              intro j v hv
              have hj := (List.getElem?_eq_some_iff.1 hv).1
              rw [HX.out.1] at hj
              obtain ⟨b', o', e, hcc⟩ := HO.out j hj
              cases e
              rw [addr_pl]
              rw [hv] at hcc
              exact (HWm.out.up.drew).cell hcc
            have HL2 : Hid ((ints .i8 os).length = Nat.min k k ∧ 0 + (ints .i8 os).length ≤ (ints .i8 (List.replicate k 0)).length) := by
              refine ⟨by rw [HX.out.1]; exact (Nat.min_self k).symm, by rw [HX.out.1]; simp [ints]⟩
            clear HO
            go_region_law (refine step_copy_splice rfl (.tmp 76) (.tmp 80) 101 101 rfl 50 Tabg.underlying101 (by kernel_rfl) (some ⟨g, 0, none⟩) (some ⟨ob, oo, none⟩) k k k oc rfl rfl g 0 (ints .i8 (List.replicate k 0)) 50 HX.out.2.2 (ints .i8 os) HL2.out.1 (fun _ => ⟨rfl, ⟨ob, oo, none⟩, rfl, HP.out⟩) HL2.out.2 HX.out.2.1 g wm (Below.drew (Below.refl _ _)) (Nat.le_refl _) ?_; intro wf hwf hbf; have HFF : Hid (Own wf g 50 (splice (ints .i8 (List.replicate k 0)) 0 (ints .i8 os)) ∧ Below g wm wf) := ⟨hwf.out, hbf⟩; clear hwf hbf)
            all_goals (
              have HW2 : Hid (OSt w wf w.heap.size (w.heap.size + 1) so (.slice (some ⟨g, 0, none⟩) k k) vs i ∧ Pt wf (some ⟨g, 0, none⟩) os) := by
                have ho := HFF.out.1
                rw [HSP.out] at ho
                have hb := HFF.out.2
                refine ⟨HWm.out.types ⟨hb.os.trans HWm.out.up.os, hb.tape.trans HWm.out.up.tape, hb.output.trans HWm.out.up.output, Nat.le_trans HWm.out.up.size hb.size, fun x hx => ?_⟩ (fun T x ys hT hx => ?_), .inr ⟨g, rfl, ho⟩⟩
                · rw [hb.block x (by have := HGm.out.2.1; omega)]
                  exact HWm.out.up.block hx
                · have hne := hx.ne HGm.out.1 hT
                  have hl := hx.lt
                  have := HGm.out.2.2
                  unfold Own at *
                  rw [hb.block x (by omega)]
                  exact hx
              clear HFF HP HX HSP HL2 HGm HWm
              go_wp2
              go_meet)
            all_goals exact ⟨_, HW2.out⟩
        case rest =>
          obtain ⟨o, HF⟩ := hcut
          have q2 : w.heap.size + 1 ≠ w.heap.size := by omega
          have c0 : wc.cell? ⟨w.heap.size + 1, 0, none⟩ = some (.bool false) := by rw [HF.out.1.own2.cell]; rfl
          have c1 : wc.cell? ⟨w.heap.size + 1, 1, none⟩ = some (.slice so i i) := by rw [HF.out.1.own2.cell, Hn.out.1]; rfl
          have c2 : wc.cell? ⟨w.heap.size + 1, 2, none⟩ = some (.slice o k k) := by rw [HF.out.1.own2.cell]; rfl
          have d0 : wc.cell? ⟨w.heap.size, 0, none⟩ = some (.bool false) := by rw [HF.out.1.own1.cell]; rfl
          have d1 : wc.cell? ⟨w.heap.size, 1, none⟩ = some (.slice none 0 0) := by rw [HF.out.1.own1.cell]; rfl
          have d2 : wc.cell? ⟨w.heap.size, 2, none⟩ = some (.slice none 0 0) := by rw [HF.out.1.own1.cell]; rfl
          have f0 := HF.out.1.own1.free 0
          have f1 := HF.out.1.own1.free 1
          have f2 := HF.out.1.own1.free 2
          have HE : Hid (Own (((wc.setCell ⟨w.heap.size, 0, none⟩ (.bool false)).setCell ⟨w.heap.size, 1, none⟩ (.slice so i i)).setCell ⟨w.heap.size, 2, none⟩ (.slice o k k)) w.heap.size 109 [.bool false, .slice so i i, .slice o k k]) := ((HF.out.1.own1.set 0 _).set 1 _).set 2 _
          have HR : Hid (Up w (((wc.setCell ⟨w.heap.size, 0, none⟩ (.bool false)).setCell ⟨w.heap.size, 1, none⟩ (.slice so i i)).setCell ⟨w.heap.size, 2, none⟩ (.slice o k k)) ∧ ∀ wf, Keeps9 (((wc.setCell ⟨w.heap.size, 0, none⟩ (.bool false)).setCell ⟨w.heap.size, 1, none⟩ (.slice so i i)).setCell ⟨w.heap.size, 2, none⟩ (.slice o k k)) wf → OC wf so o vs os) := by
            have kt : ∀ (T : TypeId) (x : Nat) (ys : List Value), T ≠ 109 → Own wc x T ys → Own (((wc.setCell ⟨w.heap.size, 0, none⟩ (.bool false)).setCell ⟨w.heap.size, 1, none⟩ (.slice so i i)).setCell ⟨w.heap.size, 2, none⟩ (.slice o k k)) x T ys := fun T x ys hT hx => by
              have hne := hx.ne HF.out.1.own1 hT
              exact ((hx.other hne _).other hne _).other hne _
            have hS := HF.out.1
            rw [Hn.out.1] at hS
            refine ⟨((HF.out.1.up.setCell (Nat.le_refl _) _).setCell (Nat.le_refl _) _).setCell (Nat.le_refl _) _, fun wf k9 => ⟨hS.ent (fun T x ys hT hx => k9 T x ys hT (kt T x ys hT hx)), Pt.rd ?_⟩⟩
            rcases HF.out.2 with h0 | ⟨g, e, h0⟩
            · exact .inl h0
            · exact .inr ⟨g, e, k9 _ _ _ (by decide) (kt _ _ _ (by decide) h0)⟩
          clear HF HC HO HW hc0' hc1' hc0 hc1
          go_wp2_with (fail)
          refine bodyPost_ret (ret109 rfl _ _ _ rfl _ _ _ HE.out) rfl ?_
          exact ⟨so, o, rfl, HR.out⟩
end Go.Proofs.Ygctab
