import Derived.Test.YgctabNttC
import Derived.Deep.RegionHeld3
namespace Go.Proofs.Ygctab
open Go.RowKit
set_option linter.unusedVariables false

def rat (a : Int) : Int := a * 4294967296 / 998244353
def facs (ws : List Int) : List Value := ws.flatMap (fun a => [.int .u32 a, .int .u32 (rat a)])

theorem facs_length (ws : List Int) : (facs ws).length = 2 * ws.length := by
  induction ws with
  | nil => rfl
  | cons a ws ih => simp [facs] at ih ⊢; omega
theorem facs_cons (a : Int) (ws : List Int) : facs (a :: ws) = .int .u32 a :: .int .u32 (rat a) :: facs ws := rfl
theorem facs_w {ws : List Int} : ∀ {i : Nat}, i < ws.length → (facs ws)[i * 2]? = some (.int .u32 (ws[i]?.getD 0)) := by
  induction ws with
  | nil => intro i hi; exact absurd hi (Nat.not_lt_zero _)
  | cons a ws ih =>
    intro i hi
    cases i with
    | zero => rfl
    | succ i => rw [facs_cons, Nat.succ_mul]; simp only [List.getElem?_cons_succ]; exact ih (by simpa using hi)
theorem facs_r {ws : List Int} : ∀ {i : Nat}, i < ws.length → (facs ws)[i * 2 + 1]? = some (.int .u32 (rat (ws[i]?.getD 0))) := by
  induction ws with
  | nil => intro i hi; exact absurd hi (Nat.not_lt_zero _)
  | cons a ws ih =>
    intro i hi
    cases i with
    | zero => rfl
    | succ i => rw [facs_cons, Nat.succ_mul]; simp only [List.getElem?_cons_succ]; exact ih (by simpa using hi)
theorem facs_set (ws : List Int) (x : Int) : ∀ (i : Nat), i < ws.length → ((facs ws).set (i * 2) (.int .u32 x)).set (i * 2 + 1) (.int .u32 (rat x)) = facs (ws.set i x) := by
  induction ws with
  | nil => intro i hi; exact absurd hi (Nat.not_lt_zero _)
  | cons a ws ih =>
    intro i hi
    cases i with
    | zero => rfl
    | succ i =>
      rw [facs_cons, Nat.succ_mul]
      simp only [List.set_cons_succ, facs_cons]
      rw [ih i (by simpa using hi)]
theorem Own.facW {w : World} {b : Nat} {T : TypeId} {ws : List Int} (h : Own w b T (facs ws)) {i : Nat} (hi : i < ws.length) : w.cell? ⟨b, i * 2, none⟩ = some (.int .u32 (ws[i]?.getD 0)) := by
  rw [h.cell, facs_w hi]
theorem Own.facR {w : World} {b : Nat} {T : TypeId} {ws : List Int} (h : Own w b T (facs ws)) {i : Nat} (hi : i < ws.length) : w.cell? ⟨b, i * 2 + 1, none⟩ = some (.int .u32 (rat (ws[i]?.getD 0))) := by
  rw [h.cell, facs_r hi]
theorem Own.setFac {w : World} {b : Nat} {T : TypeId} {ws : List Int} (h : Own w b T (facs ws)) {i : Nat} (hi : i < ws.length) (x : Int) :
    Own ((w.setCell ⟨b, i * 2, none⟩ (.int .u32 x)).setCell ⟨b, i * 2 + 1, none⟩ (.int .u32 (rat x))) b T (facs (ws.set i x)) := by
  rw [← facs_set ws x i hi]; exact (h.set _ _).set _ _

theorem rat_range (a : Int) (h0 : 0 ≤ a) (h1 : a < 998244353) : 0 ≤ rat a ∧ rat a < 4294967296 := by unfold rat; omega
theorem factorOf' (a : Int) (w : World) (h0 : 0 ≤ a) (h1 : a < 998244353) :
    Calls Tabg.prog 118 #[.int .u32 a] w fun e w' => e = .returned (.agg #[.int .u32 a, .int .u32 (rat a)]) ∧ ∃ c : Array Value, w' = w.alloc (.cells c 147) := factorOf a w h0 h1
theorem times' (a x : Int) (w : World) (h0 : 0 ≤ a) (h1 : a < 998244353) (h2 : 0 ≤ x) (h3 : x < 4294967296) :
    Calls Tabg.prog 120 #[.agg #[.int .u32 a, .int .u32 (rat a)], .int .u32 x] w fun e w' => e = .returned (.int .u32 (tms a x)) ∧ ∃ c : Array Value, w' = w.alloc (.cells c 147) := times a x w h0 h1 h2 h3

/-- The first n are the powers of w. -/
def fill (w : Int) (n : Nat) (ws : List Int) : List Int := (List.range n).map (fun i => w ^ i % 998244353) ++ ws.drop n
theorem fill_length (w : Int) (n : Nat) (ws : List Int) (h : n ≤ ws.length) : (fill w n ws).length = ws.length := by simp [fill]; omega
theorem fill_at (w : Int) (n : Nat) (ws : List Int) (i : Nat) (h : i < n) : (fill w n ws)[i]?.getD 0 = w ^ i % 998244353 := by
  unfold fill; rw [List.getElem?_append_left (by simpa using h)]; simp [h]
theorem fill_set (w : Int) (n : Nat) (ws : List Int) (h : n < ws.length) : (fill w n ws).set n (w ^ n % 998244353) = fill w (n + 1) ws := by
  unfold fill
  rw [List.set_append_right _ _ (by simp), List.range_succ, List.map_append, List.append_assoc]
  congr 1
  rw [List.drop_eq_getElem_cons h]
  simp only [List.length_map, List.length_range, Nat.sub_self, List.set_cons_zero, List.map_cons, List.map_nil, List.cons_append, List.nil_append]

theorem pow2_step {n L i m : Nat} (hn : n = 2 ^ i) (hL : L = 0 ∨ L = 2 ^ m) (h : n < L) : 2 * n ≤ L := by
  rcases hL with rfl | rfl
  · omega
  · subst hn
    have : i < m := (Nat.pow_lt_pow_iff_right (by decide)).1 h
    have := Nat.pow_le_pow_right (show 0 < 2 by decide) (show i + 1 ≤ m from this)
    rw [Nat.pow_succ] at this
    omega

theorem tms_pow (v u : Int) (n j : Nat) (hu : u = v ^ n % 998244353) : tms u (v ^ j % 998244353) % 998244353 = v ^ (n + j) % 998244353 := by
  rw [tms_mod, hu, ← Int.mul_emod, ← Int.pow_add, Nat.add_comm]

set_option maxHeartbeats 1600000 in
theorem factors_any (b L c m : Nat) (T : TypeId) (ws : List Int) (v : Int) (w : World) (h : Own w b T (facs ws)) (hL : Hid (L = 0 ∨ L = 2 ^ m)) (hl : L ≤ ws.length) (hw : ws.length ≤ 2048) (hv : 0 ≤ v) (hv' : v < 998244353) :
    Calls Tabg.prog 168 #[.slice (some ⟨b, 0, none⟩) L c, .int .u32 v] w fun e w' => e = .returned (.tuple #[]) ∧ Mod b w w' ∧ Own w' b T (facs (fill v L ws)) := by
  by_cases h0 : L = 0
  · subst h0
    go_enter Tabg.func168, Tabg.ntmps168
    go_wp2
    refine wp_loop_rounds 1 ?_
    rw [rounds_succ]
    go_wp2
    go_end0
    exact ⟨rfl, Mod.refl _ _, by simpa [fill] using h⟩
  · have c0 := h.free 0
    have c1 := h.free 1
    have d0 : w.cell? ⟨b, 0, none⟩ = some (.int .u32 (ws[0]?.getD 0)) := h.facW (i := 0) (by omega)
    have d1 : w.cell? ⟨b, 1, none⟩ = some (.int .u32 (rat (ws[0]?.getD 0))) := h.facR (i := 0) (by omega)
    have hb := h.lt
    have hb' : b ≠ w.heap.size := by omega
    go_enter Tabg.func168, Tabg.ntmps168
    go_wp2_with (go_at_call 118; refine (factorOf' _ _ (by decide) (by decide)).mono ?_; rintro e w' ⟨rfl, q, rfl⟩)
    have H1 : Own (((w.setCell { block := b, off := 0 } (Value.int IntKind.u32 1)).setCell { block := b, off := 1 } (Value.int IntKind.u32 (rat 1))).alloc (Obj.cells q 147)) b T (facs (fill v 1 ws)) := by
      have := (h.setFac (i := 0) (by omega) 1).alloc (Obj.cells q 147)
      have e : ws.set 0 1 = fill v 1 ws := by
        rw [← fill_set v 0 ws (by omega)]; simp [fill]
      rw [e] at this
      exact this
    clear c0 c1 d0 d1
    go_loopw [1, 4] (fun s t wr => ∃ (i : Nat) (n : Nat) (u : Int), t = .int .i64 n ∧ s = .int .u32 u ∧ 0 ≤ u ∧ u < 998244353 ∧ 1 ≤ n ∧ n ≤ L ∧ Hid (n = 2 ^ i) ∧ Hid (u = v ^ n % 998244353) ∧ Mod b w wr ∧ Own wr b T (facs (fill v n ws))) (fun _ t _ => L - (intOf t).toNat)
    case atStart => exact ⟨0, 1, v, rfl, rfl, hv, hv', by omega, by omega, rfl, by show _ = _; rw [Int.pow_succ, Int.pow_zero, Int.one_mul]; omega, (((Mod.refl b w).setCell _ _).setCell _ _).up ((Up.refl _).alloc _), H1⟩
    case round =>
      clear H1
      obtain ⟨i, n, u, rfl, rfl, hu, hu', hn, hnL, Hn, Hu, hm, ho⟩ := hrel
      by_cases hlt : n < L
      · have h2n := pow2_step Hn.out hL.out hlt
        go_wp2_with (go_at_call 118; refine (factorOf' _ _ (by assumption) (by assumption)).mono ?_; rintro e w' ⟨rfl, q', rfl⟩)
        obtain ⟨wo, rfl⟩ : ∃ wo : World, wo = wr := ⟨_, rfl⟩
        have hbo := ho.lt
        have O0 : Own ((wo.alloc (Obj.cells q' 147)).alloc (Obj.cells #[Value.int IntKind.u32 u, Value.int IntKind.u32 (rat u)] 147)) (wo.heap.size + 1) 147 [.int .u32 u, .int .u32 (rat u)] := by
          have := Own.new (wo.alloc (Obj.cells q' 147)) 147 #[Value.int IntKind.u32 u, Value.int IntKind.u32 (rat u)]
          simpa using this
        go_loopw [6] (fun t wr => ∃ j : Nat, t = .int .i64 j ∧ j ≤ n ∧ Mod b w wr ∧ Own wr b T (facs (fill v (n + j) ws)) ∧ Own wr (wo.heap.size + 1) 147 [.int .u32 u, .int .u32 (rat u)]) (fun t _ => n - (intOf t).toNat)
        case atStart => exact ⟨0, rfl, Nat.zero_le _, hm.up (((Up.refl _).alloc _).alloc _), (ho.alloc _).alloc _, O0⟩
        case round =>
          clear O0 hm ho
          obtain ⟨j, rfl, hj, hm, ho, hby⟩ := hrel
          by_cases hjn : j < n
          · have hfl := fill_length v (n + j) ws (by omega)
            have g0 : wr.cell? ⟨wo.heap.size + 1, 0, none⟩ = some (.int .u32 u) := by rw [hby.cell]; rfl
            have g1 : wr.cell? ⟨wo.heap.size + 1, 1, none⟩ = some (.int .u32 (rat u)) := by rw [hby.cell]; rfl
            have g2 : wr.cell? ⟨b, j * 2, none⟩ = some (.int .u32 (v ^ j % 998244353)) := by rw [ho.facW (by omega), fill_at _ _ _ _ (by omega)]
            have g3 : wr.cell? ⟨b, (n + j) * 2, none⟩ = some (.int .u32 ((fill v (n + j) ws)[n + j]?.getD 0)) := ho.facW (by omega)
            have g4 : wr.cell? ⟨b, (n + j) * 2 + 1, none⟩ = some (.int .u32 (rat ((fill v (n + j) ws)[n + j]?.getD 0))) := ho.facR (by omega)
            have f3 := ho.free ((n + j) * 2)
            have f4 := ho.free ((n + j) * 2 + 1)
            have hbr := ho.lt
            have hbr' := hby.lt
            have hbr'' : wo.heap.size < wr.heap.size := by omega
            have r0 : 0 ≤ v ^ j % 998244353 := by omega
            have r1 : v ^ j % 998244353 < 4294967296 := by omega
            have hjL : j < L := by omega
            have hnjL : n + j < L := by omega
            have hnjI : (n : Int) + (j : Int) < (L : Int) := by omega
            clear hfl
            have hT := tms_range u (v ^ j % 998244353) hu hu' r0 r1
            have cF : ∀ w : World, Calls Tabg.prog 119 #[.int .u32 (tms u (v ^ j % 998244353))] w fun e w' => e = .returned (.int .u32 (v ^ (n + j) % 998244353)) ∧ w' = w := fun w => by
              have := fold (tms u (v ^ j % 998244353)) w hT.1 hT.2
              rwa [tms_pow v u n j Hu.out] at this
            have cG : ∀ w : World, Calls Tabg.prog 118 #[.int .u32 (v ^ (n + j) % 998244353)] w fun e w' => e = .returned (.agg #[.int .u32 (v ^ (n + j) % 998244353), .int .u32 (rat (v ^ (n + j) % 998244353))]) ∧ ∃ c : Array Value, w' = w.alloc (.cells c 147) := fun w => factorOf' _ w (by omega) (by omega)
            have cT := fun w : World => times' u (v ^ j % 998244353) w hu hu' r0 r1
            have hwr : IntKind.i64.wrap ((n : Int) + (j : Int)) = (n : Int) + (j : Int) := by rw [IntKind.wrap_i64]; omega
            have h0nj : (0 : Int) ≤ (n : Int) + (j : Int) := by omega
            have htn : ((n : Int) + (j : Int)).toNat = n + j := by omega
            go_upto_region 9 with fail
            go_region_held3 (fun w' => w'.cell? ⟨wo.heap.size + 1, 0, none⟩ = some (.int .u32 u) ∧ w'.cell? ⟨wo.heap.size + 1, 1, none⟩ = some (.int .u32 (rat u)) ∧ w'.cell? ⟨b, j * 2, none⟩ = some (.int .u32 (v ^ j % 998244353))) (simp [go_sem, World.cell?_alloc_past, *]) (first
              | (go_at_call 120; refine (cT _).mono ?_; rintro e w' ⟨rfl, q1, rfl⟩)
              | (go_at_call 119; refine (cF _).mono ?_; rintro e w' ⟨rfl, rfl⟩)
              | (go_at_call 118; refine (cG _).mono ?_; rintro e w' ⟨rfl, q2, rfl⟩))
            go_wp2
            go_roundw
            case rel =>
              have hfl := fill_length v (n + j) ws (by omega)
              refine ⟨j + 1, by go_num, by omega, (((hm.setCell _ _).setCell _ _).up (((Up.refl _).alloc _).alloc _)).up (Up.refl _).drew, ?_, ?_⟩
              · have := (((ho.setFac (i := n + j) (by omega) (v ^ (n + j) % 998244353)).alloc (Obj.cells q1 147)).alloc (Obj.cells q2 147)).drew
                rw [fill_set v (n + j) ws (by omega)] at this
                exact this
              · have hne : wo.heap.size + 1 ≠ b := by omega
                exact ((((hby.other hne _).other hne _).alloc _).alloc _).drew
            case measure => simp [intOf]; omega
          · go_wp2_with (go_at_call 50; refine (mulMod u u _ hu (by omega) hu (by omega)).mono ?_; rintro e w' ⟨rfl, rfl⟩)
            go_roundw
            case rel =>
              obtain rfl : j = n := by omega
              refine ⟨i + 1, j * 2, u * u % 998244353, by go_num, rfl, by omega, by omega, by omega, by omega, ?_, ?_, hm, by rw [Nat.mul_two]; exact ho⟩
              · have := Hn.out; show _ = _; rw [Nat.pow_succ]; omega
              · have := Hu.out; show _ = _; rw [this, ← Int.mul_emod, ← Int.pow_add, Nat.mul_two]
            case measure => simp [intOf]; omega
      · go_wp2
        go_end0
        obtain rfl : n = L := by omega
        exact ⟨rfl, hm, ho⟩
end Go.Proofs.Ygctab
