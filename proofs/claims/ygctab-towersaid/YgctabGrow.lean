import Derived.Test.YgctabFltC
import Derived.OwnWalk
import Derived.Maps.AppendAt
namespace Go.Proofs.Ygctab
open Go.RowKit
set_option linter.unusedVariables false
set_option linter.unusedSimpArgs false
set_option exponentiation.threshold 3000

theorem cmp_scale (x y : Int) (k : Nat) : compare (x * ((2 ^ k : Nat) : Int)) (y * ((2 ^ k : Nat) : Int)) = compare x y := by
  have hp : 0 < ((2 ^ k : Nat) : Int) := by have := two_pos k; omega
  simp only [Int.compare_eq_ite_lt] <;> skip
  have h1 : x * ((2 ^ k : Nat) : Int) < y * ((2 ^ k : Nat) : Int) ↔ x < y := ⟨fun h => Int.lt_of_mul_lt_mul_right h (Int.le_of_lt hp), fun h => Int.mul_lt_mul_of_pos_right h hp⟩
  have h2 : y * ((2 ^ k : Nat) : Int) < x * ((2 ^ k : Nat) : Int) ↔ y < x := ⟨fun h => Int.lt_of_mul_lt_mul_right h (Int.le_of_lt hp), fun h => Int.mul_lt_mul_of_pos_right h hp⟩
  simp only [h1, h2]

theorem order_val {x y : Nat} (hx : Fin64 x) (hy : Fin64 y) : FloatKind.f64.format.order x y = some (compare (fval x) (fval y)) := by
  obtain ⟨e1, -, r1, v1⟩ := read_fin hx
  obtain ⟨e2, -, r2, v2⟩ := read_fin hy
  show (Ieee.double.read x).order (Ieee.double.read y) = _
  rw [r1, r2, v1, v2]
  unfold Ieee.Datum.order
  simp only
  have hb : min ((e1 : Int) - 1074) ((e2 : Int) - 1074) = ((min e1 e2 : Nat) : Int) - 1074 := by omega
  rw [hb]
  generalize hB : min e1 e2 = B at *
  rw [show ((e1 : Int) - 1074 - ((B : Int) - 1074)).toNat = e1 - B by omega, show ((e2 : Int) - 1074 - ((B : Int) - 1074)).toNat = e2 - B by omega, signed_eq, signed_eq]
  have hs : ∀ (s : Bool) (m e1 : Nat), B ≤ e1 → sgnI s * ((m * 2 ^ e1 : Nat) : Int) = sgnI s * ((m * 2 ^ (e1 - B) : Nat) : Int) * ((2 ^ B : Nat) : Int) := by
    intro s m e1 hle
    rw [Int.mul_assoc, ← Int.natCast_mul, Nat.mul_assoc, ← Nat.pow_add, show e1 - B + B = e1 by omega]
  rw [hs _ _ e1 (by omega), hs _ _ e2 (by omega), cmp_scale]

/-- Equal to zero, as Go's == finds it. -/
def isz (p : Nat) : Bool := FloatKind.f64.format.order p 0 == some .eq
theorem fin_zero : Fin64 0 := ⟨by decide, by decide⟩
theorem fval_zero : fval 0 = 0 := by
  unfold fval
  rw [show fman 0 = 0 by decide]
  simp only [Int.natCast_zero, Int.zero_mul, Int.mul_zero]
theorem isz_val {p : Nat} (h : Fin64 p) : isz p = decide (fval p = 0) := by
  unfold isz
  rw [order_val h fin_zero, fval_zero]
  by_cases hp : fval p = 0
  · rw [hp]; decide
  · rw [decide_eq_false hp]
    generalize fval p = v at *
    have : compare v 0 ≠ .eq := by
      intro hh
      exact hp (Int.compare_eq_eq.1 hh)
    cases hc : compare v 0
    · rfl
    · exact absurd hc this
    · rfl

/-- Grow: the errors kept, and the last sum. -/
def growL : List Nat → Nat → List Nat × Nat
  | [], x => ([], x)
  | p :: ps, x => if isz (tsE x p) then growL ps (tsS x p) else (tsE x p :: (growL ps (tsS x p)).1, (growL ps (tsS x p)).2)
def growR (ps : List Nat) (x : Nat) : List Nat := if isz (growL ps x).2 then (growL ps x).1 else (growL ps x).1 ++ [(growL ps x).2]
/-- Every step has an answer. -/
def GrowOk : List Nat → Nat → Prop
  | [], _ => True
  | p :: ps, x => TSok x p ∧ GrowOk ps (tsS x p)


theorem ownsRow_rdF {w : World} {base : Nat} {v : Value} {n : Nat} {ps : List Nat} (h : w.ownsRow base 28 1 v n (flts ps)) : ∃ a c, v = .slice a n c ∧ RdF w a n ps := by
  obtain ⟨h1, h2⟩ := h
  rw [flts_length, Nat.mul_one] at h1
  rcases h2 with ⟨rfl, rfl⟩ | ⟨g, cap, cur, rfl, -, hg, hnc, -, hcs, ht⟩
  · refine ⟨none, 0, rfl, h1.symm, fun i hi => ?_⟩
    omega
  · refine ⟨_, _, rfl, h1.symm, fun i hi => ⟨g, 0, rfl, ?_⟩⟩
    have ho : Own w g 28 cur.toList := by unfold Own; simpa using hg
    rw [Nat.zero_add, ho.cell, ← flts_at hi, ← ht, List.getElem?_take, if_pos (by omega)]

set_option maxRecDepth 100000 in
set_option maxHeartbeats 800000 in
theorem grow_some (b : Nat) (ps rest : List Nat) (x : Nat) (w : World) (ho : Own w b 28 (flts (ps ++ rest))) (hn : ps.length ≤ 4096) (hr : rest.length ≤ 8) (hk : GrowOk ps x) :
    Calls Tabg.prog 40 #[.slice (some ⟨b, 0, none⟩) ps.length (ps.length + rest.length), .float .f64 x] w fun e w' => ∃ a' n' c', e = .returned (.slice a' n' c') ∧ RdF w' a' n' (growR ps x) ∧ Mod b w w' := by
  have hcI : (ps.length : Int) ≤ 4096 := by omega
  go_enter Tabg.func40, Tabg.ntmps40
  go_wp2
  go_loopw [1, 5, 6] (fun q k t wr => ∃ (i : Nat) (es : List Nat) (y : Nat), t = .int .i64 i ∧ k = .int .i64 es.length ∧ q = .float .f64 y ∧ i ≤ ps.length ∧ es.length ≤ i ∧ Mod b w wr ∧ Own wr b 28 (flts (es ++ (ps ++ rest).drop es.length)) ∧ GrowOk (ps.drop i) y ∧ Hid (growL ps x = (es ++ (growL (ps.drop i) y).1, (growL (ps.drop i) y).2))) (fun _ _ t _ => ps.length - (intOf t).toNat)
  case atStart => exact ⟨0, [], x, rfl, rfl, rfl, by omega, by simp, Mod.refl b w, ho, hk, rfl⟩
  case round =>
    clear ho hk
    obtain ⟨i, es, y, rfl, rfl, rfl, hi, he, hm, ho, hk, HG⟩ := hrel
    by_cases hlt : i < ps.length
    · have hd : ps.drop i = ps[i]?.getD 0 :: ps.drop (i + 1) := by
        rw [List.drop_eq_getElem_cons hlt, List.getElem?_eq_getElem hlt]; rfl
      rw [hd] at hk HG
      have c0 : wr.cell? ⟨b, i, none⟩ = some (.float .f64 (ps[i]?.getD 0)) := by
        rw [ho.flt (by simp; omega), List.getElem?_append_right he, List.getElem?_drop, show es.length + (i - es.length) = i by omega, List.getElem?_append_left hlt]
      have c1 : wr.cell? ⟨b, es.length, none⟩ = some (.float .f64 ((es ++ (ps ++ rest).drop es.length)[es.length]?.getD 0)) := ho.flt (by simp; omega)
      have f1 := ho.free es.length
      generalize (es ++ (ps ++ rest).drop es.length)[es.length]?.getD 0 = old at *
      generalize ps[i]?.getD 0 = p at *
      obtain ⟨k1, k2⟩ := hk
      have cT := twoSum_any y p k1
      have hg : growL (p :: ps.drop (i + 1)) y = if isz (tsE y p) then growL (ps.drop (i + 1)) (tsS y p) else (tsE y p :: (growL (ps.drop (i + 1)) (tsS y p)).1, (growL (ps.drop (i + 1)) (tsS y p)).2) := rfl
      have heI : (es.length : Int) ≤ i := by omega
      have HG' : Hid (growL ps x = (es ++ (growL (p :: ps.drop (i + 1)) y).1, (growL (p :: ps.drop (i + 1)) y).2)) := HG
      clear HG hd
      rw [hg] at HG'
      clear hg
      by_cases hz : isz (tsE y p) = true
      · have HH : Hid (growL ps x = (es ++ (growL (ps.drop (i + 1)) (tsS y p)).1, (growL (ps.drop (i + 1)) (tsS y p)).2)) := by
          have := HG'.out
          rw [if_pos hz] at this
          exact this
        clear HG'
        have hz' : (FloatKind.f64.format.order (tsE y p) 0 != some .eq) = false := by
          unfold isz at hz
          simp [bne, hz]
        generalize tsE y p = e' at *
        generalize tsS y p = s' at *
        go_wp2_with (go_at_call 100; refine (cT _).mono ?_; rintro e w' ⟨rfl, rfl⟩)
        go_roundw
        case rel => exact ⟨i + 1, es, s', by go_num, rfl, rfl, by omega, by omega, hm, ho, k2, HH⟩
        case measure => simp [intOf]; omega
      · have HH : Hid (growL ps x = ((es ++ [tsE y p]) ++ (growL (ps.drop (i + 1)) (tsS y p)).1, (growL (ps.drop (i + 1)) (tsS y p)).2)) := by
          have := HG'.out
          rw [if_neg hz] at this
          rw [List.append_assoc]
          exact this
        clear HG'
        have hz' : (FloatKind.f64.format.order (tsE y p) 0 != some .eq) = true := by
          unfold isz at hz
          simp only [bne]
          simpa using hz
        have hset : (es ++ (ps ++ rest).drop es.length).set es.length (tsE y p) = (es ++ [tsE y p]) ++ (ps ++ rest).drop (es ++ [tsE y p]).length := by
          rw [List.set_append_right _ _ (Nat.le_refl _), Nat.sub_self, List.append_assoc]
          congr 1
          have hl : es.length < (ps ++ rest).length := by simp; omega
          rw [List.drop_eq_getElem_cons hl, List.set_cons_zero]
          simp
        have HS : Hid ((es ++ (ps ++ rest).drop es.length).set es.length (tsE y p) = (es ++ [tsE y p]) ++ (ps ++ rest).drop (es ++ [tsE y p]).length) := hset
        clear hset
        generalize tsE y p = e' at *
        generalize tsS y p = s' at *
        go_wp2_with (go_at_call 100; refine (cT _).mono ?_; rintro e w' ⟨rfl, rfl⟩)
        go_roundw
        case rel =>
          refine ⟨i + 1, es ++ [e'], s', by go_num, by simp, rfl, by omega, by simp; omega, hm.setCell _ _, ?_, k2, HH⟩
          rw [← HS.out]
          exact ho.setFlt es.length e'
        case measure => simp [intOf]; omega
    · obtain rfl : i = ps.length := by omega
      rw [List.drop_eq_nil_of_le (Nat.le_refl _)] at HG
      have hG : growL ps x = (es, y) := by
        have := HG.out
        rw [this]
        simp [growL]
      have heI : (es.length : Int) ≤ ps.length := by omega
      clear HG hk
      by_cases hz : isz y = true
      · have hR : growR ps x = es := by unfold growR; rw [hG, if_pos hz]
        have hz' : (FloatKind.f64.format.order y 0 != some .eq) = false := by
          unfold isz at hz
          simp [bne, hz]
        go_wp2
        go_ret
        exact ⟨_, _, _, rfl, by rw [hR]; exact ho.rdF, hm⟩
      · have hR : growR ps x = es ++ [y] := by unfold growR; rw [hG, if_neg hz]
        have hz' : (FloatKind.f64.format.order y 0 != some .eq) = true := by
          unfold isz at hz
          simp only [bne]
          simpa using hz
        obtain ⟨i0, hi0, hz0, hz1, hz2⟩ := info_parts info28
        have hw : wr.ownsRow 0 28 1 (.slice (some ⟨b, 0, none⟩) es.length (ps.length + rest.length)) es.length (flts es) := by
          refine ⟨by rw [flts_length, Nat.mul_one], .inr ⟨b, _, _, rfl, Nat.zero_le _, ho, by omega, by unfold maxLen; omega, ?_, ?_⟩⟩
          · simp [flts_length]; omega
          · simp [flts, List.map_append, Nat.mul_one]
        have hfl : flts es ++ [.float .f64 y] = flts (es ++ [y]) := by simp [flts]
        go_wp2_with (at_builtin; refine wpList_append_own _ rfl _ _ 62 rfl 0 28 i0 (.float .f64 0) 1 8 Tabg.underlying62 hi0 hz0 hz1 hz2 rfl (by decide) _ _ _ rfl (hw.alloc _) ⟨wr.heap.size, 0, none⟩ 1 1 [.float .f64 y] rfl rfl (cell_one_new _ _ _) (fun u hu => by simp at hu; subst hu; rfl) (by unfold maxLen; omega) (by omega) (Nat.zero_le _) ?_; intro v' w3 hown' hgrow3 hnil3)
        go_ret
        rw [hfl] at hown'
        obtain ⟨a', c', rfl, hrd⟩ := ownsRow_rdF hown'
        refine ⟨_, _, _, rfl, by rw [hR]; exact hrd, ?_⟩
        have hm1 := hm.up ((Up.refl wr).alloc (.cells #[.float .f64 y] 28))
        exact hm1.trans ⟨hgrow3.os, hgrow3.tape, hgrow3.output, hgrow3.size, fun k hk hkb => hgrow3.block k hk (fun h => hkb (Option.some.inj (show some k = some b from h)))⟩

set_option maxRecDepth 100000 in
set_option maxHeartbeats 800000 in
theorem grow_nil_zero (x : Nat) (w : World) (hz : isz x = true) :
    Calls Tabg.prog 40 #[.slice none 0 0, .float .f64 x] w fun e w' => e = .returned (.slice none 0 0) ∧ w = w' := by
  have hz' : (FloatKind.f64.format.order x 0 != some .eq) = false := by
    unfold isz at hz
    simp [bne, hz]
  go_enter Tabg.func40, Tabg.ntmps40
  go_wp2
  refine wp_loop_rounds 1 ?_
  rw [rounds_succ]
  go_wp2
  go_ret
  exact ⟨rfl, rfl⟩

set_option maxRecDepth 100000 in
set_option maxHeartbeats 800000 in
theorem grow_nil (x : Nat) (w : World) (hz : isz x = false) :
    Calls Tabg.prog 40 #[.slice none 0 0, .float .f64 x] w fun e w' => ∃ a' c', e = .returned (.slice a' 1 c') ∧ RdF w' a' 1 [x] ∧ Up w w' := by
  have hz' : (FloatKind.f64.format.order x 0 != some .eq) = true := by
    unfold isz at hz
    simp [bne, hz]
  obtain ⟨i0, hi0, hz0, hz1, hz2⟩ := info_parts info28
  have hw : w.ownsRow 0 28 1 (.slice none 0 0) 0 [] := ⟨rfl, .inl ⟨rfl, rfl⟩⟩
  go_enter Tabg.func40, Tabg.ntmps40
  go_wp2
  refine wp_loop_rounds 1 ?_
  rw [rounds_succ]
  go_wp2_with (at_builtin; refine wpList_append_own _ rfl _ _ 62 rfl 0 28 i0 (.float .f64 0) 1 8 Tabg.underlying62 hi0 hz0 hz1 hz2 rfl (by decide) _ _ _ rfl (hw.alloc _) ⟨w.heap.size, 0, none⟩ 1 1 [.float .f64 x] rfl rfl (cell_one_new _ _ _) (fun u hu => by simp at hu; subst hu; rfl) (by unfold maxLen; omega) (by omega) (Nat.zero_le _) ?_; intro v' w3 hown' hgrow3 hnil3)
  go_ret
  obtain ⟨a', c', rfl, hrd⟩ := ownsRow_rdF (ps := [x]) hown'
  refine ⟨_, _, rfl, hrd, ?_⟩
  refine ((Up.refl w).alloc (.cells #[.float .f64 x] 28)).trans (Up.ofMod (b := (w.alloc (.cells #[.float .f64 x] 28)).heap.size) (Up.refl _) ⟨hgrow3.os, hgrow3.tape, hgrow3.output, hgrow3.size, fun k hk hkb => hgrow3.block k hk (fun h => by cases (show some k = none from h))⟩ (Nat.le_refl _))
end Go.Proofs.Ygctab
