import Derived.Test.YgctabAccG
namespace Go.Proofs.Ygctab
open Go.RowKit
set_option linter.unusedVariables false
set_option linter.unusedSimpArgs false

/-! ### rows of floats -/
def flts (ps : List Nat) : List Value := ps.map (Value.float .f64)
theorem flts_at {ps : List Nat} {i : Nat} (h : i < ps.length) : (flts ps)[i]? = some (.float .f64 (ps[i]?.getD 0)) := by simp [flts, List.getElem?_eq_getElem h]
theorem flts_set (ps : List Nat) (i x : Nat) : (flts ps).set i (.float .f64 x) = flts (ps.set i x) := by simp [flts, List.map_set]
theorem flts_length (ps : List Nat) : (flts ps).length = ps.length := by simp [flts]
theorem Own.flt {w : World} {b : Nat} {T : TypeId} {ps : List Nat} (h : Own w b T (flts ps)) {i : Nat} (hi : i < ps.length) : w.cell? ⟨b, i, none⟩ = some (.float .f64 (ps[i]?.getD 0)) := by rw [h.cell, flts_at hi]
theorem Own.setFlt {w : World} {b : Nat} {T : TypeId} {ps : List Nat} (h : Own w b T (flts ps)) (i x : Nat) : Own (w.setCell ⟨b, i, none⟩ (.float .f64 x)) b T (flts (ps.set i x)) := by have := h.set i (.float .f64 x); rwa [flts_set] at this
theorem flts_replicate (n x : Nat) : List.replicate n (Value.float .f64 x) = flts (List.replicate n x) := by simp [flts]

/-- The slice (a, n) reads as these floats. -/
def RdF (w : World) (a : Option Addr) (n : Nat) (ps : List Nat) : Prop :=
  n = ps.length ∧ ∀ i, i < ps.length → ∃ b off, a = some ⟨b, off, none⟩ ∧ w.cell? ⟨b, off + i, none⟩ = some (.float .f64 (ps[i]?.getD 0))
theorem RdF.up {w w' : World} {a : Option Addr} {n : Nat} {ps : List Nat} (h : RdF w a n ps) (u : Up w w') : RdF w' a n ps :=
  ⟨h.1, fun i hi => let ⟨b, off, e, hc⟩ := h.2 i hi; ⟨b, off, e, u.cell hc⟩⟩
theorem RdF.nil (w : World) (a : Option Addr) : RdF w a 0 [] := ⟨rfl, fun i hi => absurd hi (Nat.not_lt_zero _)⟩
theorem Own.rdF {w : World} {b : Nat} {T : TypeId} {ps rest : List Nat} (h : Own w b T (flts (ps ++ rest))) : RdF w (some ⟨b, 0, none⟩) ps.length ps :=
  ⟨rfl, fun i hi => ⟨b, 0, rfl, by rw [Nat.zero_add, h.flt (by simp; omega), List.getElem?_append_left hi]⟩⟩

/-- Bits of a float each. -/
def F64s (ps : List Nat) : Prop := ∀ p ∈ ps, p < 18446744073709551616
theorem F64s.at {ps : List Nat} (h : F64s ps) (i : Nat) : ps[i]?.getD 0 < 18446744073709551616 := by
  cases e : ps[i]? with
  | none => simp
  | some x => exact h x (List.mem_of_getElem? e)

/-- Finite, none zero, each one's highest 1 below the next one's lowest 1. -/
def apartL : Int → List Nat → Bool
  | _, [] => true
  | last, p :: ps => decide (fcls p = 1) && (decide (last < lowB (fman p) + fexp p) && apartL (highB (fman p) + fexp p) ps)

set_option maxRecDepth 100000 in
set_option maxHeartbeats 800000 in
theorem apart_any (a : Option Addr) (n c : Nat) (ps : List Nat) (w : World) (h : RdF w a n ps) (hn : n ≤ maxLen) (hF : F64s ps) :
    Calls Tabg.prog 101 #[.slice a n c] w fun e w' => e = .returned (.bool (apartL (-5000) ps)) ∧ w = w' := by
  unfold maxLen at hn
  obtain ⟨rfl, h⟩ := h
  go_enter Tabg.func101, Tabg.ntmps101
  go_wp2
  go_loop [3, 4] (fun s t => ∃ (i : Nat) (last : Int), t = .int .i64 i ∧ s = .int .i64 last ∧ i ≤ ps.length ∧ -5000 ≤ last ∧ last ≤ 2000 ∧ Hid (apartL (-5000) ps = apartL last (ps.drop i))) (fun _ t => ps.length - (intOf t).toNat)
  case atStart => exact ⟨0, -5000, rfl, rfl, by omega, by omega, by omega, rfl⟩
  case round =>
    obtain ⟨i, last, rfl, rfl, hi, hl, hl', HI⟩ := hrel
    by_cases hlt : i < ps.length
    · obtain ⟨b, off, rfl, hc⟩ := h i hlt
      have hp := hF.at i
      have hdr : ps.drop i = ps[i]?.getD 0 :: ps.drop (i + 1) := by rw [List.drop_eq_getElem_cons hlt, List.getElem?_eq_getElem hlt]; rfl
      have HI' := HI.out
      rw [hdr, apartL] at HI'
      clear hdr HI
      generalize ps[i]?.getD 0 = p at *
      have cS := split' p hp
      have hx := fexp_range p
      have hm := fman_lt p
      have hr := endsN_range (fman p) 64
      have cE := ends_any (fman p) (by omega)
      have hr1 : -1 ≤ highB (fman p) := hr.2.2.1
      have hr2 : highB (fman p) < 64 := hr.2.2.2
      have hr3 : -1 ≤ lowB (fman p) := hr.1
      have hr4 : lowB (fman p) < 64 := hr.2.1
      have HI : Hid (apartL (-5000) ps = (decide (fcls p = 1) && (decide (last < lowB (fman p) + fexp p) && apartL (highB (fman p) + fexp p) (ps.drop (i + 1))))) := HI'
      clear hr HI'
      generalize fcls p = cl at *
      generalize lowB (fman p) = lo at *
      generalize highB (fman p) = hi at *
      generalize fexp p = ex at *
      by_cases h1 : cl = 1
      · subst h1
        by_cases h2 : last < lo + ex
        · go_wp2_with (first | (go_at_call 90; refine (cS _).mono ?_; rintro e w' ⟨rfl, rfl⟩) | (go_at_call 141; refine (cE _).mono ?_; rintro e w' ⟨rfl, rfl⟩))
          go_round
          case rel => exact ⟨i + 1, hi + ex, by go_num, rfl, by omega, by omega, by omega, by show _ = _; rw [HI.out]; simp [h2]⟩
          case measure => simp [intOf]; omega
        · go_wp2_with (first | (go_at_call 90; refine (cS _).mono ?_; rintro e w' ⟨rfl, rfl⟩) | (go_at_call 141; refine (cE _).mono ?_; rintro e w' ⟨rfl, rfl⟩))
          go_ret
          exact ⟨ret_bool (by rw [HI.out, decide_eq_false (show ¬ last < lo + ex by omega)]; simp), rfl⟩
      · have h1' : ((cl : Int) == 1) = false := by simp; omega
        go_wp2_with (first | (go_at_call 90; refine (cS _).mono ?_; rintro e w' ⟨rfl, rfl⟩) | (go_at_call 141; refine (cE _).mono ?_; rintro e w' ⟨rfl, rfl⟩))
        go_ret
        exact ⟨ret_bool (by rw [HI.out]; simp [h1]), rfl⟩
    · go_wp2
      go_ret
      exact ⟨ret_bool (by rw [HI.out, List.drop_eq_nil_of_le (by omega), apartL]), rfl⟩

@[go_sem] theorem run_store_flt {P : Program} {w : World} {a : Addr} {m : Mode} (p : Nat) : (store a (.float .f64 p) m).run P w = stored P w a (.float .f64 p) m := run_store P w a _ m rfl

/-- Words of a uint64 slice as the walk reads them, from naturals. -/
def nints (ps : List Nat) : List Int := ps.map (fun p : Nat => (p : Int))
theorem nints_length (ps : List Nat) : (nints ps).length = ps.length := by simp [nints]
theorem nints_at (ps : List Nat) (i : Nat) : (nints ps)[i]?.getD 0 = ((ps[i]?.getD 0 : Nat) : Int) := by
  unfold nints
  rw [List.getElem?_map]
  cases ps[i]? <;> simp

theorem info28 : (Tabg.prog.info? 28).map (fun i => (i.zero, i.size, i.bytes)) = some (some (.float .f64 0), 1, 8) := by kernel_rfl
theorem info26 : (Tabg.prog.info? 26).map (fun i => (i.zero, i.size, i.bytes)) = some (some (.int .u64 0), 1, 8) := by kernel_rfl

/-- make([]T, n, n+spare): as run_make_row', with spare room. -/
theorem run_make_spare {P : Program} (t e : TypeId) (z : Value) (bytes : Nat) (ht : P.underlying t = some (.slice e)) (hinfo : (P.info? e).map (fun i => (i.zero, i.size, i.bytes)) = some (some z, 1, bytes)) (hz1 : z.cells = #[z])
    (kl kc : IntKind) (n c : Nat) (hnc : n ≤ c) (hbytes : bytes * c ≤ 281474976710656) (h63 : c ≤ 9223372036854775807) (w : World) :
    (Instr.makeSlice t (.int kl (n : Int)) (.int kc (c : Int))).run P w = .ok (.slice (some ⟨w.heap.size, 0, none⟩) n c) (w.alloc (.cells (madeCells #[z] c) e)) := by
  obtain ⟨i, hi, hzz⟩ := Option.map_eq_some_iff.1 hinfo
  simp only [Prod.mk.injEq] at hzz
  obtain ⟨hz, hs, hb⟩ := hzz
  have hb' : (i.bytes : Int) * (c : Int) ≤ 281474976710656 := by
    rw [hb]
    have h : ((bytes * c : Nat) : Int) ≤ 281474976710656 := by omega
    rwa [Int.natCast_mul] at h
  have hr := run_make (P := P) w t e i z ht hi hz kl kc n c (by omega) (by omega) hb' (by omega)
  simp only [Int.toNat_natCast, hs, Nat.mul_one, hz1] at hr
  exact hr

theorem fill_next {α : Type} (ps : List α) (z : α) (i n : Nat) (hi : i < ps.length) (hn : ps.length ≤ n) (d : α) (hd : ps[i]? = some d) : (ps.take i ++ List.replicate (n - i) z).set i d = ps.take (i + 1) ++ List.replicate (n - (i + 1)) z := by
  have hm : min i ps.length = i := Nat.min_eq_left (Nat.le_of_lt hi)
  rw [List.set_append_right _ _ (by simp [hm]), List.take_succ_eq_append_getElem hi, List.append_assoc]
  congr 1
  obtain ⟨d', hd'⟩ : ∃ d', n - i = d' + 1 := ⟨n - i - 1, by omega⟩
  rw [hd', List.replicate_succ, show n - (i + 1) = d' by omega]
  rw [List.getElem?_eq_getElem hi] at hd
  injection hd with hd
  simp only [List.length_take, hm, Nat.sub_self, List.set_cons_zero, List.cons_append, List.nil_append, hd]

set_option maxRecDepth 100000 in
set_option maxHeartbeats 800000 in
theorem patterns_some (b off c sp : Nat) (ps : List Nat) (w : World) (hc : ∀ i, i < ps.length → w.cell? ⟨b, off + i, none⟩ = some (.int .u64 ((ps[i]?.getD 0 : Nat) : Int))) (hn : ps.length ≤ 4096) (hsp : sp ≤ 8) :
    Calls Tabg.prog 38 #[.slice (some ⟨b, off, none⟩) ps.length c, .int .i64 sp] w fun e w' => e = .returned (.slice (some ⟨w.heap.size, 0, none⟩) ps.length (ps.length + sp)) ∧ Up w w' ∧ Own w' w.heap.size 28 (flts (ps ++ List.replicate sp 0)) := by
  have hmk := fun w => run_make_spare (P := Tabg.prog) 62 28 (.float .f64 0) 8 Tabg.underlying62 info28 rfl .i64 .i64 ps.length (ps.length + sp) (by omega) (by omega) (by omega) w
  rw [Int.natCast_add] at hmk
  have hO := Own.made w 28 (.float .f64 0) (ps.length + sp)
  rw [flts_replicate] at hO
  have hcI : (ps.length : Int) ≤ 4096 := by omega
  have hspI : (sp : Int) ≤ 8 := by omega
  have hnil : ∀ w : World, (binOp .eql 57 (.slice (some ⟨b, off, none⟩) ps.length c) (.slice none 0 0)).run Tabg.prog w = .ok (.bool false) w := fun w => Lib.run_eql_slice_nil (P := Tabg.prog) w 57 26 (some ⟨b, off, none⟩) ps.length c 0 0 Tabg.underlying57
  go_enter Tabg.func38, Tabg.ntmps38
  go_wp2
  go_loopw [6] (fun t wr => ∃ i : Nat, t = .int .i64 i ∧ i ≤ ps.length ∧ Up w wr ∧ Own wr w.heap.size 28 (flts (ps.take i ++ List.replicate (ps.length + sp - i) 0))) (fun t _ => ps.length - (intOf t).toNat)
  case atStart => exact ⟨0, rfl, by omega, (Up.refl w).alloc _, hO⟩
  case round =>
    clear hO hmk hnil
    obtain ⟨i, rfl, hi, hU, ho⟩ := hrel
    by_cases hlt : i < ps.length
    · have c0 := hU.cell (hc i hlt)
      have hll : (ps.take i ++ List.replicate (ps.length + sp - i) 0).length = ps.length + sp := by simp; omega
      have c1 : wr.cell? ⟨w.heap.size, i, none⟩ = some (.float .f64 ((ps.take i ++ List.replicate (ps.length + sp - i) 0)[i]?.getD 0)) := ho.flt (by omega)
      have f1 := ho.free i
      have hst := fill_next ps 0 i (ps.length + sp) hlt (by omega) (ps[i]?.getD 0) (by rw [List.getElem?_eq_getElem hlt]; rfl)
      have HS : Hid ((ps.take i ++ List.replicate (ps.length + sp - i) 0).set i (ps[i]?.getD 0) = ps.take (i + 1) ++ List.replicate (ps.length + sp - (i + 1)) 0) := hst
      clear hst hll
      generalize ps[i]?.getD 0 = p at *
      generalize (ps.take i ++ List.replicate (ps.length + sp - i) 0)[i]?.getD 0 = old at *
      have cF := f64_any p
      go_wp2_with (go_at_call 14; refine (cF _).mono ?_; rintro e w' ⟨rfl, rfl⟩)
      go_roundw
      case rel =>
        refine ⟨i + 1, by go_num, by omega, hU.setCell (Nat.le_refl _) _, ?_⟩
        rw [← HS.out]
        exact ho.setFlt i p
      case measure => simp [intOf]; omega
    · go_wp2
      go_ret
      obtain rfl : i = ps.length := by omega
      refine ⟨rfl, hU, ?_⟩
      rw [List.take_of_length_le (Nat.le_refl _), show ps.length + sp - ps.length = sp by omega] at ho
      exact ho

theorem patterns_nil (w : World) : Calls Tabg.prog 38 #[.slice none 0 0, .int .i64 0] w fun e w' => e = .returned (.slice none 0 0) ∧ w = w' := by
  have hnil : ∀ w : World, (binOp .eql 57 (.slice none 0 0) (.slice none 0 0)).run Tabg.prog w = .ok (.bool true) w := fun w => Lib.run_eql_slice_nil (P := Tabg.prog) w 57 26 none 0 0 0 0 Tabg.underlying57
  go_enter Tabg.func38, Tabg.ntmps38
  go_wp2
  go_ret
  exact ⟨rfl, rfl⟩

set_option maxRecDepth 100000 in
theorem patterns_none (sp : Nat) (w : World) (h0 : 0 < sp) (hsp : sp ≤ 8) : Calls Tabg.prog 38 #[.slice none 0 0, .int .i64 sp] w fun e w' => e = .returned (.slice (some ⟨w.heap.size, 0, none⟩) 0 sp) ∧ Up w w' ∧ Own w' w.heap.size 28 (flts (List.replicate sp 0)) := by
  have hmk : ∀ w : World, (Instr.makeSlice 62 (.int .i64 0) (.int .i64 (sp : Int))).run Tabg.prog w = .ok (.slice (some ⟨w.heap.size, 0, none⟩) 0 sp) (w.alloc (.cells (madeCells #[.float .f64 0] sp) 28)) := fun w => run_make_spare (P := Tabg.prog) 62 28 (.float .f64 0) 8 Tabg.underlying62 info28 rfl .i64 .i64 0 sp (by omega) (by omega) (by omega) w
  have hO := Own.made w 28 (.float .f64 0) sp
  rw [flts_replicate] at hO
  have hspI : (sp : Int) ≤ 8 := by omega
  have hs0 : ((sp : Int) == 0) = false := by simp; omega
  have hnil : ∀ w : World, (binOp .eql 57 (.slice none 0 0) (.slice none 0 0)).run Tabg.prog w = .ok (.bool true) w := fun w => Lib.run_eql_slice_nil (P := Tabg.prog) w 57 26 none 0 0 0 0 Tabg.underlying57
  go_enter Tabg.func38, Tabg.ntmps38
  go_wp2
  refine wp_loop_rounds 1 ?_
  rw [rounds_succ]
  go_wp2
  go_ret
  exact ⟨rfl, (Up.refl w).alloc _, hO⟩
end Go.Proofs.Ygctab
