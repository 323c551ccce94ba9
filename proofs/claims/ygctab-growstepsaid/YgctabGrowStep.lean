import Derived.Test.YgctabAccT
import Derived.Laws.StructEq
namespace Go.Proofs.Ygctab
open Go.RowKit
set_option linter.unusedVariables false
set_option linter.unusedSimpArgs false
set_option exponentiation.threshold 6000

theorem under40' : Tabg.prog.underlying 40 = some (.array 68 26) := by kernel_rfl
theorem size26 : ∀ w, (sizeOf 26).run Tabg.prog w = .ok 1 w := fun w => by kernel_rfl
theorem equalIn40 (d : Nat) (xs : List Int) (hx : xs.length = 68) (w : World) : (Op.equalIn (d + 2) 40 (accV xs) (accV xs)).run Tabg.prog w = .ok true w := by
  unfold accV
  rw [Op.equalIn]
  simp only [Sem.run_bind, run_underlying under40', Result.andThen_ok, size26, Std.Legacy.Range.forIn_eq_forIn_range', Std.Legacy.Range.size, Nat.sub_zero, Nat.add_sub_cancel, Nat.div_one]
  have hl : ∀ i ∈ List.range' 0 68 1, i < 68 := fun i hi => by simpa using (List.mem_range'_1.1 hi).2
  generalize List.range' 0 68 1 = l at hl ⊢
  induction l with
  | nil => simp
  | cons i l ih =>
    have hi : i < 68 := hl i (by simp)
    have px : (part 26 (ints .u64 xs).toArray (i * 1)).run Tabg.prog w = .ok (.int .u64 (xs[i]?.getD 0)) w := by
      simp [part, isAgg, run_underlying Tabg.underlying26, ints, List.getElem?_eq_getElem (show i < xs.length by omega)]
    have pe : (Op.equalIn (d + 1) 26 (.int .u64 (xs[i]?.getD 0)) (.int .u64 (xs[i]?.getD 0))).run Tabg.prog w = .ok true w := by
      rw [run_equalIn_int w d 26 .u64 .u64 _ _ Tabg.underlying26]
      simp
    simp only [List.forIn_cons, Sem.run_bind, px, pe, Result.andThen_ok]
    simp only [Bool.not_true, Bool.false_eq_true, if_false, Sem.run_pure, Result.andThen_ok]
    exact ih fun j hj => hl j (by simp [hj])
theorem eql40 (xs : List Int) (hx : xs.length = 68) (w : World) : (binOp .eql 40 (accV xs) (accV xs)).run Tabg.prog w = .ok (.bool true) w := by
  have := equalIn40 9998 xs hx w
  unfold accV at *
  rw [run_eql_struct, this]
  rfl

/-- Words are told by their number. -/
theorem num_inj : ∀ (xs ys : List Int), xs.length = ys.length → Words xs → Words ys → num xs = num ys → xs = ys
  | [], [], _, _, _, _ => rfl
  | x :: xs, y :: ys, hl, hx, hy, h => by
    have a1 := hx x (List.mem_cons_self ..)
    have a2 := hy y (List.mem_cons_self ..)
    simp only [num, W_eq] at h
    have e1 : x = y := by omega
    have e2 : num xs = num ys := by omega
    rw [e1, num_inj xs ys (by simpa using hl) (fun z hz => hx z (List.mem_cons_of_mem _ hz)) (fun z hz => hy z (List.mem_cons_of_mem _ hz)) e2]
  | [], _ :: _, h, _, _, _ => by simp at h
  | _ :: _, [], h, _, _, _ => by simp at h

theorem pat1 (a : Option Addr) (n c : Nat) (ps : List Nat) (w : World) (h : RdU w a n c ps) (hn : ps.length ≤ 4000) :
    Calls Tabg.prog 38 #[.slice a n c, .int .i64 1] w fun e w' => e = .returned (.slice (some ⟨w.heap.size, 0, none⟩) ps.length (ps.length + 1)) ∧ Up w w' ∧ Own w' w.heap.size 28 (flts (ps ++ [0])) := by
  obtain ⟨rfl, h2⟩ := h
  rcases h2 with ⟨rfl, h0, rfl⟩ | ⟨b, off, rfl, hc⟩
  · obtain rfl : ps = [] := List.length_eq_zero_iff.1 h0
    exact patterns_none 1 w (by omega) (by omega)
  · exact patterns_some b off c 1 ps w hc (by omega) (by omega)

/-- What the last region holds of the world. -/
def StepS (w : World) (a : Option Addr) (n c N b6 : Nat) (ys : List Int) (a7 : Option Addr) (gs : List Nat) (w' : World) : Prop :=
  w'.cell? ⟨w.heap.size, 0, none⟩ = some (.slice a n c) ∧ w'.cell? ⟨w.heap.size, 1, none⟩ = some (.int .u16 N) ∧ w'.rangeAt b6 0 (ints .u64 ys) ∧ Hid (RdF w' a7 gs.length gs) ∧ Hid (Up w w')
theorem StepS.up {w : World} {a : Option Addr} {n c N b6 : Nat} {ys : List Int} {a7 : Option Addr} {gs : List Nat} {w' w'' : World} (h : StepS w a n c N b6 ys a7 gs w') (u : Up w' w'') : StepS w a n c N b6 ys a7 gs w'' :=
  ⟨u.cell h.1, u.cell h.2.1, fun j v hv => u.cell (h.2.2.1 j v hv), RdF.up h.2.2.2.1.out u, h.2.2.2.2.out.trans u⟩

set_option maxRecDepth 100000 in
set_option maxHeartbeats 1600000 in
theorem growStep_no (a : Option Addr) (n c N x : Nat) (ps : List Nat) (w : World) (h : RdU w a n c ps) (hN : N < 65536) (hF : F64s ps) (hx : x < 18446744073709551616) (hg : growableB N ps x = false) :
    Calls Tabg.prog 8 #[.agg #[.slice a n c, .int .u16 N], .int .u64 x] w fun e w' => e = .returned (.bool true) ∧ Up w w' := by
  have cG := fun w' (u : Up w w') => growable_any a n c N x ps w' (h.up u) hN hF hx
  rw [hg] at cG
  go_enter Tabg.func8, Tabg.ntmps8
  go_wp2_with (go_at_call 37; refine (cG _ ((Up.refl w).alloc _)).mono ?_; rintro e w1 ⟨rfl, hu⟩)
  go_ret
  exact ⟨rfl, ((Up.refl w).alloc _).trans hu⟩

set_option maxRecDepth 100000 in
set_option maxHeartbeats 1600000 in
theorem growStep_yes (a : Option Addr) (n c N x : Nat) (ps : List Nat) (w : World) (h : RdU w a n c ps) (hN : N < 65536) (hF : F64s ps) (hx : x < 18446744073709551616) (hg : growableB N ps x = true) :
    Calls Tabg.prog 8 #[.agg #[.slice a n c, .int .u16 N], .int .u64 x] w fun e w' => e = .returned (.bool true) ∧ Up w w' := by
  have hn := h.1
  have cG := fun w' (u : Up w w') => growable_any a n c N x ps w' (h.up u) hN hF hx
  rw [hg] at cG
  obtain ⟨s1, s2, s3, s4, s5, s6, s7, s8⟩ := growable_spec hF hx hg
  obtain ⟨g1, g2, g3, g4⟩ := grow_spec hF hx hg
  have hlen := growR_length ps x
  have cF := f64_any x
  have hBx := Own.new w 60 #[Value.slice a n c, Value.int IntKind.u16 N]
  have HB : Hid (Own (w.alloc (.cells #[Value.slice a n c, Value.int IntKind.u16 N] 60)) w.heap.size 60 [Value.slice a n c, Value.int IntKind.u16 N]) := hBx
  have CG : Hid (∀ w', Up w w' → Calls Tabg.prog 37 #[.agg #[.slice a n c, .int .u16 N], .int .u64 x] w' fun e w'' => e = .returned (.bool true) ∧ Up w' w'') := cG
  have CP : Hid (∀ w', Up w w' → Calls Tabg.prog 38 #[.slice a n c, .int .i64 1] w' fun e w'' => e = .returned (.slice (some ⟨w'.heap.size, 0, none⟩) ps.length (ps.length + 1)) ∧ Up w' w'' ∧ Own w'' w'.heap.size 28 (flts (ps ++ [0]))) :=
    fun w' u => pat1 a n c ps w' (h.up u) (by omega)
  have HS : Hid (n = ps.length ∧ N < 1024 ∧ ps.length ≤ 2098 ∧ Fin64 x ∧ (∀ p ∈ ps, Fin64 p) ∧ GrowOk ps x ∧ (growR ps x).length ≤ ps.length + 1 ∧ chkB (N + 1) (growR ps x) = true ∧ F64s (growR ps x) ∧ (∀ p ∈ growR ps x, Fin64 p) ∧ sumI (vals (growR ps x)) = fval x + sumI (vals ps)) :=
    ⟨hn, s1, s2, s5, s7, s8, hlen, g1, g2, g3, g4⟩
  clear h cG hBx hn s1 s2 s3 s4 s5 s6 s7 s8 hg hF g1 g2 g3 g4 hlen hx hN
  generalize hgs : growR ps x = gs at HS
  have HG : Hid (growR ps x = gs) := hgs
  clear hgs
  go_enter Tabg.func8, Tabg.ntmps8
  go_wp2_with (fail)
  refine (CG.out _ ((Up.refl w).alloc _)).mono ?_
  rintro e w1 ⟨rfl, hu⟩
  have cb0 := Own.cell (Own.up HB.out hu) 0
  have U1 : Hid (Up (w.alloc (.cells #[Value.slice a n c, Value.int IntKind.u16 N] 60)) w1) := hu
  clear hu
  go_wp2_with (fail)
  refine (CP.out w1 (((Up.refl w).alloc _).trans U1.out)).mono ?_
  rintro e w2 ⟨rfl, u2, o2⟩
  have HO : Hid (Own w2 w1.heap.size 28 (flts (ps ++ [0]))) := o2
  have U2 : Hid (Up w1 w2) := u2
  have H5 : Hid (w.heap.size < w1.heap.size) := by show _ < _; have := Up.size U1.out; simp at this; omega
  generalize w1.heap.size = b5 at *
  clear o2 u2 cb0 CG CP
  go_wp2_with (fail)
  obtain ⟨r1, r2, r3, r4, r5, r6, r7, r8, r9, r10, r11⟩ := HS.out
  refine (accTotal_any (some ⟨b5, 0, none⟩) ps.length _ ps w2 (Own.rdF HO.out) (by omega) r5).mono ?_
  clear r1 r2 r3 r4 r5 r6 r7 r8 r9 r10 r11
  rintro e w3 ⟨xs, rfl, hxl, hxw, hxv, u3⟩
  have HX : Hid (xs.length = 68 ∧ Words xs ∧ num xs = (sumI (vals ps) * 2 ^ 1074) % W ^ 68) := ⟨hxl, hxw, hxv⟩
  have U3 : Hid (Up w2 w3) := u3
  clear hxl hxw hxv u3
  have HZ : Hid (AccAt (w3.alloc (.cells Tabg.zeroCells40 40)) w3.heap.size (List.replicate 68 0)) := AccAt.zero' w3
  go_wp2_with (refine wpList_store40 rfl _ _ rfl w3.heap.size rfl xs rfl HX.out.1 _ HZ.out ?_)
  have HA4 : Hid (AccAt (setAcc (w3.alloc (.cells Tabg.zeroCells40 40)) w3.heap.size xs) w3.heap.size xs) := AccAt.setAcc HZ.out HX.out.1 HX.out.2.1
  have U4 : Hid (Up w3 (setAcc (w3.alloc (.cells Tabg.zeroCells40 40)) w3.heap.size xs)) := Up.ofMod ((Up.refl w3).alloc _) ((Mod.refl _ _).setAcc xs) (Nat.le_refl _)
  have H6 : Hid (b5 < w3.heap.size) := Nat.lt_of_lt_of_le (Own.lt HO.out) (Up.size U3.out)
  generalize setAcc (w3.alloc (.cells Tabg.zeroCells40 40)) w3.heap.size xs = w4 at *
  generalize hb6 : w3.heap.size = b6 at *
  clear HZ
  refine (cF _).mono ?_
  rintro e w' ⟨rfl, rfl⟩
  go_wp2_with (fail)
  refine (addFloat_yes b6 x HS.out.2.2.2.1.1 HS.out.2.2.2.1.2 xs w4 HA4.out).mono ?_
  rintro e w5 ⟨rfl, m5, ys, hy, hyv⟩
  have M5 : Hid (Mod b6 w4 w5) := m5
  have HY : Hid (AccAt w5 b6 ys) := hy
  have HV : Hid (num ys = (num xs + fval x * 2 ^ 1074) % W ^ 68) := hyv
  clear m5 hy hyv HA4
  go_wp2_with (first | (go_at_call 14; refine (cF _).mono ?_; rintro e w' ⟨rfl, rfl⟩) | (go_at_call 40; fail))
  have HO5 : Hid (Own w5 b5 28 (flts (ps ++ [0]))) := Own.mod (Own.up (Own.up HO.out U3.out) U4.out) M5.out (by have := H6.out; omega)
  clear HO
  have cGr := grow_some b5 ps [0] x w5 HO5.out (by have := HS.out.2.2.1; omega) (by simp) HS.out.2.2.2.2.2.1
  have CGr : Hid (Calls Tabg.prog 40 #[.slice (some ⟨b5, 0, none⟩) ps.length (ps.length + 1), .float .f64 x] w5 fun e w' => ∃ a' n' c', e = .returned (.slice a' n' c') ∧ RdF w' a' n' (growR ps x) ∧ Mod b5 w5 w') := cGr
  clear cGr
  refine Calls.mono CGr.out ?_
  rintro e w6 ⟨a7, n7, c7, rfl, hr7, m7⟩
  obtain ⟨hn7, hr7'⟩ := hr7
  have hg := HG.out
  rw [hg] at hr7' hn7
  subst hn7
  have HR : Hid (RdF w6 a7 gs.length gs) := ⟨rfl, hr7'⟩
  have M7 : Hid (Mod b5 w5 w6) := m7
  have HA6 : Hid (AccAt w6 b6 ys) := AccAt.mod HY.out m7 (by have := H6.out; omega)
  clear hr7' m7 hg CGr HO5 HY
  have UB : Hid (Own w6 w.heap.size 60 [Value.slice a n c, Value.int IntKind.u16 N]) := Own.mod (Own.mod (Own.up (Own.up (Own.up (Own.up HB.out U1.out) U2.out) U3.out) U4.out) M5.out (by have := H5.out; have := H6.out; omega)) M7.out (by have := H5.out; omega)
  have UW : Hid (Up w w6) := Up.ofMod (Up.ofMod (((((Up.refl w).alloc _).trans U1.out).trans U2.out).trans (U3.out.trans U4.out)) M5.out (by have := H5.out; have := H6.out; omega)) M7.out (by have := H5.out; omega)
  clear U1 U2 U3 U4 M5 M7 HB hb6
  clear w1 w2 w4 w5
  go_wp2_with (fail)
  have hS6 : StepS w a n c N b6 ys a7 gs w6 := ⟨by rw [Own.cell UB.out]; rfl, by rw [Own.cell UB.out]; rfl, fun j v hv => by rw [Nat.zero_add, Own.cell (AccAt.own HA6.out)]; exact hv, HR.out, UW.out⟩
  have CT : Hid (∀ w', RdF w' a7 gs.length gs → Calls Tabg.prog 39 #[.slice a7 gs.length c7] w' (fun e w'' => e = .returned (.agg (ints .u64 ys).toArray) ∧ Up w' w'')) := by
    intro w' hr
    refine (accTotal_any a7 gs.length c7 gs w' hr (by have := HS.out; omega) HS.out.2.2.2.2.2.2.2.2.2.1).mono ?_
    rintro e w'' ⟨zs, rfl, hl, hw, hv, hu⟩
    refine ⟨?_, hu⟩
    have : zs = ys := num_inj zs ys (by rw [hl, AccAt.len HA6.out]) hw (AccAt.words HA6.out) (by
      rw [hv, HV.out, HX.out.2.2, HS.out.2.2.2.2.2.2.2.2.2.2, Int.emod_add_emod, Int.add_comm, Int.add_mul])
    rw [this]; rfl
  have CU : Hid (∀ w', RdF w' a7 gs.length gs → Calls Tabg.prog 42 #[.slice a7 gs.length c7] w' (fun e w'' => ∃ b8, e = .returned (.slice (some ⟨b8, 0, none⟩) gs.length gs.length) ∧ Up w' w'' ∧ Hid (Own w'' b8 26 (wds gs)))) := by
    intro w' hr
    refine (unread_any a7 gs.length c7 gs w' hr (by have := HS.out; omega)).mono ?_
    rintro e w'' ⟨rfl, hu, ho⟩
    exact ⟨_, rfl, hu, ho⟩
  have CC : Hid (∀ b8 w', Own w' b8 26 (wds gs) → Calls Tabg.prog 41 #[.agg #[.slice (some ⟨b8, 0, none⟩) gs.length gs.length, .int .u16 ((N : Int) + 1)]] w' (fun e w'' => e = .returned (.bool true) ∧ Up w' w'')) := by
    intro b8 w' ho
    have := check_any (some ⟨b8, 0, none⟩) gs.length gs.length (N + 1) gs w' ⟨rfl, .inr ⟨b8, 0, rfl, fun i hi => by rw [Nat.zero_add]; exact ho.wd hi⟩⟩ (by have := HS.out; omega) HS.out.2.2.2.2.2.2.2.2.1
    rw [HS.out.2.2.2.2.2.2.2.1] at this
    exact this
  have heq : ∀ w, (binOp .eql 40 (.agg (ints .u64 ys).toArray) (.agg (ints .u64 ys).toArray)).run Tabg.prog w = .ok (.bool true) w := eql40 ys (AccAt.len HA6.out)
  have hu40 := under40'
  have hs40 : (Tabg.prog.info? 40).map (·.size) = some (ints .u64 ys).length := by rw [size40, ints_length, AccAt.len HA6.out]
  have hN1 : (N : Int) < 1024 := by have := HS.out; omega
  have hN0 : (0 : Int) ≤ (N : Int) := by omega
  have hle : (gs.length : Int) ≤ (n : Int) + 1 := by have := HS.out; omega
  have hnI : (n : Int) ≤ 4096 := by have := HS.out; omega
  have hn0 : (0 : Int) ≤ (n : Int) := by omega
  have hw64 : IntKind.i64.wrap ((n : Int) + 1) = (n : Int) + 1 := by rw [IntKind.wrap_i64]; omega
  have hw16 : IntKind.u16.wrap ((N : Int) + 1) = (N : Int) + 1 := by rw [IntKind.wrap_u16]; omega
  clear HX HV HR UW UB HG HA6 H5 H6
  go_region_held3 (fun w' => w'.cell? ⟨w.heap.size, 0, none⟩ = some (.slice a n c) ∧ w'.cell? ⟨w.heap.size, 1, none⟩ = some (.int .u16 N) ∧ w'.rangeAt b6 0 (ints .u64 ys) ∧ Hid (RdF w' a7 gs.length gs) ∧ Hid (Up w w'))
    (first | exact StepS.up hS6 (Up.refl _).drew | exact StepS.up (by assumption) (by assumption))
    (first | (go_at_call 39; refine (CT.out _ ‹_ ∧ _ ∧ _ ∧ Hid (RdF _ a7 gs.length gs) ∧ _›.2.2.2.1.out).mono ?_; rintro e w8 ⟨rfl, u8⟩) | (go_at_call 42; refine (CU.out _ ‹_ ∧ _ ∧ _ ∧ Hid (RdF _ a7 gs.length gs) ∧ _›.2.2.2.1.out).mono ?_; rintro e w9 ⟨b8, rfl, u9, ho9⟩) | (go_at_call 41; refine (CC.out _ _ ho9.out).mono ?_; rintro e w10 ⟨rfl, u10⟩))
  have UE := ‹_ ∧ _ ∧ _ ∧ Hid (RdF _ a7 gs.length gs) ∧ Hid (Up w w10)›.2.2.2.2
  go_wp2
  go_ret
  exact ⟨rfl, UE.out⟩

theorem growStep_any (a : Option Addr) (n c N x : Nat) (ps : List Nat) (w : World) (h : RdU w a n c ps) (hN : N < 65536) (hF : F64s ps) (hx : x < 18446744073709551616) :
    Calls Tabg.prog 8 #[.agg #[.slice a n c, .int .u16 N], .int .u64 x] w fun e w' => e = .returned (.bool true) ∧ Up w w' := by
  cases hg : growableB N ps x
  · exact growStep_no a n c N x ps w h hN hF hx hg
  · exact growStep_yes a n c N x ps w h hN hF hx hg
end Go.Proofs.Ygctab
