import Derived.Test.YgctabAccRoom
namespace Go.Proofs.Ygctab
open Go.RowKit
set_option linter.unusedVariables false
set_option linter.unusedSimpArgs false
set_option exponentiation.threshold 6000

theorem under40'' : Tabg.prog.underlying 40 = some (.array 68 26) := by kernel_rfl
theorem wpList_load40g {ops : Array Oper} {rest : List Oper} {o : Oper} {a : Act} {w : World} {Q : Exit → Act → World → Prop} (x : Operand) (ho : o.op = .load 40 x) (hw : Region.wanted o (yielded ops a.tmps) = true)
    (b : Nat) (hx : a.eval x = .pointer (some ⟨b, 0, none⟩)) (xs : List Int) (h : AccAt w b xs) (k : wpList Tabg.prog ops Q rest (a.put o.dst (accV xs)) w) : wpList Tabg.prog ops Q (o :: rest) a w := by
  obtain ⟨e, he⟩ := under40
  unfold wpList
  rw [if_pos hw]
  exact .inl (wp_load_row 40 x ho b hx 40 _ (0, 0) _ h.own he rfl (by rw [size40]; simp [ints_length, h.len]) k)
theorem setAcc_size (w : World) (b : Nat) (ys : List Int) : (setAcc w b ys).heap.size = w.heap.size := by unfold setAcc; rw [setRow_size]
theorem AccAt.setOther {w : World} {b c : Nat} {xs ys : List Int} (h : AccAt w b xs) (hc : b ≠ c) : AccAt (Ygctab.setAcc w c ys) b xs := h.mod ((Mod.refl c w).setAcc ys) hc

noncomputable def Zc : Obj := .cells Tabg.zeroCells40 40
theorem alloc_size (w : World) (o : Obj) : (w.alloc o).heap.size = w.heap.size + 1 := by simp

/-- Three fresh accumulators at zero. -/
theorem zero3 (w : World) : AccAt (((w.alloc Zc).alloc Zc).alloc Zc) w.heap.size (List.replicate 68 0) ∧ AccAt (((w.alloc Zc).alloc Zc).alloc Zc) (w.heap.size + 1) (List.replicate 68 0) ∧
    AccAt (((w.alloc Zc).alloc Zc).alloc Zc) (w.heap.size + 2) (List.replicate 68 0) := by
  refine ⟨AccAt.up (AccAt.zero' w) (((Up.refl _).alloc _).alloc _), ?_, ?_⟩
  · have := AccAt.zero' (w.alloc Zc)
    rw [alloc_size] at this
    exact AccAt.up this ((Up.refl _).alloc _)
  · have := AccAt.zero' ((w.alloc Zc).alloc Zc)
    rw [alloc_size, alloc_size] at this
    exact this
theorem zeroT (w : World) : AccAt ((w.alloc Zc).alloc Zc) w.heap.size (List.replicate 68 0) ∧ AccAt ((w.alloc Zc).alloc Zc) (w.heap.size + 1) (List.replicate 68 0) := by
  refine ⟨AccAt.up (AccAt.zero' w) ((Up.refl _).alloc _), ?_⟩
  have := AccAt.zero' (w.alloc Zc)
  rw [alloc_size] at this
  exact this

/-- What stands ahead of the checks. -/
structure RoomSt (w w' : World) (xs : List Int) (n x y : Nat) (b11 b12 b13 b14 b15 : Nat) (ys fs ds ps gs : List Int) : Prop where
  up : Up w w'
  a : AccAt w' w.heap.size xs
  prod : AccAt w' b11 ys
  flt : AccAt w' b12 fs
  abs : AccAt w' b13 ds
  p : AccAt w' b14 ps
  f : AccAt w' b15 gs
  inA : inB n (sv (num xs)) = true
  nlt : n < 4294967295
  vprod : num ys = (num xs + fval x * fval y) % W ^ 68
  vflt : num fs = (num xs + fval x * 2 ^ 1074) % W ^ 68
  vabs : num ds = ((sv (num xs)).natAbs : Int) % W ^ 68
  vp : num ps = (fval x * fval y) % W ^ 68
  vf : num gs = (fval x * 2 ^ 1074) % W ^ 68

theorem RoomSt.next {w w' w'' : World} {xs : List Int} {n x y b11 b12 b13 b14 b15 : Nat} {ys fs ds ps gs : List Int} (h : RoomSt w w' xs n x y b11 b12 b13 b14 b15 ys fs ds ps gs) (u : Up w' w'') : RoomSt w w'' xs n x y b11 b12 b13 b14 b15 ys fs ds ps gs :=
  { h with up := h.up.trans u, a := h.a.up u, prod := h.prod.up u, flt := h.flt.up u, abs := h.abs.up u, p := h.p.up u, f := h.f.up u }

section
variable {w w' : World} {xs : List Int} {n x y b11 b12 b13 b14 b15 : Nat} {ys fs ds ps gs : List Int}
theorem RoomSt.svprod (h : RoomSt w w' xs n x y b11 b12 b13 b14 b15 ys fs ds ps gs) : sv (num ys) = sv (num xs) + fval x * fval y ∧ inB (n + 1) (sv (num ys)) = true := by
  have := sv_add h.a.range.1 h.a.range.2 (inB_small (prod_small x y)) h.inA (by have := h.nlt; omega)
  rw [← h.vprod] at this
  exact ⟨this.1, by rw [this.1]; exact this.2⟩
theorem RoomSt.svflt (h : RoomSt w w' xs n x y b11 b12 b13 b14 b15 ys fs ds ps gs) : sv (num fs) = sv (num xs) + fval x * 2 ^ 1074 ∧ inB (n + 1) (sv (num fs)) = true := by
  have := sv_add h.a.range.1 h.a.range.2 (inB_small (float_small x)) h.inA (by have := h.nlt; omega)
  rw [← h.vflt] at this
  exact ⟨this.1, by rw [this.1]; exact this.2⟩
theorem RoomSt.svp (h : RoomSt w w' xs n x y b11 b12 b13 b14 b15 ys fs ds ps gs) : sv (num ps) = fval x * fval y ∧ inB 1 (sv (num ps)) = true := by
  rw [h.vp, sv_in (by decide) (inB_small (prod_small x y))]
  exact ⟨rfl, inB_small (prod_small x y)⟩
theorem RoomSt.svf (h : RoomSt w w' xs n x y b11 b12 b13 b14 b15 ys fs ds ps gs) : sv (num gs) = fval x * 2 ^ 1074 := by
  rw [h.vf, sv_in (by decide) (inB_small (float_small x))]
theorem RoomSt.svabs (h : RoomSt w w' xs n x y b11 b12 b13 b14 b15 ys fs ds ps gs) : inB n (sv (num ds)) = true := by
  rw [h.vabs, sv_in (by have := h.nlt; omega) (inB_abs h.inA)]
  exact inB_abs h.inA
/-- The negative of what is within is within. -/
theorem neg_in {n : Nat} (hn : n < 4294967296) {zs xs : List Int} (hr : Row xs) (hz : num zs = (-num xs) % W ^ 68) (h : inB n (sv (num xs)) = true) : inB n (sv (num zs)) = true := by
  have hx := num_range hr.2
  rw [hr.1] at hx
  have e : (-num xs) % W ^ 68 = (-sv (num xs)) % W ^ 68 := by
    conv => lhs; rw [num_sv hx.1 hx.2]
    exact neg_emod_emod' _ _
  rw [hz, e, sv_in hn (inB_neg h)]
  exact inB_neg h
end

/-- A row within k. -/
def RowK (k : Nat) (zs : List Int) : Prop := k < 4294967296 ∧ Row zs ∧ inB k (sv (num zs)) = true
/-- What the last region holds of the world. -/
def EndS (w : World) (b14 b16 : Nat) (xs ps ms : List Int) (w' : World) : Prop :=
  w'.rangeAt w.heap.size 0 (ints .u64 xs) ∧ w'.rangeAt b14 0 (ints .u64 ps) ∧ w'.rangeAt b16 0 (ints .u64 ms) ∧ Hid (Up w w')
theorem EndS.up {w : World} {b14 b16 : Nat} {xs ps ms : List Int} {w' w'' : World} (h : EndS w b14 b16 xs ps ms w') (u : Up w' w'') : EndS w b14 b16 xs ps ms w'' :=
  ⟨fun j v hv => u.cell (h.1 j v hv), fun j v hv => u.cell (h.2.1 j v hv), fun j v hv => u.cell (h.2.2.1 j v hv), h.2.2.2.out.trans u⟩
theorem AccAt.range40 {w : World} {b : Nat} {xs : List Int} (h : AccAt w b xs) : w.rangeAt b 0 (ints .u64 xs) := fun j v hv => by rw [Nat.zero_add, Own.cell h.own]; exact hv

set_option maxRecDepth 100000 in
set_option maxHeartbeats 12800000 in
theorem accRoom_in (xs : List Int) (n x y : Nat) (h : Row xs) (hn : n < 4294967295) (hx : Fin64 x) (hy : Fin64 y) (w : World) (hI : inB n (sv (num xs)) = true) :
    Calls Tabg.prog 7 #[accV xs, .int .u32 n, .int .u64 x, .int .u64 y] w fun e w' => e = .returned (.bool true) ∧ Up w w' := by
  have hA : Hid (AccAt (w.alloc (.cells (ints .u64 xs).toArray 40)) w.heap.size xs) := AccAt.box w h
  have hu : Hid (Up w (w.alloc (.cells (ints .u64 xs).toArray 40))) := (Up.refl w).alloc _
  have fX := finite_any x hx.1
  have fY := finite_any y hy.1
  rw [decide_eq_true hx.2] at fX
  rw [decide_eq_true hy.2] at fY
  have FX : Hid (∀ w, Calls Tabg.prog 25 #[.float .f64 x] w fun e w' => e = .returned (.bool true) ∧ w = w') := fX
  have FY : Hid (∀ w, Calls Tabg.prog 25 #[.float .f64 y] w fun e w' => e = .returned (.bool true) ∧ w = w') := fY
  have CX : Hid (∀ w, Calls Tabg.prog 14 #[.int .u64 x] w fun e w' => e = .returned (.float .f64 x) ∧ w = w') := f64_any x
  have CY : Hid (∀ w, Calls Tabg.prog 14 #[.int .u64 y] w fun e w' => e = .returned (.float .f64 y) ∧ w = w') := f64_any y
  have HI : Hid (inB n (sv (num xs)) = true ∧ n < 4294967295 ∧ Fin64 x ∧ Fin64 y ∧ Row xs) := ⟨hI, hn, hx, hy, h⟩
  have h1' : ((n : Int) == 4294967295) = false := by simp; omega
  clear fX fY h hx hy hI
  unfold accV
  go_enter Tabg.func7, Tabg.ntmps7
  go_wp2_with (fail)
  have c1 := accWithin_any w.heap.size n (by omega) xs _ hA.out
  rw [HI.out.1] at c1
  refine c1.mono ?_
  clear c1
  rintro e w1 ⟨rfl, hu1⟩
  have HA1 : Hid (AccAt w1 w.heap.size xs) := AccAt.up hA.out hu1
  have HU1 : Hid (Up w w1) := hu.out.trans hu1
  clear hA hu hu1
  go_wp2_with (fail)
  have c2 := within_any w.heap.size n (by omega) xs _ HA1.out
  rw [HI.out.1] at c2
  refine c2.mono ?_
  clear c2
  rintro e w2 ⟨rfl, hu2⟩
  have HA2 : Hid (AccAt w2 w.heap.size xs) := AccAt.up HA1.out hu2
  have c3 := within_any w.heap.size n (by omega) xs _ HA2.out
  rw [HI.out.1] at c3
  have C3 : Hid (Calls Tabg.prog 24 #[.pointer (some ⟨w.heap.size, 0, none⟩), .int .u32 n] w2 fun e w' => e = .returned (.bool true) ∧ Up w2 w') := c3
  have HU2 : Hid (Up w w2) := HU1.out.trans hu2
  clear hu2 HA1 HU1 c3
  go_wp2_with (fail)
  refine (CX.out _).mono ?_
  rintro e w' ⟨rfl, rfl⟩
  go_wp2_with (fail)
  refine (CY.out _).mono ?_
  rintro e w' ⟨rfl, rfl⟩
  clear CX CY
  go_wp2_with (fail)
  refine (FX.out _).mono ?_
  rintro e w' ⟨rfl, rfl⟩
  go_wp2_with (fail)
  refine (FY.out _).mono ?_
  rintro e w' ⟨rfl, rfl⟩
  clear FX FY
  go_wp2_with (fail)
  refine Calls.mono C3.out ?_
  rintro e w3 ⟨rfl, hu3⟩
  have HU3 : Hid (Up w w3) := HU2.out.trans hu3
  have HA3 : Hid (AccAt w3 w.heap.size xs) := AccAt.up HA2.out hu3
  clear hu3 C3 HU2 HA2 h1' hn
  have HZ : Hid (AccAt (((w3.alloc Zc).alloc Zc).alloc Zc) w3.heap.size (List.replicate 68 0) ∧ AccAt (((w3.alloc Zc).alloc Zc).alloc Zc) (w3.heap.size + 1) (List.replicate 68 0) ∧
    AccAt (((w3.alloc Zc).alloc Zc).alloc Zc) (w3.heap.size + 2) (List.replicate 68 0)) := zero3 w3
  go_wp2_with (first | (refine wpList_load40 rfl _ rfl w.heap.size rfl xs HA3.out ?_) | (refine wpList_store40 rfl _ _ rfl w3.heap.size rfl xs rfl HI.out.2.2.2.2.1 _ HZ.out.1 ?_) | (refine wpList_store40 rfl _ _ rfl (w3.heap.size + 1) rfl xs rfl HI.out.2.2.2.2.1 _ (AccAt.setOther HZ.out.2.1 (by omega)) ?_) | (refine wpList_store40 rfl _ _ rfl (w3.heap.size + 2) rfl xs rfl HI.out.2.2.2.2.1 _ (AccAt.setOther (AccAt.setOther HZ.out.2.2 (by omega)) (by omega)) ?_))
  have HW : Hid (∃ W4, W4 = setAcc (setAcc (setAcc (((w3.alloc Zc).alloc Zc).alloc Zc) w3.heap.size xs) (w3.heap.size + 1) xs) (w3.heap.size + 2) xs ∧ AccAt W4 w3.heap.size xs ∧ AccAt W4 (w3.heap.size + 1) xs ∧ AccAt W4 (w3.heap.size + 2) xs ∧ Up w3 W4) := by
    refine ⟨_, rfl, ?_, ?_, ?_, ?_⟩
    · exact AccAt.setOther (AccAt.setOther (AccAt.setAcc HZ.out.1 HI.out.2.2.2.2.1 HI.out.2.2.2.2.2) (by omega)) (by omega)
    · exact AccAt.setOther (AccAt.setAcc (AccAt.setOther HZ.out.2.1 (by omega)) HI.out.2.2.2.2.1 HI.out.2.2.2.2.2) (by omega)
    · exact AccAt.setAcc (AccAt.setOther (AccAt.setOther HZ.out.2.2 (by omega)) (by omega)) HI.out.2.2.2.2.1 HI.out.2.2.2.2.2
    · exact Up.ofMod (Up.ofMod (Up.ofMod ((((Up.refl w3).alloc _).alloc _).alloc _) ((Mod.refl _ _).setAcc xs) (Nat.le_refl _)) ((Mod.refl _ _).setAcc xs) (by omega)) ((Mod.refl _ _).setAcc xs) (by omega)
  obtain ⟨W4, hW4, q1, q2, q3, q4⟩ := HW.out
  have hW4' : setAcc (setAcc (setAcc (((w3.alloc (.cells Tabg.zeroCells40 40)).alloc (.cells Tabg.zeroCells40 40)).alloc (.cells Tabg.zeroCells40 40)) w3.heap.size xs) (w3.heap.size + 1) xs) (w3.heap.size + 2) xs = W4 := hW4.symm
  rw [hW4']
  have K1 : Hid (AccAt W4 w3.heap.size xs) := q1
  have K2 : Hid (AccAt W4 (w3.heap.size + 1) xs) := q2
  have K3 : Hid (AccAt W4 (w3.heap.size + 2) xs) := q3
  have K4 : Hid (AccAt W4 w.heap.size xs) := AccAt.up HA3.out q4
  have K5 : Hid (Up w W4) := HU3.out.trans q4
  have hb : Hid (w.heap.size < w3.heap.size) := AccAt.lt HA3.out
  clear hW4' hW4 q1 q2 q3 q4 HW HZ HA3 HU3
  generalize w3.heap.size = b at *
  refine (addProd_any b x y HI.out.2.2.1 HI.out.2.2.2.1 xs W4 K1.out).mono ?_
  rintro e w5 ⟨rfl, m5, ys, hy5, vy⟩
  have L1 : Hid (AccAt w5 b ys) := hy5
  have V1 : Hid (num ys = (num xs + fval x * fval y) % W ^ 68) := vy
  have L2 : Hid (AccAt w5 (b + 1) xs) := AccAt.mod K2.out m5 (by omega)
  have L3 : Hid (AccAt w5 (b + 2) xs) := AccAt.mod K3.out m5 (by omega)
  have L4 : Hid (AccAt w5 w.heap.size xs) := AccAt.mod K4.out m5 (by have := hb.out; omega)
  have L5 : Hid (Up w w5) := Up.ofMod K5.out m5 (by have := hb.out; omega)
  clear K1 K2 K3 K4 K5 m5 hy5 vy
  go_wp2_with (fail)
  refine (addFloat_yes (b + 1) x HI.out.2.2.1.1 HI.out.2.2.1.2 xs w5 L2.out).mono ?_
  rintro e w6 ⟨rfl, m6, fs, hf6, vf⟩
  have M1 : Hid (AccAt w6 b ys) := AccAt.mod L1.out m6 (by omega)
  have M2 : Hid (AccAt w6 (b + 1) fs) := hf6
  have V2 : Hid (num fs = (num xs + fval x * 2 ^ 1074) % W ^ 68) := vf
  have M3 : Hid (AccAt w6 (b + 2) xs) := AccAt.mod L3.out m6 (by omega)
  have M4 : Hid (AccAt w6 w.heap.size xs) := AccAt.mod L4.out m6 (by have := hb.out; omega)
  have M5 : Hid (Up w w6) := Up.ofMod L5.out m6 (by have := hb.out; omega)
  clear L1 L2 L3 L4 L5 m6 hf6 vf
  go_wp2_with (fail)
  refine (accAbs_any (b + 2) xs w6 M3.out).mono ?_
  rintro e w7 ⟨rfl, m7, ds, hd7, vd⟩
  have N1 : Hid (AccAt w7 b ys) := AccAt.mod M1.out m7 (by omega)
  have N2 : Hid (AccAt w7 (b + 1) fs) := AccAt.mod M2.out m7 (by omega)
  have N3 : Hid (AccAt w7 (b + 2) ds) := hd7
  have V3 : Hid (num ds = ((sv (num xs)).natAbs : Int) % W ^ 68) := vd
  have N4 : Hid (AccAt w7 w.heap.size xs) := AccAt.mod M4.out m7 (by have := hb.out; omega)
  have N5 : Hid (Up w w7) := Up.ofMod M5.out m7 (by have := hb.out; omega)
  clear M1 M2 M3 M4 M5 m7 hd7 vd
  go_wp2_with (fail)
  refine (accProd_any x y HI.out.2.2.1 HI.out.2.2.2.1 w7).mono ?_
  rintro e w8 ⟨ps, rfl, rp, vp, u8⟩
  have RP : Hid (Row ps) := rp
  have V4 : Hid (num ps = (fval x * fval y) % W ^ 68) := vp
  have U8 : Hid (Up w7 w8) := u8
  clear rp vp u8
  go_wp2_with (fail)
  refine (accOf_any x HI.out.2.2.1 w8).mono ?_
  rintro e w9 ⟨gs, rfl, rg, vg, u9⟩
  have RG : Hid (Row gs) := rg
  have V5 : Hid (num gs = (fval x * 2 ^ 1074) % W ^ 68) := vg
  have U9 : Hid (Up w7 w9) := U8.out.trans u9
  clear rg vg u9 U8
  have HZ : Hid (AccAt ((w9.alloc Zc).alloc Zc) w9.heap.size (List.replicate 68 0) ∧ AccAt ((w9.alloc Zc).alloc Zc) (w9.heap.size + 1) (List.replicate 68 0)) := zeroT w9
  have HR : Hid (RoomSt w (setAcc (setAcc ((w9.alloc Zc).alloc Zc) w9.heap.size ps) (w9.heap.size + 1) gs) xs n x y b (b + 1) (b + 2) w9.heap.size (w9.heap.size + 1) ys fs ds ps gs) := by
    have hup : Up w7 (setAcc (setAcc ((w9.alloc Zc).alloc Zc) w9.heap.size ps) (w9.heap.size + 1) gs) := Up.ofMod (Up.ofMod ((U9.out.alloc _).alloc _) ((Mod.refl _ _).setAcc ps) (Up.size U9.out)) ((Mod.refl _ _).setAcc gs) (by have := Up.size U9.out; omega)
    exact ⟨N5.out.trans hup, AccAt.up N4.out hup, AccAt.up N1.out hup, AccAt.up N2.out hup, AccAt.up N3.out hup, AccAt.setOther (AccAt.setAcc HZ.out.1 RP.out.1 RP.out.2) (by omega), AccAt.setAcc (AccAt.setOther HZ.out.2 (by omega)) RG.out.1 RG.out.2, HI.out.1, HI.out.2.1, V1.out, V2.out, V3.out, V4.out, V5.out⟩
  have hn1 : IntKind.u32.wrap ((n : Int) + 1) = ((n + 1 : Nat) : Int) := by rw [IntKind.wrap_u32]; have := HI.out.2.1; omega
  clear N1 N2 N3 N4 N5 V1 V2 V3 V4 V5 U9 hb
  go_wp2_with (first | (refine wpList_load40 rfl _ rfl b rfl ys (RoomSt.prod HR.out) ?_) | (refine wpList_store40 rfl _ _ rfl w9.heap.size rfl ps rfl RP.out.1 _ HZ.out.1 ?_) | (refine wpList_store40 rfl _ _ rfl (w9.heap.size + 1) rfl gs rfl RG.out.1 _ (AccAt.setOther HZ.out.2 (by omega)) ?_))
  have HR' : Hid (∃ W, W = setAcc (setAcc ((w9.alloc Zc).alloc Zc) w9.heap.size ps) (w9.heap.size + 1) gs ∧ RoomSt w W xs n x y b (b + 1) (b + 2) w9.heap.size (w9.heap.size + 1) ys fs ds ps gs) := ⟨_, rfl, HR.out⟩
  obtain ⟨WA, hWA, rA⟩ := HR'.out
  have hWA' : setAcc (setAcc ((w9.alloc (.cells Tabg.zeroCells40 40)).alloc (.cells Tabg.zeroCells40 40)) w9.heap.size ps) (w9.heap.size + 1) gs = WA := hWA.symm
  rw [hWA']
  have RA : Hid (RoomSt w WA xs n x y b (b + 1) (b + 2) w9.heap.size (w9.heap.size + 1) ys fs ds ps gs) := rA
  clear hWA hWA' rA HR' HR HZ RP RG
  generalize w9.heap.size = b14 at *
  have c := stays_any (n + 1) (by have := HI.out.2.1; omega) ys (AccAt.row (RoomSt.prod RA.out)) WA
  rw [(RoomSt.svprod RA.out).2] at c
  refine c.mono ?_
  clear c
  rintro e wB ⟨rfl, uB⟩
  have RB : Hid (RoomSt w wB xs n x y b (b + 1) (b + 2) b14 (b14 + 1) ys fs ds ps gs) := RoomSt.next RA.out uB
  clear uB RA
  go_wp2_with (first | (refine wpList_load40g _ rfl rfl (b + 1) rfl fs (RoomSt.flt RB.out) ?_))
  have c := stays_any (n + 1) (by have := HI.out.2.1; omega) fs (AccAt.row (RoomSt.flt RB.out)) wB
  rw [(RoomSt.svflt RB.out).2] at c
  refine c.mono ?_
  clear c
  rintro e wC ⟨rfl, uC⟩
  have RC : Hid (RoomSt w wC xs n x y b (b + 1) (b + 2) b14 (b14 + 1) ys fs ds ps gs) := RoomSt.next RB.out uC
  clear uC RB
  go_wp2_with (fail)
  obtain ⟨g1, hg1⟩ : ∃ g, sgn (fval x * fval y) = g := ⟨_, rfl⟩
  have HG1 : Hid (sgn (fval x * fval y) = g1) := hg1
  obtain ⟨g2, hg2⟩ : ∃ g, sgn (fval x * 2 ^ 1074) = g := ⟨_, rfl⟩
  have HG2 : Hid (sgn (fval x * 2 ^ 1074) = g2) := hg2
  clear hg1 hg2
  have hg1 : (g1 != g1) = false := by simp
  have hg2 : (g2 != g2) = false := by simp
  have c := accCmp_any b w.heap.size ys xs wC (RoomSt.prod RC.out) (RoomSt.a RC.out)
  rw [(RoomSt.svprod RC.out).1, show sv (num xs) + fval x * fval y - sv (num xs) = fval x * fval y by omega, HG1.out] at c
  refine c.mono ?_
  clear c
  rintro e wD ⟨rfl, uD⟩
  have RD : Hid (RoomSt w wD xs n x y b (b + 1) (b + 2) b14 (b14 + 1) ys fs ds ps gs) := RoomSt.next RC.out uD
  clear uD RC
  go_wp2_with (fail)
  have c := accSign_any b14 ps wD (RoomSt.p RD.out)
  rw [(RoomSt.svp RD.out).1, HG1.out] at c
  refine c.mono ?_
  clear c
  rintro e wE ⟨rfl, rfl⟩
  go_wp2_with (fail)
  have c := accCmp_any (b + 1) w.heap.size fs xs wD (RoomSt.flt RD.out) (RoomSt.a RD.out)
  rw [(RoomSt.svflt RD.out).1, show sv (num xs) + fval x * 2 ^ 1074 - sv (num xs) = fval x * 2 ^ 1074 by omega, HG2.out] at c
  refine c.mono ?_
  clear c
  rintro e wF ⟨rfl, uF⟩
  have RF : Hid (RoomSt w wF xs n x y b (b + 1) (b + 2) b14 (b14 + 1) ys fs ds ps gs) := RoomSt.next RD.out uF
  clear uF RD
  go_wp2_with (fail)
  have c := accSign_any (b14 + 1) gs wF (RoomSt.f RF.out)
  rw [RoomSt.svf RF.out, HG2.out] at c
  refine c.mono ?_
  clear c
  rintro e wE ⟨rfl, rfl⟩
  go_wp2_with (first | (refine wpList_load40g _ rfl rfl w.heap.size rfl xs (RoomSt.a RF.out) ?_))
  refine (negV_any xs wF HI.out.2.2.2.2).mono ?_
  rintro e wG ⟨ns, rfl, rn, vn, uG⟩
  have RG : Hid (RoomSt w wG xs n x y b (b + 1) (b + 2) b14 (b14 + 1) ys fs ds ps gs) := RoomSt.next RF.out uG
  have HN : Hid (Row ns ∧ inB n (sv (num ns)) = true) := ⟨rn, neg_in (by have := HI.out.2.1; omega) HI.out.2.2.2.2 vn HI.out.1⟩
  clear uG RF rn vn
  go_wp2_with (fail)
  have c := stays_any n (by have := HI.out.2.1; omega) ns HN.out.1 wG
  rw [HN.out.2] at c
  refine c.mono ?_
  clear c
  rintro e wH ⟨rfl, uH⟩
  have RH : Hid (RoomSt w wH xs n x y b (b + 1) (b + 2) b14 (b14 + 1) ys fs ds ps gs) := RoomSt.next RG.out uH
  clear uH RG HN
  go_wp2_with (first | (refine wpList_load40g _ rfl rfl (b + 2) rfl ds (RoomSt.abs RH.out) ?_))
  have c := stays_any n (by have := HI.out.2.1; omega) ds (AccAt.row (RoomSt.abs RH.out)) wH
  rw [RoomSt.svabs RH.out] at c
  refine c.mono ?_
  clear c
  rintro e wI ⟨rfl, uI⟩
  have RI : Hid (RoomSt w wI xs n x y b (b + 1) (b + 2) b14 (b14 + 1) ys fs ds ps gs) := RoomSt.next RH.out uI
  clear uI RH
  go_wp2_with (first | (refine wpList_load40 rfl _ rfl b14 rfl ps (RoomSt.p RI.out) ?_))
  refine (negV_any ps wI (AccAt.row (RoomSt.p RI.out))).mono ?_
  rintro e wJ ⟨ms, rfl, rm, vm, uJ⟩
  have RJ : Hid (RoomSt w wJ xs n x y b (b + 1) (b + 2) b14 (b14 + 1) ys fs ds ps gs) := RoomSt.next RI.out uJ
  have HM : Hid (Row ms ∧ inB 1 (sv (num ms)) = true) := ⟨rm, neg_in (by decide) (AccAt.row (RoomSt.p RI.out)) vm (RoomSt.svp RI.out).2⟩
  clear uJ RI rm vm
  have hZ : Hid (AccAt (wJ.alloc (.cells Tabg.zeroCells40 40)) wJ.heap.size (List.replicate 68 0)) := AccAt.zero' wJ
  go_wp2_with (first | (refine wpList_store40 rfl _ _ rfl wJ.heap.size rfl ms rfl HM.out.1.1 _ hZ.out ?_))
  have HE : Hid (∃ W, W = setAcc (wJ.alloc (.cells Tabg.zeroCells40 40)) wJ.heap.size ms ∧ EndS w b14 wJ.heap.size xs ps ms W) := by
    refine ⟨_, rfl, ?_⟩
    have hup : Up wJ (setAcc (wJ.alloc (.cells Tabg.zeroCells40 40)) wJ.heap.size ms) := Up.ofMod ((Up.refl wJ).alloc _) ((Mod.refl _ _).setAcc ms) (Nat.le_refl _)
    have r := RoomSt.next RJ.out hup
    exact ⟨r.a.range40, r.p.range40, (AccAt.setAcc hZ.out HM.out.1.1 HM.out.1.2).range40, r.up⟩
  obtain ⟨wS, hwS, hS⟩ := HE.out
  rw [← hwS]
  obtain ⟨m, hm⟩ : ∃ m : Nat, n + m = 4294967295 := ⟨4294967295 - n, by have := HI.out.2.1; omega⟩
  have rx : RowK n xs := ⟨by omega, HI.out.2.2.2.2, HI.out.1⟩
  have rp : RowK 1 ps := ⟨by decide, AccAt.row (RoomSt.p RJ.out), (RoomSt.svp RJ.out).2⟩
  have rm : RowK 1 ms := ⟨by decide, HM.out.1, HM.out.2⟩
  have sx : (Tabg.prog.info? 40).map (·.size) = some (ints .u64 xs).length := by rw [size40, ints_length, rx.2.1.1]
  have sp : (Tabg.prog.info? 40).map (·.size) = some (ints .u64 ps).length := by rw [size40, ints_length, rp.2.1.1]
  have sm : (Tabg.prog.info? 40).map (·.size) = some (ints .u64 ms).length := by rw [size40, ints_length, rm.2.1.1]
  have hu40 := under40''
  have RX : Hid (RowK n xs) := rx
  have RP : Hid (RowK 1 ps) := rp
  have RM : Hid (RowK 1 ms) := rm
  have hmI : IntKind.u32.wrap (4294967295 - (n : Int)) = (m : Int) := by rw [IntKind.wrap_u32]; omega
  have CA : Hid (∀ (zs : List Int) (k : Nat), Hid (RowK k zs) → ∀ w', Calls Tabg.prog 35 #[.agg (ints .u64 xs).toArray, .agg (ints .u64 zs).toArray, .int .u32 n, .int .u32 k] w' (fun e w'' => e = .returned (.bool true) ∧ Up w' w'')) :=
    fun zs k hk w' => addStays_any n k rx.1 hk.out.1 xs zs rx.2.1 hk.out.2.1 rx.2.2 hk.out.2.2 w'
  have CA1 : Hid (∀ zs, Hid (RowK 1 zs) → ∀ w', Calls Tabg.prog 35 #[.agg (ints .u64 xs).toArray, .agg (ints .u64 zs).toArray, .int .u32 n, .int .u32 1] w' (fun e w'' => e = .returned (.bool true) ∧ Up w' w'')) :=
    fun zs hk w' => CA.out zs 1 hk w'
  have CR : Hid (∀ k : Nat, k < 4294967296 → ∀ w', Calls Tabg.prog 36 #[.int .u32 k] w' (fun e w'' => ∃ zs, e = .returned (.agg (ints .u64 zs).toArray) ∧ Hid (RowK k zs) ∧ Up w' w'')) := by
    intro k hk w'
    refine (roomOf_any k hk w').mono ?_
    rintro e w'' ⟨zs, rfl, hl, hw, hv, hu⟩
    refine ⟨zs, rfl, ⟨hk, ⟨hl, hw⟩, ?_⟩, hu⟩
    rw [hv, ← room_num hk, sv_room hk]
    exact inB_room hk
  have hnl : n < 4294967296 := rx.1
  have hml : m < 4294967296 := by omega
  clear hm rx rp rm HE hwS RJ HM hZ HI hg1 hg2 HG1 HG2 hn1
  generalize wJ.heap.size = b16 at *
  try simp only [Act.put, List.setIfInBounds_toArray, List.set_cons_zero, List.set_cons_succ]
  refine wp_region_noPanic ?_
  refine wp_region_held_drew (S := (fun w' => w'.rangeAt w.heap.size 0 (ints .u64 xs) ∧ w'.rangeAt b14 0 (ints .u64 ps) ∧ w'.rangeAt b16 0 (ints .u64 ms) ∧ Hid (Up w w'))) (by kernel_rfl) (EndS.up hS (Up.refl _).drew) (fun hH0 => ?_)
  refine' wpAnyH_take (i := 0) (oi := { dst := some 94, op := Op.load 40 (Operand.tmp 4), type := 40, pos := "checks.go:110", after := #[], guard := none }) (v := _) rfl (by kernel_rfl) (by kernel_rfl) (by kernel_rfl) (fun _ _ _ h => h)
    (yieldsIf_load_mid (by rfl) _ _ rfl _ _ rfl _ _ (fun w h => h.1) hu40 rfl sx) hH0 ?_
  try simp only [Act.put, List.setIfInBounds_toArray, List.set_cons_zero, List.set_cons_succ]
  refine' wpAnyH_take (i := 1) (oi := { dst := some 95, op := Op.load 40 (Operand.tmp 14), type := 40, pos := "checks.go:110", after := #[], guard := none }) (v := _) rfl (by kernel_rfl) (by kernel_rfl) (by kernel_rfl) (fun _ _ _ h => h)
    (yieldsIf_load_mid (by rfl) _ _ rfl _ _ rfl _ _ (fun w h => h.2.1) hu40 rfl sp) hH0 ?_
  try simp only [Act.put, List.setIfInBounds_toArray, List.set_cons_zero, List.set_cons_succ]
  refine wpAnyH_take (i := 2) (oi := { dst := some 96, op := Op.move (Operand.tmp 1), type := 41, pos := "checks.go:110", after := #[], guard := none }) (v := .int .u32 n) rfl (by kernel_rfl) (by kernel_rfl) (by kernel_rfl) (fun _ _ _ h => h) (Or.inl ⟨by rfl, fun w hSw => ?_⟩) hH0 ?_
  · clear hSw
    go_simp
  try simp only [Act.put, List.setIfInBounds_toArray, List.set_cons_zero, List.set_cons_succ]
  refine wpAnyH_ready (rs := [3]) (by kernel_rfl) (by simp) ?_
  refine AllReadyH.cons (o := { dst := some 97, op := Op.call { callee := Callee.value (Operand.func 35), args := #[Operand.tmp 94, Operand.tmp 95, Operand.tmp 96, Operand.const (Value.int IntKind.u32 1)], argTypes := #[40, 40, 41, 41] }, type := 4, pos := "checks.go:110", after := #[{ on := 0, ground := Ground.data }, { on := 1, ground := Ground.data }, { on := 2, ground := Ground.data }], guard := none }) rfl (fun K hK => ?_) AllReadyH.nil
  go_simp
  refine (CA1.out ps RP _).mono ?_
  rintro e w1' ⟨rfl, uL⟩
  go_wp2_with fail
  refine hK.out _ _ (EndS.up hH0 uL) (fun hH1 => ?_)
  clear hK K hH0 uL
  try simp only [Act.put, List.setIfInBounds_toArray, List.set_cons_zero, List.set_cons_succ]
  refine wpAnyH_take (i := 4) (oi := { dst := some 98, op := Op.move (Operand.tmp 97), type := 4, pos := "checks.go:110", after := #[{ on := 3, ground := Ground.data }, { on := 3, ground := Ground.chain }], guard := none }) (v := .bool true) rfl (by kernel_rfl) (by kernel_rfl) (by kernel_rfl) (fun _ _ _ h => h) (Or.inl ⟨by rfl, fun w hSw => ?_⟩) hH1 ?_
  · clear hSw
    go_simp
  try simp only [Act.put, List.setIfInBounds_toArray, List.set_cons_zero, List.set_cons_succ]
  refine' wpAnyH_take (i := 5) (oi := { dst := some 99, op := Op.load 40 (Operand.tmp 4), type := 40, pos := "checks.go:110", after := #[{ on := 4, ground := Ground.guard }], guard := some (4, true) }) (v := _) rfl (by kernel_rfl) (by kernel_rfl) (by kernel_rfl) (fun _ _ _ h => h)
    (yieldsIf_load_mid (by rfl) _ _ rfl _ _ rfl _ _ (fun w h => h.1) hu40 rfl sx) hH1 ?_
  try simp only [Act.put, List.setIfInBounds_toArray, List.set_cons_zero, List.set_cons_succ]
  refine' wpAnyH_take (i := 6) (oi := { dst := some 100, op := Op.load 40 (Operand.tmp 16), type := 40, pos := "checks.go:110", after := #[{ on := 4, ground := Ground.guard }], guard := some (4, true) }) (v := _) rfl (by kernel_rfl) (by kernel_rfl) (by kernel_rfl) (fun _ _ _ h => h)
    (yieldsIf_load_mid (by rfl) _ _ rfl _ _ rfl _ _ (fun w h => h.2.2.1) hu40 rfl sm) hH1 ?_
  try simp only [Act.put, List.setIfInBounds_toArray, List.set_cons_zero, List.set_cons_succ]
  refine wpAnyH_take (i := 7) (oi := { dst := some 101, op := Op.move (Operand.tmp 1), type := 41, pos := "checks.go:110", after := #[{ on := 4, ground := Ground.guard }], guard := some (4, true) }) (v := .int .u32 n) rfl (by kernel_rfl) (by kernel_rfl) (by kernel_rfl) (fun _ _ _ h => h) (Or.inl ⟨by rfl, fun w hSw => ?_⟩) hH1 ?_
  · clear hSw
    go_simp
  try simp only [Act.put, List.setIfInBounds_toArray, List.set_cons_zero, List.set_cons_succ]
  refine wpAnyH_ready (rs := [8]) (by kernel_rfl) (by simp) ?_
  refine AllReadyH.cons (o := { dst := some 102, op := Op.call { callee := Callee.value (Operand.func 35), args := #[Operand.tmp 99, Operand.tmp 100, Operand.tmp 101, Operand.const (Value.int IntKind.u32 1)], argTypes := #[40, 40, 41, 41] }, type := 4, pos := "checks.go:110", after := #[{ on := 5, ground := Ground.data }, { on := 6, ground := Ground.data }, { on := 7, ground := Ground.data }, { on := 4, ground := Ground.chain }, { on := 4, ground := Ground.guard }], guard := some (4, true) }) rfl (fun K hK => ?_) AllReadyH.nil
  go_simp
  refine (CA1.out ms RM _).mono ?_
  rintro e w2' ⟨rfl, uL⟩
  go_wp2_with fail
  refine hK.out _ _ (EndS.up hH1 uL) (fun hH2 => ?_)
  clear hK K hH1 uL
  try simp only [Act.put, List.setIfInBounds_toArray, List.set_cons_zero, List.set_cons_succ]
  refine wpAnyH_take (i := 9) (oi := { dst := some 103, op := Op.pick (Operand.tmp 98) (Operand.tmp 102) (Operand.const (Value.bool false)), type := 4, pos := "checks.go:110", after := #[{ on := 4, ground := Ground.data }, { on := 8, ground := Ground.data }], guard := none }) (v := .bool true) rfl (by kernel_rfl) (by kernel_rfl) (by kernel_rfl) (fun _ _ _ h => h) (Or.inl ⟨by rfl, fun w hSw => ?_⟩) hH2 ?_
  · clear hSw
    go_simp
  try simp only [Act.put, List.setIfInBounds_toArray, List.set_cons_zero, List.set_cons_succ]
  refine wpAnyH_take (i := 10) (oi := { dst := some 104, op := Op.move (Operand.tmp 103), type := 4, pos := "checks.go:110", after := #[{ on := 9, ground := Ground.data }, { on := 8, ground := Ground.chain }], guard := none }) (v := .bool true) rfl (by kernel_rfl) (by kernel_rfl) (by kernel_rfl) (fun _ _ _ h => h) (Or.inl ⟨by rfl, fun w hSw => ?_⟩) hH2 ?_
  · clear hSw
    go_simp
  try simp only [Act.put, List.setIfInBounds_toArray, List.set_cons_zero, List.set_cons_succ]
  refine' wpAnyH_take (i := 11) (oi := { dst := some 105, op := Op.load 40 (Operand.tmp 4), type := 40, pos := "checks.go:110", after := #[{ on := 10, ground := Ground.guard }], guard := some (10, true) }) (v := _) rfl (by kernel_rfl) (by kernel_rfl) (by kernel_rfl) (fun _ _ _ h => h)
    (yieldsIf_load_mid (by rfl) _ _ rfl _ _ rfl _ _ (fun w h => h.1) hu40 rfl sx) hH2 ?_
  try simp only [Act.put, List.setIfInBounds_toArray, List.set_cons_zero, List.set_cons_succ]
  refine wpAnyH_take (i := 12) (oi := { dst := some 106, op := Op.move (Operand.tmp 1), type := 41, pos := "checks.go:110", after := #[{ on := 10, ground := Ground.guard }], guard := some (10, true) }) (v := .int .u32 n) rfl (by kernel_rfl) (by kernel_rfl) (by kernel_rfl) (fun _ _ _ h => h) (Or.inl ⟨by rfl, fun w hSw => ?_⟩) hH2 ?_
  · clear hSw
    go_simp
  try simp only [Act.put, List.setIfInBounds_toArray, List.set_cons_zero, List.set_cons_succ]
  refine wpAnyH_take (i := 14) (oi := { dst := some 108, op := Op.move (Operand.tmp 1), type := 41, pos := "checks.go:110", after := #[{ on := 10, ground := Ground.guard }], guard := some (10, true) }) (v := .int .u32 n) rfl (by kernel_rfl) (by kernel_rfl) (by kernel_rfl) (fun _ _ _ h => h) (Or.inl ⟨by rfl, fun w hSw => ?_⟩) hH2 ?_
  · clear hSw
    go_simp
  try simp only [Act.put, List.setIfInBounds_toArray, List.set_cons_zero, List.set_cons_succ]
  refine wpAnyH_take (i := 15) (oi := { dst := some 109, op := Op.move (Operand.tmp 1), type := 41, pos := "checks.go:110", after := #[{ on := 10, ground := Ground.guard }], guard := some (10, true) }) (v := .int .u32 n) rfl (by kernel_rfl) (by kernel_rfl) (by kernel_rfl) (fun _ _ _ h => h) (Or.inl ⟨by rfl, fun w hSw => ?_⟩) hH2 ?_
  · clear hSw
    go_simp
  try simp only [Act.put, List.setIfInBounds_toArray, List.set_cons_zero, List.set_cons_succ]
  refine wpAnyH_ready (rs := [13]) (by kernel_rfl) (by simp) ?_
  refine AllReadyH.cons (o := { dst := some 107, op := Op.call { callee := Callee.value (Operand.func 36), args := #[Operand.tmp 106], argTypes := #[41] }, type := 40, pos := "checks.go:110", after := #[{ on := 12, ground := Ground.data }, { on := 10, ground := Ground.chain }, { on := 10, ground := Ground.guard }], guard := some (10, true) }) rfl (fun K hK => ?_) AllReadyH.nil
  go_simp
  refine (CR.out n hnl _).mono ?_
  rintro e w3' ⟨rs, rfl, hrs, uL⟩
  go_wp2_with fail
  refine hK.out _ _ (EndS.up hH2 uL) (fun hH3 => ?_)
  clear hK K hH2 uL
  try simp only [Act.put, List.setIfInBounds_toArray, List.set_cons_zero, List.set_cons_succ]
  refine wpAnyH_ready (rs := [16]) (by kernel_rfl) (by simp) ?_
  refine AllReadyH.cons (o := { dst := some 110, op := Op.call { callee := Callee.value (Operand.func 35), args := #[Operand.tmp 105, Operand.tmp 107, Operand.tmp 108, Operand.tmp 109], argTypes := #[40, 40, 41, 41] }, type := 4, pos := "checks.go:110", after := #[{ on := 11, ground := Ground.data }, { on := 13, ground := Ground.data }, { on := 14, ground := Ground.data }, { on := 15, ground := Ground.data }, { on := 13, ground := Ground.chain }, { on := 10, ground := Ground.guard }], guard := some (10, true) }) rfl (fun K hK => ?_) AllReadyH.nil
  go_simp
  refine (CA.out rs n hrs _).mono ?_
  rintro e w4' ⟨rfl, uL⟩
  go_wp2_with fail
  refine hK.out _ _ (EndS.up hH3 uL) (fun hH4 => ?_)
  clear hK K hH3 uL
  try simp only [Act.put, List.setIfInBounds_toArray, List.set_cons_zero, List.set_cons_succ]
  refine wpAnyH_take (i := 17) (oi := { dst := some 111, op := Op.pick (Operand.tmp 104) (Operand.tmp 110) (Operand.const (Value.bool false)), type := 4, pos := "checks.go:110", after := #[{ on := 10, ground := Ground.data }, { on := 16, ground := Ground.data }], guard := none }) (v := .bool true) rfl (by kernel_rfl) (by kernel_rfl) (by kernel_rfl) (fun _ _ _ h => h) (Or.inl ⟨by rfl, fun w hSw => ?_⟩) hH4 ?_
  · clear hSw
    go_simp
  try simp only [Act.put, List.setIfInBounds_toArray, List.set_cons_zero, List.set_cons_succ]
  refine wpAnyH_take (i := 18) (oi := { dst := some 112, op := Op.move (Operand.tmp 111), type := 4, pos := "checks.go:110", after := #[{ on := 17, ground := Ground.data }, { on := 16, ground := Ground.chain }], guard := none }) (v := .bool true) rfl (by kernel_rfl) (by kernel_rfl) (by kernel_rfl) (fun _ _ _ h => h) (Or.inl ⟨by rfl, fun w hSw => ?_⟩) hH4 ?_
  · clear hSw
    go_simp
  try simp only [Act.put, List.setIfInBounds_toArray, List.set_cons_zero, List.set_cons_succ]
  refine' wpAnyH_take (i := 19) (oi := { dst := some 113, op := Op.load 40 (Operand.tmp 4), type := 40, pos := "checks.go:110", after := #[{ on := 18, ground := Ground.guard }], guard := some (18, true) }) (v := _) rfl (by kernel_rfl) (by kernel_rfl) (by kernel_rfl) (fun _ _ _ h => h)
    (yieldsIf_load_mid (by rfl) _ _ rfl _ _ rfl _ _ (fun w h => h.1) hu40 rfl sx) hH4 ?_
  try simp only [Act.put, List.setIfInBounds_toArray, List.set_cons_zero, List.set_cons_succ]
  refine' wpAnyH_take (i := 20) (oi := { dst := some 114, op := Op.load 40 (Operand.tmp 4), type := 40, pos := "checks.go:110", after := #[{ on := 18, ground := Ground.guard }], guard := some (18, true) }) (v := _) rfl (by kernel_rfl) (by kernel_rfl) (by kernel_rfl) (fun _ _ _ h => h)
    (yieldsIf_load_mid (by rfl) _ _ rfl _ _ rfl _ _ (fun w h => h.1) hu40 rfl sx) hH4 ?_
  try simp only [Act.put, List.setIfInBounds_toArray, List.set_cons_zero, List.set_cons_succ]
  refine wpAnyH_take (i := 21) (oi := { dst := some 115, op := Op.move (Operand.tmp 1), type := 41, pos := "checks.go:110", after := #[{ on := 18, ground := Ground.guard }], guard := some (18, true) }) (v := .int .u32 n) rfl (by kernel_rfl) (by kernel_rfl) (by kernel_rfl) (fun _ _ _ h => h) (Or.inl ⟨by rfl, fun w hSw => ?_⟩) hH4 ?_
  · clear hSw
    go_simp
  try simp only [Act.put, List.setIfInBounds_toArray, List.set_cons_zero, List.set_cons_succ]
  refine wpAnyH_take (i := 22) (oi := { dst := some 116, op := Op.move (Operand.tmp 1), type := 41, pos := "checks.go:110", after := #[{ on := 18, ground := Ground.guard }], guard := some (18, true) }) (v := .int .u32 n) rfl (by kernel_rfl) (by kernel_rfl) (by kernel_rfl) (fun _ _ _ h => h) (Or.inl ⟨by rfl, fun w hSw => ?_⟩) hH4 ?_
  · clear hSw
    go_simp
  try simp only [Act.put, List.setIfInBounds_toArray, List.set_cons_zero, List.set_cons_succ]
  refine wpAnyH_ready (rs := [23]) (by kernel_rfl) (by simp) ?_
  refine AllReadyH.cons (o := { dst := some 117, op := Op.call { callee := Callee.value (Operand.func 35), args := #[Operand.tmp 113, Operand.tmp 114, Operand.tmp 115, Operand.tmp 116], argTypes := #[40, 40, 41, 41] }, type := 4, pos := "checks.go:111", after := #[{ on := 19, ground := Ground.data }, { on := 20, ground := Ground.data }, { on := 21, ground := Ground.data }, { on := 22, ground := Ground.data }, { on := 18, ground := Ground.chain }, { on := 18, ground := Ground.guard }], guard := some (18, true) }) rfl (fun K hK => ?_) AllReadyH.nil
  go_simp
  refine (CA.out xs n RX _).mono ?_
  rintro e w5' ⟨rfl, uL⟩
  go_wp2_with fail
  refine hK.out _ _ (EndS.up hH4 uL) (fun hH5 => ?_)
  clear hK K hH4 uL
  try simp only [Act.put, List.setIfInBounds_toArray, List.set_cons_zero, List.set_cons_succ]
  refine wpAnyH_take (i := 24) (oi := { dst := some 118, op := Op.pick (Operand.tmp 112) (Operand.tmp 117) (Operand.const (Value.bool false)), type := 4, pos := "checks.go:110", after := #[{ on := 18, ground := Ground.data }, { on := 23, ground := Ground.data }], guard := none }) (v := .bool true) rfl (by kernel_rfl) (by kernel_rfl) (by kernel_rfl) (fun _ _ _ h => h) (Or.inl ⟨by rfl, fun w hSw => ?_⟩) hH5 ?_
  · clear hSw
    go_simp
  try simp only [Act.put, List.setIfInBounds_toArray, List.set_cons_zero, List.set_cons_succ]
  refine wpAnyH_take (i := 25) (oi := { dst := some 119, op := Op.move (Operand.tmp 118), type := 4, pos := "checks.go:110", after := #[{ on := 24, ground := Ground.data }, { on := 23, ground := Ground.chain }], guard := none }) (v := .bool true) rfl (by kernel_rfl) (by kernel_rfl) (by kernel_rfl) (fun _ _ _ h => h) (Or.inl ⟨by rfl, fun w hSw => ?_⟩) hH5 ?_
  · clear hSw
    go_simp
  try simp only [Act.put, List.setIfInBounds_toArray, List.set_cons_zero, List.set_cons_succ]
  refine' wpAnyH_take (i := 26) (oi := { dst := some 120, op := Op.load 40 (Operand.tmp 4), type := 40, pos := "checks.go:110", after := #[{ on := 25, ground := Ground.guard }], guard := some (25, true) }) (v := _) rfl (by kernel_rfl) (by kernel_rfl) (by kernel_rfl) (fun _ _ _ h => h)
    (yieldsIf_load_mid (by rfl) _ _ rfl _ _ rfl _ _ (fun w h => h.1) hu40 rfl sx) hH5 ?_
  try simp only [Act.put, List.setIfInBounds_toArray, List.set_cons_zero, List.set_cons_succ]
  refine wpAnyH_take (i := 27) (oi := { dst := some 121, op := Op.move (Operand.tmp 1), type := 41, pos := "checks.go:110", after := #[{ on := 25, ground := Ground.guard }], guard := some (25, true) }) (v := .int .u32 n) rfl (by kernel_rfl) (by kernel_rfl) (by kernel_rfl) (fun _ _ _ h => h) (Or.inl ⟨by rfl, fun w hSw => ?_⟩) hH5 ?_
  · clear hSw
    go_simp
  try simp only [Act.put, List.setIfInBounds_toArray, List.set_cons_zero, List.set_cons_succ]
  refine wpAnyH_take (i := 28) (oi := { dst := some 122, op := Op.binOp BinOp.sub 41 (Operand.const (Value.int IntKind.u32 4294967295)) (Operand.tmp 121) 41, type := 41, pos := "checks.go:110", after := #[{ on := 27, ground := Ground.data }, { on := 25, ground := Ground.guard }], guard := some (25, true) }) (v := .int .u32 m) rfl (by kernel_rfl) (by kernel_rfl) (by kernel_rfl) (fun _ _ _ h => h) (Or.inl ⟨by rfl, fun w hSw => ?_⟩) hH5 ?_
  · clear hSw
    go_simp
  try simp only [Act.put, List.setIfInBounds_toArray, List.set_cons_zero, List.set_cons_succ]
  refine wpAnyH_take (i := 30) (oi := { dst := some 124, op := Op.move (Operand.tmp 1), type := 41, pos := "checks.go:110", after := #[{ on := 25, ground := Ground.guard }], guard := some (25, true) }) (v := .int .u32 n) rfl (by kernel_rfl) (by kernel_rfl) (by kernel_rfl) (fun _ _ _ h => h) (Or.inl ⟨by rfl, fun w hSw => ?_⟩) hH5 ?_
  · clear hSw
    go_simp
  try simp only [Act.put, List.setIfInBounds_toArray, List.set_cons_zero, List.set_cons_succ]
  refine wpAnyH_take (i := 31) (oi := { dst := some 125, op := Op.move (Operand.tmp 1), type := 41, pos := "checks.go:110", after := #[{ on := 25, ground := Ground.guard }], guard := some (25, true) }) (v := .int .u32 n) rfl (by kernel_rfl) (by kernel_rfl) (by kernel_rfl) (fun _ _ _ h => h) (Or.inl ⟨by rfl, fun w hSw => ?_⟩) hH5 ?_
  · clear hSw
    go_simp
  try simp only [Act.put, List.setIfInBounds_toArray, List.set_cons_zero, List.set_cons_succ]
  refine wpAnyH_take (i := 32) (oi := { dst := some 126, op := Op.binOp BinOp.sub 41 (Operand.const (Value.int IntKind.u32 4294967295)) (Operand.tmp 125) 41, type := 41, pos := "checks.go:110", after := #[{ on := 31, ground := Ground.data }, { on := 25, ground := Ground.guard }], guard := some (25, true) }) (v := .int .u32 m) rfl (by kernel_rfl) (by kernel_rfl) (by kernel_rfl) (fun _ _ _ h => h) (Or.inl ⟨by rfl, fun w hSw => ?_⟩) hH5 ?_
  · clear hSw
    go_simp
  try simp only [Act.put, List.setIfInBounds_toArray, List.set_cons_zero, List.set_cons_succ]
  refine wpAnyH_ready (rs := [29]) (by kernel_rfl) (by simp) ?_
  refine AllReadyH.cons (o := { dst := some 123, op := Op.call { callee := Callee.value (Operand.func 36), args := #[Operand.tmp 122], argTypes := #[41] }, type := 40, pos := "checks.go:111", after := #[{ on := 28, ground := Ground.data }, { on := 25, ground := Ground.chain }, { on := 25, ground := Ground.guard }], guard := some (25, true) }) rfl (fun K hK => ?_) AllReadyH.nil
  go_simp
  refine (CR.out m hml _).mono ?_
  rintro e w6' ⟨qs, rfl, hqs, uL⟩
  go_wp2_with fail
  refine hK.out _ _ (EndS.up hH5 uL) (fun hH6 => ?_)
  clear hK K hH5 uL
  try simp only [Act.put, List.setIfInBounds_toArray, List.set_cons_zero, List.set_cons_succ]
  refine wpAnyH_ready (rs := [33]) (by kernel_rfl) (by simp) ?_
  refine AllReadyH.cons (o := { dst := some 127, op := Op.call { callee := Callee.value (Operand.func 35), args := #[Operand.tmp 120, Operand.tmp 123, Operand.tmp 124, Operand.tmp 126], argTypes := #[40, 40, 41, 41] }, type := 4, pos := "checks.go:111", after := #[{ on := 26, ground := Ground.data }, { on := 29, ground := Ground.data }, { on := 30, ground := Ground.data }, { on := 32, ground := Ground.data }, { on := 29, ground := Ground.chain }, { on := 25, ground := Ground.guard }], guard := some (25, true) }) rfl (fun K hK => ?_) AllReadyH.nil
  go_simp
  refine (CA.out qs m hqs _).mono ?_
  rintro e w7' ⟨rfl, uL⟩
  go_wp2_with fail
  refine hK.out _ _ (EndS.up hH6 uL) (fun hH7 => ?_)
  clear hK K hH6 uL
  try simp only [Act.put, List.setIfInBounds_toArray, List.set_cons_zero, List.set_cons_succ]
  refine wpAnyH_take (i := 34) (oi := { dst := some 128, op := Op.pick (Operand.tmp 119) (Operand.tmp 127) (Operand.const (Value.bool false)), type := 4, pos := "checks.go:110", after := #[{ on := 25, ground := Ground.data }, { on := 33, ground := Ground.data }], guard := none }) (v := .bool true) rfl (by kernel_rfl) (by kernel_rfl) (by kernel_rfl) (fun _ _ _ h => h) (Or.inl ⟨by rfl, fun w hSw => ?_⟩) hH7 ?_
  · clear hSw
    go_simp
  try simp only [Act.put, List.setIfInBounds_toArray, List.set_cons_zero, List.set_cons_succ]
  refine wpAnyH_take (i := 35) (oi := { dst := some 8, op := Op.assign (Operand.tmp 128), type := 4, pos := "checks.go:110", after := _, guard := none }) (v := .bool true) rfl (by kernel_rfl) (by kernel_rfl) (by kernel_rfl) (fun _ _ _ h => h) (Or.inl ⟨by rfl, fun w hSw => ?_⟩) hH7 ?_
  · clear hSw
    go_simp
  try simp only [Act.put, List.setIfInBounds_toArray, List.set_cons_zero, List.set_cons_succ]
  refine wpAnyH_done (by kernel_rfl) ?_ _
  refine NoPanic.normal ?_
  have UE := hH7.2.2.2
  clear hH7
  go_wp2
  go_ret
  exact ⟨rfl, UE.out⟩

theorem accRoom_any (xs : List Int) (n x y : Nat) (h : Row xs) (hn : n < 4294967296) (hx : x < 18446744073709551616) (hy : y < 18446744073709551616) (w : World) :
    Calls Tabg.prog 7 #[accV xs, .int .u32 n, .int .u64 x, .int .u64 y] w fun e w' => e = .returned (.bool true) ∧ Up w w' := by
  by_cases ho : n = 4294967295 ∨ 1 < fcls x ∨ 1 < fcls y ∨ inB n (sv (num xs)) = false
  · exact accRoom_out xs n x y h hn hx hy w ho
  · have h4 : inB n (sv (num xs)) = true := by
      cases hb : inB n (sv (num xs))
      · exact absurd (.inr (.inr (.inr hb))) ho
      · rfl
    exact accRoom_in xs n x y h (by omega) ⟨hx, by omega⟩ ⟨hy, by omega⟩ w h4
end Go.Proofs.Ygctab
