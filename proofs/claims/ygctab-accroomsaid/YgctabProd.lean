import Derived.Test.YgctabAccV
namespace Go.Proofs.Ygctab
open Go.RowKit
set_option linter.unusedVariables false
set_option linter.unusedSimpArgs false
set_option exponentiation.threshold 6000

set_option maxRecDepth 100000 in
set_option maxHeartbeats 1600000 in
theorem addProd_core (b x y : Nat) (sx sy : Bool) (mx my hi lo i cx cy : Nat) (ex ey : Int) (w : World) (Post : Ending → World → Prop)
    (cX : ∀ w, Calls Tabg.prog 90 #[.float .f64 x] w fun e w' => e = .returned (.tuple #[.bool sx, .int .u64 mx, .int .i16 ex, .int .u8 cx]) ∧ w = w')
    (cY : ∀ w, Calls Tabg.prog 90 #[.float .f64 y] w fun e w' => e = .returned (.tuple #[.bool sy, .int .u64 my, .int .i16 ey, .int .u8 cy]) ∧ w = w')
    (cM : ∀ w, Calls Tabg.prog 97 #[.int .u64 mx, .int .u64 my] w fun e w' => e = .returned (.tuple #[.int .u64 hi, .int .u64 lo]) ∧ w = w')
    (hcx : (cx : Int) ≤ 1) (hcx0 : (0 : Int) ≤ cx) (hcy : (cy : Int) ≤ 1) (hcy0 : (0 : Int) ≤ cy) (hex : -1074 ≤ ex) (hex' : ex ≤ 971) (hey : -1074 ≤ ey) (hey' : ey ≤ 971) (hi' : ex + ey + 2148 = (i : Int))
    (cP : Calls Tabg.prog 98 #[.pointer (some ⟨b, 0, none⟩), .bool (sx != sy), .int .u64 hi, .int .u64 lo, .int .i64 i] w fun e w' => e = .returned (.tuple #[]) ∧ Post (.returned (.bool true)) w') :
    Calls Tabg.prog 26 #[.pointer (some ⟨b, 0, none⟩), .float .f64 x, .float .f64 y] w Post := by
  have w1 : IntKind.i64.wrap (ex + ey) = ex + ey := by rw [IntKind.wrap_i64]; omega
  have w2 : IntKind.i64.wrap (ex + ey + 2148) = (i : Int) := by rw [IntKind.wrap_i64]; omega
  have n1 : ¬ (1 : Int) < cx := by omega
  have n2 : ¬ (1 : Int) < cy := by omega
  have CX : Hid (∀ w, Calls Tabg.prog 90 #[.float .f64 x] w fun e w' => e = .returned (.tuple #[.bool sx, .int .u64 mx, .int .i16 ex, .int .u8 cx]) ∧ w = w') := cX
  have CY : Hid (∀ w, Calls Tabg.prog 90 #[.float .f64 y] w fun e w' => e = .returned (.tuple #[.bool sy, .int .u64 my, .int .i16 ey, .int .u8 cy]) ∧ w = w') := cY
  have CM : Hid (∀ w, Calls Tabg.prog 97 #[.int .u64 mx, .int .u64 my] w fun e w' => e = .returned (.tuple #[.int .u64 hi, .int .u64 lo]) ∧ w = w') := cM
  have CP : Hid (Calls Tabg.prog 98 #[.pointer (some ⟨b, 0, none⟩), .bool (sx != sy), .int .u64 hi, .int .u64 lo, .int .i64 i] w fun e w' => e = .returned (.tuple #[]) ∧ Post (.returned (.bool true)) w') := cP
  clear cX cY cM cP
  cases sx <;> cases sy <;>
  · go_enter Tabg.func26, Tabg.ntmps26
    go_wp2_with (fail)
    refine (CX.out _).mono ?_
    rintro e w' ⟨rfl, rfl⟩
    go_wp2_with (fail)
    refine (CY.out _).mono ?_
    rintro e w' ⟨rfl, rfl⟩
    clear CX CY
    go_wp2_with (fail)
    refine (CM.out _).mono ?_
    rintro e w' ⟨rfl, rfl⟩
    clear CM
    go_wp2_with (fail)
    refine Calls.mono CP.out ?_
    rintro e w' ⟨rfl, hP⟩
    have HP : Hid (Post (.returned (.bool true)) w') := hP
    clear hP CP
    go_wp2
    first | exact HP.out | (go_ret; exact HP.out) | (trace_state; fail)

theorem addProd_any (b x y : Nat) (hx : Fin64 x) (hy : Fin64 y) (xs : List Int) (w : World) (h : AccAt w b xs) :
    Calls Tabg.prog 26 #[.pointer (some ⟨b, 0, none⟩), .float .f64 x, .float .f64 y] w fun e w' => e = .returned (.bool true) ∧ Mod b w w' ∧ ∃ ys, AccAt w' b ys ∧ num ys = (num xs + fval x * fval y) % W ^ 68 := by
  have mx := fman_lt x
  have my := fman_lt y
  have rx := fexp_range x
  have ry := fexp_range y
  obtain ⟨i, hi⟩ : ∃ i : Nat, fexp x + fexp y + 2148 = (i : Int) := ⟨(fexp x + fexp y + 2148).toNat, by omega⟩
  obtain ⟨p, hp⟩ : ∃ p : Nat, p = fman x * fman y := ⟨_, rfl⟩
  have hpb : p < 18446744073709551616 * 18446744073709551616 := by
    rw [hp]
    exact Nat.mul_lt_mul'' (by omega) (by omega)
  have cM := fun w => accMul (fman x : Int) (fman y : Int) w (by omega) (by omega) (by omega) (by omega)
  have e1 : (fman x : Int) * (fman y : Int) / 18446744073709551616 = ((p / 18446744073709551616 : Nat) : Int) := by rw [hp]; simp
  have e2 : (fman x : Int) * (fman y : Int) % 18446744073709551616 = ((p % 18446744073709551616 : Nat) : Int) := by rw [hp]; simp
  simp only [e1, e2] at cM
  have hv : ((p / 18446744073709551616 : Nat) : Int) * W + ((p % 18446744073709551616 : Nat) : Int) = (p : Int) := by rw [W_eq]; omega
  have hval : fval x * fval y = (if (fneg x != fneg y) then -1 else 1) * ((p : Int) * 2 ^ i) := by
    have hpow : (2 : Int) ^ i = 2 ^ (fexp x + 1074).toNat * 2 ^ (fexp y + 1074).toNat := by
      rw [← Int.pow_add]; congr 1; omega
    rw [hpow, hp]
    unfold fval
    generalize (2 : Int) ^ (fexp x + 1074).toNat = A
    generalize (2 : Int) ^ (fexp y + 1074).toNat = B
    rw [Int.natCast_mul]
    generalize (fman x : Int) = M
    generalize (fman y : Int) = N
    cases fneg x <;> cases fneg y <;> simp [Int.mul_neg, Int.neg_mul, Int.neg_neg] <;> ac_rfl
  refine addProd_core b x y (fneg x) (fneg y) (fman x) (fman y) _ _ i (fcls x) (fcls y) (fexp x) (fexp y) w _ (split' x hx.1) (split' y hy.1) cM (by have := hx.2; omega) (by omega) (by have := hy.2; omega) (by omega) rx.1 rx.2 ry.1 ry.2 hi ?_
  rw [hval]
  cases hs : (fneg x != fneg y)
  · refine (place_plus b _ _ i xs w h (by omega) (by omega) (by omega)).mono ?_
    rintro e w' ⟨rfl, hm, ys, hy, hyv⟩
    rw [hv] at hyv
    refine ⟨rfl, rfl, hm, ys, hy, ?_⟩
    rw [hyv]; simp
  · refine (place_minus b _ _ i xs w h (by omega) (by omega) (by omega)).mono ?_
    rintro e w' ⟨rfl, hm, ys, hy, hyv⟩
    rw [hv] at hyv
    refine ⟨rfl, rfl, hm, ys, hy, ?_⟩
    rw [hyv]; simp [Int.sub_eq_add_neg]

set_option maxRecDepth 100000 in
set_option maxHeartbeats 800000 in
theorem accProd_any (x y : Nat) (hx : Fin64 x) (hy : Fin64 y) (w : World) :
    Calls Tabg.prog 29 #[.float .f64 x, .float .f64 y] w fun e w' => ∃ ys, e = .returned (accV ys) ∧ Row ys ∧ num ys = (fval x * fval y) % W ^ 68 ∧ Up w w' := by
  obtain ⟨hA, hB⟩ := zero2 w
  have hu : Hid (Up w ((w.alloc (.cells Tabg.zeroCells40 40)).alloc (.cells Tabg.zeroCells40 40))) := ((Up.refl w).alloc _).alloc _
  go_enter Tabg.func29, Tabg.ntmps29
  go_wp2_with (fail)
  refine (addProd_any (w.heap.size + 1) x y hx hy _ _ hB.out).mono ?_
  rintro e w1 ⟨rfl, hm, ys, hy, hyv⟩
  rw [num_zeros, Int.zero_add] at hyv
  have HY : Hid (AccAt w1 (w.heap.size + 1) ys) := hy
  have HA : Hid (AccAt w1 w.heap.size (List.replicate 68 0)) := AccAt.mod hA.out hm (by omega)
  have HV : Hid (num ys = (fval x * fval y) % W ^ 68) := hyv
  have HU : Hid (Up w (setAcc w1 w.heap.size ys)) := Up.ofMod (Up.ofMod hu.out hm (by omega)) ((Mod.refl _ w1).setAcc ys) (by omega)
  clear hy hm hyv hu hB hA
  go_wp2_with (first | (refine wpList_load40 rfl _ rfl (w.heap.size + 1) rfl ys HY.out ?_) | (refine wpList_store40 rfl _ _ rfl w.heap.size rfl ys rfl (AccAt.len HY.out) _ HA.out ?_))
  refine bodyPost_ret (ret40 rfl _ _ w.heap.size rfl ys (AccAt.setAcc HA.out (AccAt.len HY.out) (AccAt.words HY.out))) rfl ?_
  exact ⟨ys, rfl, AccAt.row HY.out, HV.out, HU.out⟩
end Go.Proofs.Ygctab
