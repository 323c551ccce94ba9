import Derived.Test.YgctabWithin2
namespace Go.Proofs.Ygctab
open Go.RowKit
set_option linter.unusedVariables false
set_option linter.unusedSimpArgs false
set_option exponentiation.threshold 6000

theorem inB_iff {n : Nat} {v : Int} : inB n v = true ↔ -((n : Int) * 2 ^ 4196) ≤ v ∧ v ≤ (n : Int) * 2 ^ 4196 := by
  unfold inB; simp
/-- The sum of two numbers that have room. -/
theorem sv_add {A B : Int} {n m : Nat} (hA : 0 ≤ A) (hA' : A < W ^ 68) (hB : inB m B = true) (hn : inB n (sv A) = true) (hs : n + m < 4294967296) :
    sv ((A + B) % W ^ 68) = sv A + B ∧ inB (n + m) (sv A + B) = true := by
  rw [inB_iff] at *
  have h1 := room_half hs
  have e : ((n + m : Nat) : Int) * 2 ^ 4196 = (n : Int) * 2 ^ 4196 + (m : Int) * 2 ^ 4196 := by rw [Int.natCast_add, Int.add_mul]
  rw [e] at h1 ⊢
  generalize (n : Int) * 2 ^ 4196 = N at *
  generalize (m : Int) * 2 ^ 4196 = M at *
  refine ⟨?_, by omega, by omega⟩
  have e2 : (A + B) % W ^ 68 = (sv A + B) % W ^ 68 := by
    conv => lhs; rw [num_sv hA hA', Int.emod_add_emod]
  rw [e2]
  exact sv_mod (by omega) (by omega)

set_option maxRecDepth 100000 in
set_option maxHeartbeats 1600000 in
theorem addStays_far (n m : Nat) (hn : n < 4294967296) (hm : m < 4294967296) (xs ys : List Int) (h : Row xs) (k : Row ys) (hy : inB m (sv (num ys)) = true) (hs : 4294967296 ≤ n + m) (w : World) :
    Calls Tabg.prog 35 #[accV xs, accV ys, .int .u32 n, .int .u32 m] w fun e w' => e = .returned (.bool true) ∧ Up w w' := by
  have hB : Hid (AccAt ((w.alloc (.cells (ints .u64 xs).toArray 40)).alloc (.cells (ints .u64 ys).toArray 40)) (w.heap.size + 1) ys) := by
    have := AccAt.box (w.alloc (.cells (ints .u64 xs).toArray 40)) k
    show AccAt _ _ _
    simpa using this
  have hu : Hid (Up w ((w.alloc (.cells (ints .u64 xs).toArray 40)).alloc (.cells (ints .u64 ys).toArray 40))) := ((Up.refl w).alloc _).alloc _
  have c1 := within_any (w.heap.size + 1) m hm ys _ hB.out
  rw [hy] at c1
  have C1 : Hid (Calls Tabg.prog 24 #[.pointer (some ⟨w.heap.size + 1, 0, none⟩), .int .u32 m] ((w.alloc (.cells (ints .u64 xs).toArray 40)).alloc (.cells (ints .u64 ys).toArray 40)) fun e w' => e = .returned (.bool true) ∧ Up ((w.alloc (.cells (ints .u64 xs).toArray 40)).alloc (.cells (ints .u64 ys).toArray 40)) w') := c1
  have hsI : (4294967296 : Int) ≤ (n : Int) + (m : Int) := by omega
  have hnI : (n : Int) < 4294967296 := by omega
  have hmI : (m : Int) < 4294967296 := by omega
  have hn0 : (0 : Int) ≤ (n : Int) := by omega
  have hm0 : (0 : Int) ≤ (m : Int) := by omega
  have w1 : IntKind.u64.wrap ((n : Int) + (m : Int)) = (n : Int) + (m : Int) := by rw [IntKind.wrap_u64]; omega
  clear c1 hy h k hs
  unfold accV
  go_enter Tabg.func35, Tabg.ntmps35
  go_wp2_with (fail)
  refine Calls.mono C1.out ?_
  rintro e w1 ⟨rfl, hu1⟩
  have HU1 : Hid (Up w w1) := hu.out.trans hu1
  clear hu1 C1 hu hB
  go_wp2
  go_ret
  exact ⟨rfl, HU1.out⟩

set_option maxRecDepth 100000 in
set_option maxHeartbeats 1600000 in
theorem addStays_near (n m : Nat) (xs ys : List Int) (h : Row xs) (k : Row ys) (hx : inB n (sv (num xs)) = true) (hy : inB m (sv (num ys)) = true) (hs : n + m < 4294967296) (w : World) :
    Calls Tabg.prog 35 #[accV xs, accV ys, .int .u32 n, .int .u32 m] w fun e w' => e = .returned (.bool true) ∧ Up w w' := by
  have hA : Hid (AccAt ((w.alloc (.cells (ints .u64 xs).toArray 40)).alloc (.cells (ints .u64 ys).toArray 40)) w.heap.size xs) := AccAt.up (AccAt.box w h) ((Up.refl _).alloc _)
  have hB : Hid (AccAt ((w.alloc (.cells (ints .u64 xs).toArray 40)).alloc (.cells (ints .u64 ys).toArray 40)) (w.heap.size + 1) ys) := by
    have := AccAt.box (w.alloc (.cells (ints .u64 xs).toArray 40)) k
    show AccAt _ _ _
    simpa using this
  have hu : Hid (Up w ((w.alloc (.cells (ints .u64 xs).toArray 40)).alloc (.cells (ints .u64 ys).toArray 40))) := ((Up.refl w).alloc _).alloc _
  have c1 := within_any (w.heap.size + 1) m (by omega) ys _ hB.out
  rw [hy] at c1
  have C1 : Hid (Calls Tabg.prog 24 #[.pointer (some ⟨w.heap.size + 1, 0, none⟩), .int .u32 m] ((w.alloc (.cells (ints .u64 xs).toArray 40)).alloc (.cells (ints .u64 ys).toArray 40)) fun e w' => e = .returned (.bool true) ∧ Up ((w.alloc (.cells (ints .u64 xs).toArray 40)).alloc (.cells (ints .u64 ys).toArray 40)) w') := c1
  have HS : Hid (n + m < 4294967296 ∧ inB n (sv (num xs)) = true ∧ inB m (sv (num ys)) = true ∧ Row xs ∧ Row ys) := ⟨hs, hx, hy, h, k⟩
  have hsI : ¬ (4294967296 : Int) ≤ (n : Int) + (m : Int) := by omega
  have hsD : decide ((4294967296 : Int) ≤ (n : Int) + (m : Int)) = false := decide_eq_false hsI
  have hnI : (n : Int) < 4294967296 := by omega
  have hmI : (m : Int) < 4294967296 := by omega
  have hn0 : (0 : Int) ≤ (n : Int) := by omega
  have hm0 : (0 : Int) ≤ (m : Int) := by omega
  have w1 : IntKind.u64.wrap ((n : Int) + (m : Int)) = (n : Int) + (m : Int) := by rw [IntKind.wrap_u64]; omega
  have w2 : IntKind.u32.wrap ((n : Int) + (m : Int)) = ((n + m : Nat) : Int) := by rw [IntKind.wrap_u32]; omega
  clear c1 hy hx h k hs
  unfold accV
  go_enter Tabg.func35, Tabg.ntmps35
  go_wp2_with (fail)
  refine Calls.mono C1.out ?_
  rintro e w1 ⟨rfl, hu1⟩
  have HU1 : Hid (Up w w1) := hu.out.trans hu1
  have HA1 : Hid (AccAt w1 w.heap.size xs) := AccAt.up hA.out hu1
  have HB1 : Hid (AccAt w1 (w.heap.size + 1) ys) := AccAt.up hB.out hu1
  clear hu1 C1 hu hB hA
  have hZ : Hid (AccAt (w1.alloc (.cells Tabg.zeroCells40 40)) w1.heap.size (List.replicate 68 0)) := AccAt.zero' w1
  have HC : Hid (AccAt (setAcc (w1.alloc (.cells Tabg.zeroCells40 40)) w1.heap.size xs) w1.heap.size xs) := AccAt.setAcc hZ.out HS.out.2.2.2.1.1 HS.out.2.2.2.1.2
  have HU2 : Hid (Up w1 (setAcc (w1.alloc (.cells Tabg.zeroCells40 40)) w1.heap.size xs)) := Up.ofMod ((Up.refl w1).alloc _) ((Mod.refl _ _).setAcc xs) (Nat.le_refl _)
  go_wp2_with (first | (refine wpList_load40 rfl _ rfl w.heap.size rfl xs HA1.out ?_) | (refine wpList_store40 rfl _ _ rfl w1.heap.size rfl xs rfl HS.out.2.2.2.1.1 _ hZ.out ?_))
  have hlt : Hid (w.heap.size + 1 < w1.heap.size) := AccAt.lt HB1.out
  generalize setAcc (w1.alloc (.cells Tabg.zeroCells40 40)) w1.heap.size xs = W2 at *
  generalize hb9 : w1.heap.size = b9 at *
  have HA2 : Hid (AccAt W2 w.heap.size xs) := AccAt.up HA1.out HU2.out
  have HB2 : Hid (AccAt W2 (w.heap.size + 1) ys) := AccAt.up HB1.out HU2.out
  refine (accAdd_any b9 (w.heap.size + 1) xs ys W2 HC.out HB2.out (by have := hlt.out; omega)).mono ?_
  rintro e w3 ⟨rfl, hm3, zs, hz, hzv⟩
  have HZ : Hid (AccAt w3 b9 zs) := hz
  have HA3 : Hid (AccAt w3 w.heap.size xs) := AccAt.mod HA2.out hm3 (by have := hlt.out; omega)
  have HB3 : Hid (AccAt w3 (w.heap.size + 1) ys) := AccAt.mod HB2.out hm3 (by have := hlt.out; omega)
  have HU3 : Hid (Up w w3) := Up.ofMod (HU1.out.trans HU2.out) hm3 (by have := hlt.out; omega)
  have hval := sv_add (AccAt.range HA3.out).1 (AccAt.range HA3.out).2 HS.out.2.2.1 HS.out.2.1 HS.out.1
  have hre : (num xs + num ys) % W ^ 68 = (num xs + sv (num ys)) % W ^ 68 := by
    conv => lhs; rw [num_sv (AccAt.range HB3.out).1 (AccAt.range HB3.out).2, Int.add_emod_emod]
  rw [← hre, ← hzv] at hval
  have HV : Hid (sv (num zs) = sv (num xs) + sv (num ys) ∧ inB (n + m) (sv (num zs)) = true) := ⟨hval.1, by rw [hval.1]; exact hval.2⟩
  clear hz hm3 hzv hval hre HB2 HA2 HU2 HC hZ HA1 HB1 HU1 hb9
  go_wp2_with (first | (refine wpList_load40 rfl _ rfl b9 rfl zs HZ.out ?_))
  have c4 := stays_any (n + m) HS.out.1 zs (AccAt.row HZ.out) w3
  rw [HV.out.2] at c4
  refine c4.mono ?_
  rintro e w4 ⟨rfl, hu4⟩
  have HZ4 : Hid (AccAt w4 b9 zs) := AccAt.up HZ.out hu4
  have HA4 : Hid (AccAt w4 w.heap.size xs) := AccAt.up HA3.out hu4
  have HB4 : Hid (AccAt w4 (w.heap.size + 1) ys) := AccAt.up HB3.out hu4
  have HU4 : Hid (Up w w4) := HU3.out.trans hu4
  clear hu4 c4 HZ HA3 HB3 HU3
  go_wp2_with (fail)
  have c5 := accCmp_any b9 w.heap.size zs xs w4 HZ4.out HA4.out
  rw [HV.out.1, show sv (num xs) + sv (num ys) - sv (num xs) = sv (num ys) by omega] at c5
  refine c5.mono ?_
  rintro e w5 ⟨rfl, hu5⟩
  have HB5 : Hid (AccAt w5 (w.heap.size + 1) ys) := AccAt.up HB4.out hu5
  have HU5 : Hid (Up w w5) := HU4.out.trans hu5
  clear hu5 c5 HZ4 HA4 HB4 HU4
  go_wp2_with (fail)
  refine (accSign_any (w.heap.size + 1) ys w5 HB5.out).mono ?_
  rintro e w6 ⟨rfl, rfl⟩
  clear HB5 HV HS
  generalize sgn (sv (num ys)) = g at *
  go_wp2
  go_ret
  exact ⟨rfl, HU5.out⟩

theorem addStays_any (n m : Nat) (hn : n < 4294967296) (hm : m < 4294967296) (xs ys : List Int) (h : Row xs) (k : Row ys) (hx : inB n (sv (num xs)) = true) (hy : inB m (sv (num ys)) = true) (w : World) :
    Calls Tabg.prog 35 #[accV xs, accV ys, .int .u32 n, .int .u32 m] w fun e w' => e = .returned (.bool true) ∧ Up w w' := by
  by_cases hs : n + m < 4294967296
  · exact addStays_near n m xs ys h k hx hy hs w
  · exact addStays_far n m hn hm xs ys h k hy (by omega) w
end Go.Proofs.Ygctab
