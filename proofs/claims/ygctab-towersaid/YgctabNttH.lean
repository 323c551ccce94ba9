import Derived.Test.YgctabNttG
namespace Go.Proofs.Ygctab
open Go.RowKit
set_option linter.unusedVariables false

/-- The first n powers of v. -/
def powsN (v : Int) (n : Nat) : List Int := (List.range n).map (fun i => v ^ i % 998244353)
theorem powsN_length (v : Int) (n : Nat) : (powsN v n).length = n := by simp [powsN]

set_option maxRecDepth 100000 in
set_option maxHeartbeats 800000 in
theorem powers_any (v : Int) (n : Nat) (w : World) (hv : 0 ≤ v) (hv' : v < 998244353) (hn : n ≤ 2048) :
    Calls Tabg.prog 121 #[.int .u32 v, .int .i64 n] w fun e w' => e = .returned (.slice (some ⟨w.heap.size, 0, none⟩) n n) ∧ Up w w' ∧ Own w' w.heap.size 78 (ints .u32 (powsN v n)) := by
  have hmk := fun w => run_make_row' (P := Tabg.prog) 82 78 (.int .u32 0) 4 Tabg.underlying82 (by kernel_rfl) rfl .i64 .i64 n (by omega) (by omega) w
  have hO := Own.made w 78 (.int .u32 0) n
  rw [ints_replicate] at hO
  go_enter Tabg.func121, Tabg.ntmps121
  go_wp2_with (go_at_call 118; refine (factorOf' _ _ hv hv').mono ?_; rintro e w' ⟨rfl, q, rfl⟩)
  have hO1 := (hO.alloc (Obj.cells q 147)).alloc (Obj.cells #[Value.int IntKind.u32 v, Value.int IntKind.u32 (rat v)] 147)
  have hB1 : Own (((w.alloc (Obj.cells (madeCells #[Value.int IntKind.u32 0] n) 78)).alloc (Obj.cells q 147)).alloc (Obj.cells #[Value.int IntKind.u32 v, Value.int IntKind.u32 (rat v)] 147)) (w.heap.size + 1 + 1) 147 [.int .u32 v, .int .u32 (rat v)] := by
    have := Own.new ((w.alloc (Obj.cells (madeCells #[Value.int IntKind.u32 0] n) 78)).alloc (Obj.cells q 147)) 147 #[Value.int IntKind.u32 v, Value.int IntKind.u32 (rat v)]
    simpa using this
  go_loopw [7, 8] (fun s t wr => ∃ (i : Nat) (u : Int), t = .int .i64 i ∧ s = .int .u32 u ∧ i ≤ n ∧ 0 ≤ u ∧ u < 998244353 ∧ Hid (u = v ^ i % 998244353) ∧ Up w wr ∧ Own wr w.heap.size 78 (ints .u32 (fill v i (List.replicate n 0))) ∧ Own wr (w.heap.size + 1 + 1) 147 [.int .u32 v, .int .u32 (rat v)]) (fun _ t _ => n - (intOf t).toNat)
  case atStart => exact ⟨0, 1, rfl, rfl, by omega, by decide, by decide, by show _ = _; rw [Int.pow_zero]; decide, (((Up.refl w).alloc _).alloc _).alloc _, hO1, hB1⟩
  case round =>
    clear hO1 hB1 hO
    obtain ⟨i, u, rfl, rfl, hi, hu, hu', Hu, hU, ho, hby⟩ := hrel
    by_cases hlt : i < n
    · have hfl : (fill v i (List.replicate n 0)).length = n := by rw [fill_length _ _ _ (by simpa using hi)]; simp
      have g0 : wr.cell? ⟨w.heap.size + 1 + 1, 0, none⟩ = some (.int .u32 v) := by rw [hby.cell]; rfl
      have g1 : wr.cell? ⟨w.heap.size + 1 + 1, 1, none⟩ = some (.int .u32 (rat v)) := by rw [hby.cell]; rfl
      have g2 : wr.cell? ⟨w.heap.size, i, none⟩ = some (.int .u32 ((fill v i (List.replicate n 0))[i]?.getD 0)) := ho.int (by omega)
      have f2 := ho.free i
      have hb1 := ho.lt
      have hb2 := hby.lt
      have hT := tms_range v u hv hv' hu (by omega)
      have hne : ¬ (w.heap.size + 1 + 1 = w.heap.size) := by omega
      have cF : ∀ w : World, Calls Tabg.prog 119 #[.int .u32 (tms v u)] w fun e w' => e = .returned (.int .u32 (v ^ (i + 1) % 998244353)) ∧ w' = w := fun w => by
        have := fold (tms v u) w hT.1 hT.2
        have e := tms_pow v v 1 i (by rw [Int.pow_succ, Int.pow_zero, Int.one_mul]; omega)
        rw [← Hu.out, Nat.add_comm] at e
        rwa [e] at this
      have cT := fun w : World => times' v u w hv hv' hu (by omega)
      clear hfl
      go_wp2_with (first | (go_at_call 120; refine (cT _).mono ?_; rintro e w' ⟨rfl, q1, rfl⟩) | (go_at_call 119; refine (cF _).mono ?_; rintro e w' ⟨rfl, rfl⟩))
      go_roundw
      case rel =>
        refine ⟨i + 1, _, by go_num, rfl, by omega, by omega, by omega, rfl, (hU.setCell (Nat.le_refl _) _).alloc _, ?_, ?_⟩
        · have := (ho.setInt i u).alloc (Obj.cells q1 147)
          rw [Hu.out, fill_set v i _ (by simpa using hlt)] at this
          rw [Hu.out]
          exact this
        · exact (hby.other hne _).alloc _
      case measure => simp [intOf]; omega
    · go_wp2
      go_ret
      obtain rfl : i = n := by omega
      refine ⟨rfl, hU, ?_⟩
      have e : fill v i (List.replicate i 0) = powsN v i := by simp [fill, powsN]
      rw [e] at ho
      exact ho

/-- Every entry a word. -/
def Word32 (xs : List Int) : Prop := ∀ x ∈ xs, 0 ≤ x ∧ x < 4294967296
theorem in1_of_below {xs : List Int} (h : Word32 xs) (hb : belowB xs = true) : In1 xs := by
  intro x hx
  have := List.all_eq_true.1 hb x hx
  exact ⟨(h x hx).1, by simpa using this⟩
theorem below_of_in1 {xs : List Int} (h : In1 xs) : belowB xs = true := by
  apply List.all_eq_true.2
  intro x hx
  simpa using (h x hx).2

/-- The root of order 2^k, and what Forward, Inverse make of a vector that is Below. -/
def rootK (k : Nat) : Int := (3 : Int) ^ (998244352 / 2 ^ k) % 998244353
theorem rootK_range (k : Nat) : 0 ≤ rootK k ∧ rootK k < 998244353 := by unfold rootK; omega
def invP (a : Int) : Int := a ^ 998244351 % 998244353
theorem invP_range (a : Int) : 0 ≤ invP a ∧ invP a < 998244353 := by unfold invP; omega
def forwardL (k : Nat) (xs : List Int) : List Int := transL k (rootK k) xs
def scaleL (f : Int) (xs : List Int) : List Int := xs.map (fun x => x * f % 998244353)
def inverseL (k : Nat) (xs : List Int) : List Int := scaleL (invP xs.length) (transL k (invP (rootK k)) xs)

theorem level_pow (k n : Nat) (hk : k ≤ 11) (hn : n = 2 ^ k) (w : World) : Calls Tabg.prog 115 #[.int .i64 n] w fun e w' => e = .returned (.int .i64 k) ∧ w' = w :=
  have hl : n ≤ 2048 := by rw [hn]; exact Nat.pow_le_pow_right (by decide) hk
  (level n w (by omega)).mono (by
    rintro e w' (⟨j, hj, ej, rfl, rfl⟩ | ⟨hj, _⟩)
    · rw [hn] at ej
      have : k = j := (Nat.pow_right_inj (by decide)).1 ej
      subst this
      exact ⟨rfl, rfl⟩
    · exact absurd hn (hj k hk))

set_option maxHeartbeats 800000 in
theorem forward_yes (bx k : Nat) (xs : List Int) (w : World) (hx : Own w bx 78 (ints .u32 xs)) (hk : k ≤ 11) (hxk : Hid (xs.length = 2 ^ k)) (h1 : In1 xs) :
    Calls Tabg.prog 57 #[.slice (some ⟨bx, 0, none⟩) xs.length xs.length] w fun e w' =>
      e = .returned (.bool true) ∧ Mod bx w w' ∧ Own w' bx 78 (ints .u32 (forwardL k xs)) := by
  have hxl : xs.length ≤ 2048 := by rw [hxk.out]; exact Nat.pow_le_pow_right (by decide) hk
  have cL := level_pow k xs.length hk hxk.out
  have cB := nBelow (some ⟨bx, 0, none⟩) xs.length xs.length xs w hx.rd (by unfold maxLen; omega)
  have hk0 : (0 : Int) ≤ (k : Int) := by omega
  have hk1 : (k : Int) ≤ 11 := by omega
  rw [below_of_in1 h1] at cB
  have hR := rootK_range k
  have cT := transform_any bx k xs (rootK k) w hx hk hxk h1 hR.1 hR.2
  have cR : ∀ w : World, Calls Tabg.prog 117 #[.int .u8 k] w fun e w' => e = .returned (.int .u32 (rootK k)) ∧ w' = w := fun w => root_any k w hk
  go_enter Tabg.func57, Tabg.ntmps57
  go_wp2_with (first | (go_at_call 115; refine (cL _).mono ?_; rintro e w' ⟨rfl, rfl⟩) | (go_at_call 55; refine cB.mono ?_; rintro e w' ⟨rfl, rfl⟩) | (go_at_call 117; refine (cR _).mono ?_; rintro e w' ⟨rfl, rfl⟩) | (go_at_call 116; refine cT.mono ?_; rintro e w' ⟨rfl, hm, ho⟩))
  go_ret
  exact ⟨rfl, hm, ho⟩

set_option maxHeartbeats 800000 in
theorem forward_no (bx k : Nat) (xs : List Int) (w : World) (hx : Own w bx 78 (ints .u32 xs)) (hk : k ≤ 11) (hxk : Hid (xs.length = 2 ^ k)) (hb : belowB xs = false) :
    Calls Tabg.prog 57 #[.slice (some ⟨bx, 0, none⟩) xs.length xs.length] w fun e w' => e = .returned (.bool false) ∧ w' = w := by
  have hxl : xs.length ≤ 2048 := by rw [hxk.out]; exact Nat.pow_le_pow_right (by decide) hk
  have cL := level_pow k xs.length hk hxk.out
  have cB := nBelow (some ⟨bx, 0, none⟩) xs.length xs.length xs w hx.rd (by unfold maxLen; omega)
  have hk0 : (0 : Int) ≤ (k : Int) := by omega
  rw [hb] at cB
  go_enter Tabg.func57, Tabg.ntmps57
  go_wp2_with (first | (go_at_call 115; refine (cL _).mono ?_; rintro e w' ⟨rfl, rfl⟩) | (go_at_call 55; refine cB.mono ?_; rintro e w' ⟨rfl, rfl⟩))
  go_ret
  exact ⟨rfl, rfl⟩

set_option maxHeartbeats 800000 in
theorem inverse_no (bx k : Nat) (xs : List Int) (w : World) (hx : Own w bx 78 (ints .u32 xs)) (hk : k ≤ 11) (hxk : Hid (xs.length = 2 ^ k)) (hb : belowB xs = false) :
    Calls Tabg.prog 58 #[.slice (some ⟨bx, 0, none⟩) xs.length xs.length] w fun e w' => e = .returned (.bool false) ∧ w' = w := by
  have hxl : xs.length ≤ 2048 := by rw [hxk.out]; exact Nat.pow_le_pow_right (by decide) hk
  have cL := level_pow k xs.length hk hxk.out
  have cB := nBelow (some ⟨bx, 0, none⟩) xs.length xs.length xs w hx.rd (by unfold maxLen; omega)
  have hk0 : (0 : Int) ≤ (k : Int) := by omega
  rw [hb] at cB
  go_enter Tabg.func58, Tabg.ntmps58
  go_wp2_with (first | (go_at_call 115; refine (cL _).mono ?_; rintro e w' ⟨rfl, rfl⟩) | (go_at_call 55; refine cB.mono ?_; rintro e w' ⟨rfl, rfl⟩))
  go_ret
  exact ⟨rfl, rfl⟩

set_option maxHeartbeats 800000 in
theorem dft_no (bx k : Nat) (xs : List Int) (w : World) (hx : Own w bx 78 (ints .u32 xs)) (hk : k ≤ 11) (hxk : Hid (xs.length = 2 ^ k)) (hb : belowB xs = false) :
    Calls Tabg.prog 59 #[.slice (some ⟨bx, 0, none⟩) xs.length xs.length] w fun e w' => e = .returned (.slice none 0 0) ∧ w' = w := by
  have hxl : xs.length ≤ 2048 := by rw [hxk.out]; exact Nat.pow_le_pow_right (by decide) hk
  have cL := level_pow k xs.length hk hxk.out
  have cB := nBelow (some ⟨bx, 0, none⟩) xs.length xs.length xs w hx.rd (by unfold maxLen; omega)
  have hk0 : (0 : Int) ≤ (k : Int) := by omega
  rw [hb] at cB
  go_enter Tabg.func59, Tabg.ntmps59
  go_wp2_with (first | (go_at_call 115; refine (cL _).mono ?_; rintro e w' ⟨rfl, rfl⟩) | (go_at_call 55; refine cB.mono ?_; rintro e w' ⟨rfl, rfl⟩))
  go_ret
  exact ⟨rfl, rfl⟩

theorem invMod' (a : Int) (w : World) (h0 : 0 ≤ a) (h1 : a < 4294967296) :
    Calls Tabg.prog 52 #[.int .u32 a] w fun r w' => r = .returned (.int .u32 (invP a)) ∧ w' = w := invMod a w h0 h1

/-- A contract that leaves the world as it was, the other way round: the name of the world that was stays. -/
theorem fl {P : Program} {f : FuncId} {args : Array Value} {w : World} {r : Ending} (h : Calls P f args w fun e w' => e = r ∧ w' = w) : Calls P f args w fun e w' => e = r ∧ w = w' := h.mono (fun _ _ h => ⟨h.1, h.2.symm⟩)

theorem scale_set {xs : List Int} {i : Nat} {f : Int} (hi : i < xs.length) : (scaleL f (xs.take i) ++ xs.drop i).set i (xs[i]?.getD 0 * f % 998244353) = scaleL f (xs.take (i + 1)) ++ xs.drop (i + 1) := by
  have hm : min i xs.length = i := Nat.min_eq_left (Nat.le_of_lt hi)
  unfold scaleL
  rw [List.set_append_right _ _ (by simp [hm]), List.take_succ_eq_append_getElem hi, List.map_append, List.append_assoc]
  congr 1
  rw [List.drop_eq_getElem_cons hi]
  simp only [List.length_map, List.length_take, hm, Nat.sub_self, List.set_cons_zero, List.getElem?_eq_getElem hi, Option.getD_some, List.map_cons, List.map_nil, List.cons_append, List.nil_append]

set_option maxRecDepth 100000 in
set_option maxHeartbeats 1600000 in
theorem inverse_yes (bx k : Nat) (xs : List Int) (w : World) (hx : Own w bx 78 (ints .u32 xs)) (hk : k ≤ 11) (hxk : Hid (xs.length = 2 ^ k)) (h1 : In1 xs) :
    Calls Tabg.prog 58 #[.slice (some ⟨bx, 0, none⟩) xs.length xs.length] w fun e w' =>
      e = .returned (.bool true) ∧ Mod bx w w' ∧ Own w' bx 78 (ints .u32 (inverseL k xs)) := by
  have hxl : xs.length ≤ 2048 := by rw [hxk.out]; exact Nat.pow_le_pow_right (by decide) hk
  have cL := level_pow k xs.length hk hxk.out
  have cB := nBelow (some ⟨bx, 0, none⟩) xs.length xs.length xs w hx.rd (by unfold maxLen; omega)
  have hk0 : (0 : Int) ≤ (k : Int) := by omega
  have hk1 : (k : Int) ≤ 11 := by omega
  rw [below_of_in1 h1] at cB
  have hR := rootK_range k
  have hI := invP_range (rootK k)
  have hF := invP_range xs.length
  have cI := fun w : World => invMod' (rootK k) w hR.1 (by omega)
  have cI2 := fun w : World => invMod' xs.length w (by omega) (by omega)
  have cT := transform_any bx k xs (invP (rootK k)) w hx hk hxk h1 hI.1 hI.2
  have cR : ∀ w : World, Calls Tabg.prog 117 #[.int .u8 k] w fun e w' => e = .returned (.int .u32 (rootK k)) ∧ w' = w := fun w => root_any k w hk
  have cF := fun w : World => factorOf' (invP xs.length) w hF.1 hF.2
  go_enter Tabg.func58, Tabg.ntmps58
  go_wp2_with (first | (go_at_call 115; refine (fl (cL _)).mono ?_; rintro e w' ⟨rfl, rfl⟩) | (go_at_call 55; refine (fl cB).mono ?_; rintro e w' ⟨rfl, rfl⟩) | (go_at_call 117; refine (fl (cR _)).mono ?_; rintro e w' ⟨rfl, rfl⟩) | (go_at_call 52; refine (fl (cI _)).mono ?_; rintro e w' ⟨rfl, rfl⟩) | (go_at_call 52; refine (fl (cI2 _)).mono ?_; rintro e w' ⟨rfl, rfl⟩) | (go_at_call 116; refine cT.mono ?_; rintro e w' ⟨rfl, hm, ho⟩) | (go_at_call 118; refine (cF _).mono ?_; rintro e w' ⟨rfl, q, rfl⟩))
  have h1t := transL_in k (invP (rootK k)) xs
  have htl := transL_length k (invP (rootK k)) xs
  have HI : Hid (inverseL k xs = scaleL (invP xs.length) (transL k (invP (rootK k)) xs)) := rfl
  clear cL cB cI cI2 cT cR cF hk0 hk1
  generalize transL k (invP (rootK k)) xs = ts at *
  generalize invP (xs.length : Int) = f at *
  have HTL : Hid (ts.length = xs.length) := htl
  clear htl
  obtain ⟨B, hB⟩ : ∃ B, B = w'.heap.size + 1 := ⟨_, rfl⟩
  have hBy : Own ((w'.alloc (Obj.cells q 147)).alloc (Obj.cells #[Value.int IntKind.u32 f, Value.int IntKind.u32 (rat f)] 147)) (w'.heap.size + 1) 147 [.int .u32 f, .int .u32 (rat f)] := by
    have := Own.new (w'.alloc (Obj.cells q 147)) 147 #[Value.int IntKind.u32 f, Value.int IntKind.u32 (rat f)]
    simpa using this
  have hob := ho.lt
  rw [← hB] at hBy ⊢
  have hBb : bx ≠ B := by omega
  clear hB
  go_loopw [6] (fun t wr => ∃ i : Nat, t = .int .i64 i ∧ i ≤ xs.length ∧ Mod bx w wr ∧ Own wr bx 78 (ints .u32 (scaleL f (ts.take i) ++ ts.drop i)) ∧ Own wr B 147 [.int .u32 f, .int .u32 (rat f)]) (fun t _ => xs.length - (intOf t).toNat)
  case atStart => exact ⟨0, rfl, by omega, hm.up (((Up.refl _).alloc _).alloc _), (ho.alloc _).alloc _, hBy⟩
  case round =>
    clear hm ho hBy hob
    obtain ⟨i, rfl, hi, hm, ho, hby⟩ := hrel
    by_cases hlt : i < xs.length
    · have hty := h1t.at i
      have tl := HTL.out
      have g0 : wr.cell? ⟨B, 0, none⟩ = some (.int .u32 f) := by rw [hby.cell]; rfl
      have g1 : wr.cell? ⟨B, 1, none⟩ = some (.int .u32 (rat f)) := by rw [hby.cell]; rfl
      have e0 : wr.cell? ⟨bx, i, none⟩ = some (.int .u32 (ts[i]?.getD 0)) := by
        rw [ho.int (by simp [scaleL]; omega), List.getElem?_append_right (by simp [scaleL]; omega)]
        simp [scaleL, Nat.min_eq_left (show i ≤ ts.length by omega)]
      have f0 := ho.free i
      have hb1 := ho.lt
      have hb2 := hby.lt
      have hT := tms_range f _ hF.1 hF.2 hty.1 (by omega)
      have cT := fun w : World => times' f (ts[i]?.getD 0) w hF.1 hF.2 hty.1 (by omega)
      have cF : ∀ w : World, Calls Tabg.prog 119 #[.int .u32 (tms f (ts[i]?.getD 0))] w fun e w' => e = .returned (.int .u32 (ts[i]?.getD 0 * f % 998244353)) ∧ w' = w := fun w => by
        have := fold _ w hT.1 hT.2
        rwa [tms_mod] at this
      have hiI : (i : Int) < (xs.length : Int) := by omega
      have hi0 : (0 : Int) ≤ (i : Int) := by omega
      clear tl
      go_upto_region 10 with fail
      go_region_with
        (first | (go_at_call 120; refine (cT _).mono ?_; rintro e w' ⟨rfl, q1, rfl⟩) | (go_at_call 119; refine (cF _).mono ?_; rintro e w' ⟨rfl, rfl⟩))
      all_goals
        go_wp2
        go_roundw
        case rel =>
          refine ⟨i + 1, by go_num, by omega, (hm.setCell _ _).up ((Up.refl _).alloc _).drew, ?_, ?_⟩
          · rw [← scale_set (by rw [HTL.out]; exact hlt)]
            exact ((ho.setInt i _).alloc _).drew
          · exact ((hby.other (Ne.symm hBb) _).alloc _).drew
        case measure => simp [intOf]; omega
    · go_wp2
      go_ret
      refine ⟨rfl, hm, ?_⟩
      rw [List.take_of_length_le (by rw [HTL.out]; omega), List.drop_eq_nil_of_le (by rw [HTL.out]; omega), List.append_nil] at ho
      rw [HI.out]
      exact ho
end Go.Proofs.Ygctab
