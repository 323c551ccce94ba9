import Derived.Test.YgctabNttH
namespace Go.Proofs.Ygctab
open Go.RowKit
set_option linter.unusedVariables false

theorem mask_pow (a n k : Nat) (hn : n = 2 ^ k) : a &&& (n - 1) = a % n := by rw [hn]; exact Nat.and_two_pow_sub_one_eq_mod a k

set_option maxRecDepth 100000 in
set_option maxHeartbeats 1600000 in
theorem dft_yes (bx k : Nat) (xs : List Int) (w : World) (hx : Own w bx 78 (ints .u32 xs)) (hk : k ≤ 11) (hxk : Hid (xs.length = 2 ^ k)) (h1 : In1 xs) :
    Calls Tabg.prog 59 #[.slice (some ⟨bx, 0, none⟩) xs.length xs.length] w fun e w' => ∃ (B : Nat) (ys : List Int),
      e = .returned (.slice (some ⟨B, 0, none⟩) xs.length xs.length) ∧ Up w w' ∧ ys.length = xs.length ∧ In1 ys ∧ Own w' B 78 (ints .u32 ys) := by
  have hxl : xs.length ≤ 2048 := by rw [hxk.out]; exact Nat.pow_le_pow_right (by decide) hk
  have hx0 : 0 < xs.length := by rw [hxk.out]; exact Nat.pow_pos (by decide)
  have cL := level_pow k xs.length hk hxk.out
  have cB := nBelow (some ⟨bx, 0, none⟩) xs.length xs.length xs w hx.rd (by unfold maxLen; omega)
  have hk0 : (0 : Int) ≤ (k : Int) := by omega
  have hk1 : (k : Int) ≤ 11 := by omega
  rw [below_of_in1 h1] at cB
  have hR := rootK_range k
  have cR : ∀ w : World, Calls Tabg.prog 117 #[.int .u8 k] w fun e w' => e = .returned (.int .u32 (rootK k)) ∧ w' = w := fun w => root_any k w hk
  have cW := powers_any (rootK k) xs.length w hR.1 hR.2 hxl
  have hmk := fun w => run_make_row' (P := Tabg.prog) 82 78 (.int .u32 0) 4 Tabg.underlying82 (by kernel_rfl) rfl .i64 .i64 xs.length (by omega) (by omega) w
  go_enter Tabg.func59, Tabg.ntmps59
  go_wp2_with (first | (go_at_call 115; refine (fl (cL _)).mono ?_; rintro e w' ⟨rfl, rfl⟩) | (go_at_call 55; refine (fl cB).mono ?_; rintro e w' ⟨rfl, rfl⟩) | (go_at_call 117; refine (fl (cR _)).mono ?_; rintro e w' ⟨rfl, rfl⟩) | (go_at_call 121; refine cW.mono ?_; rintro e w1 ⟨rfl, hU1, hW1⟩))
  have hO := Own.made w1 78 (.int .u32 0) xs.length
  rw [ints_replicate] at hO
  have hWl := powsN_length (rootK k) xs.length
  have hW1' : In1 (powsN (rootK k) xs.length) := by
    intro y hy
    obtain ⟨j, _, rfl⟩ := List.mem_map.1 hy
    omega
  generalize powsN (rootK k) xs.length = ws at *
  have HWL : Hid (ws.length = xs.length) := hWl
  clear hWl cL cB cR cW hk0 hk1
  have hW2 := hW1.alloc (.cells (madeCells #[.int .u32 0] xs.length) 78)
  have hx2 := (hx.up hU1).alloc (.cells (madeCells #[.int .u32 0] xs.length) 78)
  have hbx := hx.lt
  have hbw := hW1.lt
  go_loopw [7] (fun t wr => ∃ (j : Nat) (ys : List Int), t = .int .i64 j ∧ j ≤ xs.length ∧ Up w wr ∧ Hid (ys.length = xs.length) ∧ In1 ys ∧ Own wr w1.heap.size 78 (ints .u32 ys) ∧ Own wr w.heap.size 78 (ints .u32 ws) ∧ Own wr bx 78 (ints .u32 xs)) (fun t _ => xs.length - (intOf t).toNat)
  case atStart =>
    refine ⟨0, _, rfl, by omega, hU1.alloc _, ?_, ?_, hO, hW2, hx2⟩
    · show _ = _; simp
    · intro y hy
      rw [List.eq_of_mem_replicate hy]; decide
  case round =>
    clear hO hW2 hx2 hW1 hU1 hx
    obtain ⟨j, ys, rfl, hj, hU, HY, h1y, ho, hw, hx⟩ := hrel
    by_cases hlt : j < xs.length
    · have hone : ((1 : Int)) ≤ (xs.length : Int) := by omega
      go_wp2
      obtain ⟨wo, rfl⟩ : ∃ wo : World, wo = wr := ⟨_, rfl⟩
      go_loopw [8, 9, 10] (fun s t u wr => ∃ (z : Int) (at' i : Nat), s = .int .u32 z ∧ t = .int .i64 at' ∧ u = .int .i64 i ∧ 0 ≤ z ∧ z < 998244353 ∧ at' < xs.length ∧ i ≤ xs.length ∧ Up w wr ∧ Own wr w1.heap.size 78 (ints .u32 ys) ∧ Own wr w.heap.size 78 (ints .u32 ws) ∧ Own wr bx 78 (ints .u32 xs)) (fun _ _ u _ => xs.length - (intOf u).toNat)
      case atStart => exact ⟨0, 0, 0, rfl, rfl, rfl, by decide, by decide, hx0, by omega, hU, ho, hw, hx⟩
      case round =>
        clear hU ho hw hx
        obtain ⟨z, at', i, rfl, rfl, rfl, hz, hz', hat, hi, hU, ho, hw, hx⟩ := hrel
        by_cases hil : i < xs.length
        · have x0 := h1.at i
          have w0 := hW1'.at at'
          have e0 : wr.cell? ⟨bx, i, none⟩ = some (.int .u32 (xs[i]?.getD 0)) := hx.int hil
          have e1 : wr.cell? ⟨w.heap.size, at', none⟩ = some (.int .u32 (ws[at']?.getD 0)) := hw.int (by rw [HWL.out]; exact hat)
          have hiI : (i : Int) < (xs.length : Int) := by omega
          have hatI : (at' : Int) < (xs.length : Int) := by omega
          generalize xs[i]?.getD 0 = a at *
          generalize ws[at']?.getD 0 = b at *
          have cM := fun w : World => mulMod a b w x0.1 (by omega) w0.1 (by omega)
          have hr : 0 ≤ a * b % 998244353 := by omega
          have hr' : a * b % 998244353 < 4294967296 := by omega
          have cA := fun w : World => addMod z (a * b % 998244353) w hz (by omega) hr hr'
          obtain ⟨y, hy⟩ : ∃ y, y = (at' + j) % xs.length := ⟨_, rfl⟩
          have hbits := i64_and (at' + j) (xs.length - 1) (by omega) (by omega)
          rw [mask_pow _ _ k hxk.out, ← hy] at hbits
          have hpos : y < xs.length := by rw [hy]; exact Nat.mod_lt _ hx0
          have ec : ((xs.length - 1 : Nat) : Int) = (xs.length : Int) - 1 := by omega
          have ec2 : ((at' + j : Nat) : Int) = (at' : Int) + (j : Int) := by omega
          rw [ec, ec2] at hbits
          clear ec ec2 hy
          go_upto_region 13 with fail
          go_quiet (first | (go_at_call 50; exact Calls.quiet_of_same (cM _)) | (go_at_call 48; exact Calls.quiet_of_same (cA _)))
          go_wp2
          go_roundw
          case rel => exact ⟨_, y, i + 1, rfl, rfl, by go_num, by omega, by omega, hpos, by omega, hU.drewN _, ho.drewN _, hw.drewN _, hx.drewN _⟩
          case measure => simp [intOf]; omega
        · have y0 : wr.cell? ⟨w1.heap.size, j, none⟩ = some (.int .u32 (ys[j]?.getD 0)) := ho.int (by rw [HY.out]; exact hlt)
          have f0 := ho.free j
          go_wp2
          go_roundw
          case rel =>
            have n1 : w.heap.size ≠ w1.heap.size := by omega
            have n2 : bx ≠ w1.heap.size := by omega
            refine ⟨j + 1, _, by go_num, by omega, hU.setCell (by show _ ≤ w1.heap.size; omega) _, ?_, ?_, ho.setInt j z, hw.other n1 _, hx.other n2 _⟩
            · show _ = _; rw [List.length_set]; exact HY.out
            · intro y hy
              rcases List.mem_or_eq_of_mem_set hy with h | h
              · exact h1y y h
              · subst h; exact ⟨hz, hz'⟩
          case measure => simp [intOf]; omega
    · go_wp2
      go_ret
      exact ⟨_, ys, rfl, hU, HY.out, h1y, ho⟩
end Go.Proofs.Ygctab
