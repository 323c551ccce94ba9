import Derived.Test.YgctabCxC
namespace Go.Proofs.Ygctab
open Go.RowKit
set_option linter.unusedVariables false
set_option linter.unusedSimpArgs false

theorem flevel (n : Nat) (w : World) (hn : n ≤ 9223372036854775807) :
    Calls Tabg.prog 145 #[.int .i64 n] w fun e w' => (∃ k : Nat, k ≤ 11 ∧ n = 2 ^ k ∧ e = .returned (.int .i64 k) ∧ w' = w) ∨ ((∀ k, k ≤ 11 → n ≠ 2 ^ k) ∧ e = .returned (.int .i64 (-1)) ∧ w' = w) := by
  go_enter Tabg.func145, Tabg.ntmps145
  go_wp2
  go_loop [3] (fun i => ∃ k : Nat, k ≤ 12 ∧ i = .int .i64 k ∧ ∀ j, j < k → n ≠ 2 ^ j) (fun i => 12 - (intOf i).toNat)
  case atStart => exact ⟨0, Nat.zero_le _, rfl, fun j hj => absurd hj (Nat.not_lt_zero _)⟩
  case round =>
    obtain ⟨k, hk, rfl, hb⟩ := hrel
    have HB : Hid (∀ j, j < k → n ≠ 2 ^ j) := hb
    clear hb
    by_cases hlt : k ≤ 11
    · have hwp := wrap_pow k (by omega)
      go_wp2
      · go_ret
        have e : ((n : Int) == 2 ^ k) = true := by assumption
        have e' : (n : Int) = 2 ^ k := by simpa using e
        rw [← pow_cast] at e'
        exact .inl ⟨k, hlt, by omega, rfl, rfl⟩
      · go_round
        case rel =>
          have e : ((n : Int) == 2 ^ k) = false := by assumption
          have e' : (n : Int) ≠ 2 ^ k := by simpa using e
          rw [← pow_cast] at e'
          refine ⟨k + 1, by omega, by go_num, fun j hj => ?_⟩
          rcases Nat.lt_or_ge j k with h | h
          · exact HB.out j h
          · obtain rfl : j = k := by omega
            omega
        case measure => simp [intOf]; omega
    · go_wp2
      go_ret
      exact .inr ⟨fun j hj => HB.out j (by omega), rfl, rfl⟩


theorem flevel_pow (k n : Nat) (hk : k ≤ 11) (hn : n = 2 ^ k) (w : World) : Calls Tabg.prog 145 #[.int .i64 n] w fun e w' => e = .returned (.int .i64 k) ∧ w = w' := by
  have hn' : n ≤ 2048 := by rw [hn]; exact Nat.pow_le_pow_right (by decide) hk
  refine (flevel n w (by omega)).mono ?_
  rintro e w' (⟨k', h1, h2, rfl, rfl⟩ | ⟨h1, rfl, rfl⟩)
  · rw [hn] at h2
    have : k = k' := (Nat.pow_right_inj (by decide)).1 h2
    rw [this]
    exact ⟨rfl, rfl⟩
  · exact absurd hn (h1 k hk)

set_option maxHeartbeats 400000 in
theorem freverse_any (b k c : Nat) (xs : List (Nat × Nat)) (w : World) (h : Own w b 27 (cxs xs)) (hk : k ≤ 11) (hx : Hid (xs.length = 2 ^ k)) :
    Calls Tabg.prog 148 #[.slice (some ⟨b, 0, none⟩) xs.length c] w fun e w' => e = .returned (.tuple #[]) ∧ Mod b w w' ∧ Own w' b 27 (cxs (revL (0, 0) xs)) := by
  have hl : xs.length ≤ 2048 := by rw [hx.out]; exact Nat.pow_le_pow_right (by decide) hk
  have cL : ∀ w, Calls Tabg.prog 145 #[.int .i64 xs.length] w fun e w' => e = .returned (.int .i64 k) ∧ w = w' := fun w => flevel_pow k xs.length hk hx.out w
  have CL : Hid (∀ w, Calls Tabg.prog 145 #[.int .i64 xs.length] w fun e w' => e = .returned (.int .i64 k) ∧ w = w') := cL
  clear cL
  have hk0 : ¬ (k : Int) < 0 := by omega
  go_enter Tabg.func148, Tabg.ntmps148
  go_wp2_with (go_at_call 145; refine (CL.out _).mono ?_; rintro e w' ⟨rfl, rfl⟩)
  go_loopw [3, 4] (fun j i wr => ∃ n : Nat, n ≤ xs.length ∧ i = .int .i64 n ∧ j = .int .i64 (revN (0, 0) xs n).2 ∧ Mod b w wr ∧ Own wr b 27 (cxs (revN (0, 0) xs n).1)) (fun _ i _ => xs.length - (intOf i).toNat)
  case atStart => exact ⟨0, Nat.zero_le _, rfl, rfl, Mod.refl _ _, h⟩
  case round =>
    obtain ⟨n, hn, rfl, rfl, hm, ho⟩ := hrel
    by_cases hlt : n < xs.length
    · have hjl : (revN (0, 0) xs n).2 < xs.length := revN_lt (0, 0) xs k hx.out n
      have hyl := revN_length (0, 0) xs n
      have hrn : revN (0, 0) xs (n + 1) = (if n < (revN (0, 0) xs n).2 then swapL (0, 0) (revN (0, 0) xs n).1 n (revN (0, 0) xs n).2 else (revN (0, 0) xs n).1, nxt 64 (xs.length / 2) (revN (0, 0) xs n).2) := rfl
      generalize (revN (0, 0) xs n).2 = j at *
      generalize (revN (0, 0) xs n).1 = ys at *
      have HY : Hid (ys.length = xs.length) := hyl
      have HR : Hid (revN (0, 0) xs (n + 1) = (if n < j then swapL (0, 0) ys n j else ys, nxt 64 (xs.length / 2) j)) := hrn
      clear hyl hrn
      go_upto_if 18 with (fail)
      go_cut [] (fun wc => Mod b w wc ∧ Own wc b 27 (cxs (revN (0, 0) xs (n + 1)).1))
      case first =>
        by_cases hnj : n < j
        · have c1 : wr.cell? ⟨b, n, none⟩ = some (.complex .f64 (zat ys n).1 (zat ys n).2) := ho.cx (by rw [HY.out]; exact hlt)
          have c2 : wr.cell? ⟨b, j, none⟩ = some (.complex .f64 (zat ys j).1 (zat ys j).2) := ho.cx (by rw [HY.out]; exact hjl)
          have f1 := ho.free n
          have f2 := ho.free j
          go_wp2
          go_region
          go_wp2
          go_meet
          case rel =>
            rw [HR.out, if_pos hnj]
            exact ⟨((hm.up (Up.refl _).drew).setCell _ _).setCell _ _, (ho.drew.setCx n _ _).setCx j _ _⟩
        · go_wp2
          go_meet
          case rel =>
            rw [HR.out, if_neg hnj]
            exact ⟨hm, ho⟩
      case rest =>
        obtain ⟨hm', ho'⟩ := hcut
        clear hm ho
        go_wp2
        go_loop [3, 5] (fun s t => ∃ j' bit f : Nat, s = .int .i64 j' ∧ t = .int .i64 bit ∧ j' < 2048 ∧ bit < 2048 ∧ bit < 2 ^ f ∧ f ≤ 64 ∧ Hid (nxt f bit j' = nxt 64 (xs.length / 2) j)) (fun _ t => (intOf t).toNat)
        case atStart => exact ⟨j, xs.length / 2, 64, rfl, by go_num, by omega, by omega, Nat.lt_of_lt_of_le (show xs.length / 2 < 2048 by omega) (by decide), Nat.le_refl _, rfl⟩
        case round =>
          obtain ⟨j', bit, f, rfl, rfl, hj', hbit, hf, hf', HN⟩ := hrel
          have b1 := i64_and j' bit (by omega) (by omega)
          have b2 := i64_or j' bit (by omega) (by omega)
          have b3 := i64_xor j' bit (by omega) (by omega)
          go_wp2
          · go_round
            case rel =>
              have e : (((j' &&& bit : Nat) : Int) != 0) = true := by assumption
              have e' : j' &&& bit ≠ 0 := by simpa using e
              obtain ⟨g, rfl, hg, hgo⟩ := nxt_go (by assumption) hf e'
              exact ⟨j' ^^^ bit, bit / 2, g, rfl, by go_num, Nat.xor_lt_two_pow (n := 11) hj' hbit, by omega, hg, by omega, hgo.symm.trans HN.out⟩
            case measure => simp [intOf]; omega
          · go_roundw
            case rel =>
              have e : (((j' &&& bit : Nat) : Int) != 0) = false := by assumption
              have e' : j' &&& bit = 0 := by simpa using e
              refine ⟨n + 1, by omega, by go_num, ?_, hm', ho'⟩
              rw [HR.out, ← HN.out, nxt_stop (.inr e')]
            case measure => simp [intOf]; omega
          · go_roundw
            case rel =>
              refine ⟨n + 1, by omega, by go_num, ?_, hm', ho'⟩
              rw [HR.out, ← HN.out, nxt_stop (.inl (by omega))]
            case measure => simp [intOf]; omega
    · go_wp2
      go_end0
      obtain rfl : n = xs.length := by omega
      exact ⟨rfl, hm, ho⟩
end Go.Proofs.Ygctab
