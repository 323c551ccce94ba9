import Derived.Test.YgctabNttB
import Derived.Test.YgctabRev
import Derived.BigRegion
namespace Go.Proofs.Ygctab
open Go.RowKit
set_option linter.unusedVariables false

set_option maxHeartbeats 400000 in
theorem reverse_any (b k c : Nat) (xs : List Int) (w : World) (h : Own w b 78 (ints .u32 xs)) (hk : k ≤ 11) (hx : Hid (xs.length = 2 ^ k)) :
    Calls Tabg.prog 167 #[.slice (some ⟨b, 0, none⟩) xs.length c] w fun e w' => e = .returned (.tuple #[]) ∧ Mod b w w' ∧ Own w' b 78 (ints .u32 (revL 0 xs)) := by
  have hl : xs.length ≤ 2048 := by rw [hx.out]; exact Nat.pow_le_pow_right (by decide) hk
  go_enter Tabg.func167, Tabg.ntmps167
  go_wp2
  go_loopw [2, 3] (fun j i wr => ∃ n : Nat, n ≤ xs.length ∧ i = .int .i64 n ∧ j = .int .i64 (revN 0 xs n).2 ∧ Mod b w wr ∧ Own wr b 78 (ints .u32 (revN 0 xs n).1)) (fun _ i _ => xs.length - (intOf i).toNat)
  case atStart => exact ⟨0, Nat.zero_le _, rfl, rfl, Mod.refl _ _, h⟩
  case round =>
    obtain ⟨n, hn, rfl, rfl, hm, ho⟩ := hrel
    by_cases hlt : n < xs.length
    · have hjl : (revN 0 xs n).2 < xs.length := revN_lt 0 xs k hx.out n
      have hyl := revN_length 0 xs n
      have hrn : revN 0 xs (n + 1) = (if n < (revN 0 xs n).2 then swapL 0 (revN 0 xs n).1 n (revN 0 xs n).2 else (revN 0 xs n).1, nxt 64 (xs.length / 2) (revN 0 xs n).2) := rfl
      generalize (revN 0 xs n).2 = j at *
      generalize (revN 0 xs n).1 = ys at *
      have HY : Hid (ys.length = xs.length) := hyl
      have HR : Hid (revN 0 xs (n + 1) = (if n < j then swapL 0 ys n j else ys, nxt 64 (xs.length / 2) j)) := hrn
      clear hyl hrn
      go_upto_if 13 with (fail)
      go_cut [] (fun wc => Mod b w wc ∧ Own wc b 78 (ints .u32 (revN 0 xs (n + 1)).1))
      case first =>
        by_cases hnj : n < j
        · have c1 : wr.cell? ⟨b, n, none⟩ = some (.int .u32 (ys[n]?.getD 0)) := ho.int (by rw [HY.out]; exact hlt)
          have c2 : wr.cell? ⟨b, j, none⟩ = some (.int .u32 (ys[j]?.getD 0)) := ho.int (by rw [HY.out]; exact hjl)
          have f1 := ho.free n
          have f2 := ho.free j
          go_wp2
          go_region
          go_wp2
          go_meet
          case rel =>
            rw [HR.out, if_pos hnj]
            exact ⟨((hm.up (Up.refl _).drew).setCell _ _).setCell _ _, (ho.drew.setInt n _).setInt j _⟩
        · go_wp2
          go_meet
          case rel =>
            rw [HR.out, if_neg hnj]
            exact ⟨hm, ho⟩
      case rest =>
        obtain ⟨hm', ho'⟩ := hcut
        clear hm ho
        go_wp2
        go_loop [2, 4] (fun s t => ∃ j' bit f : Nat, s = .int .i64 j' ∧ t = .int .i64 bit ∧ j' < 2048 ∧ bit < 2048 ∧ bit < 2 ^ f ∧ f ≤ 64 ∧ Hid (nxt f bit j' = nxt 64 (xs.length / 2) j)) (fun _ t => (intOf t).toNat)
        case atStart => exact ⟨j, xs.length / 2, 64, rfl, by go_num, by omega, by omega, Nat.lt_of_lt_of_le (show xs.length / 2 < 2048 by omega) (by decide), Nat.le_refl _, rfl⟩
        case round =>
          obtain ⟨j', bit, f, rfl, rfl, hj', hbit, hf, hf', HN⟩ := hrel
          have b1 := i64_and j' bit (by omega) (by omega)
          have b2 := i64_or j' bit (by omega) (by omega)
          have b3 := i64_xor j' bit (by omega) (by omega)
          go_wp2
          · go_round
            case rel =>
              have e : (((j' &&& bit : Nat) : Int) != 0) = true := by assumption
              have e' : j' &&& bit ≠ 0 := by simpa using e
              obtain ⟨g, rfl, hg, hgo⟩ := nxt_go (by assumption) hf e'
              exact ⟨j' ^^^ bit, bit / 2, g, rfl, by go_num, Nat.xor_lt_two_pow (n := 11) hj' hbit, by omega, hg, by omega, hgo.symm.trans HN.out⟩
            case measure => simp [intOf]; omega
          · go_roundw
            case rel =>
              have e : (((j' &&& bit : Nat) : Int) != 0) = false := by assumption
              have e' : j' &&& bit = 0 := by simpa using e
              refine ⟨n + 1, by omega, by go_num, ?_, hm', ho'⟩
              rw [HR.out, ← HN.out, nxt_stop (.inr e')]
            case measure => simp [intOf]; omega
          · go_roundw
            case rel =>
              refine ⟨n + 1, by omega, by go_num, ?_, hm', ho'⟩
              rw [HR.out, ← HN.out, nxt_stop (.inl (by omega))]
            case measure => simp [intOf]; omega
    · go_wp2
      go_end0
      obtain rfl : n = xs.length := by omega
      exact ⟨rfl, hm, ho⟩
end Go.Proofs.Ygctab
