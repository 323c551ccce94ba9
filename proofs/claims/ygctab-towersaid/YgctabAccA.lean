import Derived.Test.YgctabBits
import Derived.Deep.RegionHeld3
import Derived.BigRegion
namespace Go.Proofs.Ygctab
open Go.RowKit
set_option linter.unusedVariables false

/-- Block b is an accumulator of these 68 words. -/
structure AccAt (w : World) (b : Nat) (xs : List Int) : Prop where
  own : Own w b 40 (ints .u64 xs)
  len : xs.length = 68
  words : Words xs

theorem AccAt.up {w w' : World} {b : Nat} {xs : List Int} (h : AccAt w b xs) (u : Up w w') : AccAt w' b xs := ⟨h.own.up u, h.len, h.words⟩
theorem AccAt.mod {w w' : World} {b c : Nat} {xs : List Int} (h : AccAt w b xs) (u : Mod c w w') (hc : b ≠ c) : AccAt w' b xs := ⟨h.own.mod u hc, h.len, h.words⟩
theorem AccAt.range {w : World} {b : Nat} {xs : List Int} (h : AccAt w b xs) : 0 ≤ num xs ∧ num xs < W ^ 68 := by
  have := num_range h.words; rwa [h.len] at this

set_option maxRecDepth 100000 in
set_option maxHeartbeats 800000 in
theorem accNeg_any (b : Nat) (xs : List Int) (w : World) (h : AccAt w b xs) :
    Calls Tabg.prog 95 #[.pointer (some ⟨b, 0, none⟩)] w fun e w' => e = .returned (.tuple #[]) ∧ Mod b w w' ∧ ∃ ys, AccAt w' b ys ∧ num ys = (-num xs) % W ^ 68 := by
  have hl := h.len
  have HL : Hid (xs.length = 68) := hl
  have hx := h.words
  have ho := h.own
  go_enter Tabg.func95, Tabg.ntmps95
  go_wp2
  clear hl
  go_loopw [2, 3] (fun s t wr => ∃ (i : Nat) (c : Int) (cur ds : List Int), t = .int .i64 i ∧ s = .int .u64 c ∧ i ≤ 68 ∧ 0 ≤ c ∧ c ≤ 1 ∧ Mod b w wr ∧ Own wr b 40 (ints .u64 cur) ∧ Pref xs i cur ds ∧ Hid (num ds - c * W ^ i = -num (xs.take i))) (fun _ t _ => 68 - (intOf t).toNat)
  case atStart => exact ⟨0, 0, xs, [], rfl, rfl, by omega, by decide, by decide, Mod.refl _ _, ho, Pref.zero xs, by show _ = _; simp [num]⟩
  case round =>
    clear ho
    obtain ⟨i, c, cur, ds, rfl, rfl, hi, hc, hc', hm, ho, hp, HI⟩ := hrel
    by_cases hlt : i < 68
    · have hix : i < xs.length := by rw [HL.out]; exact hlt
      have hcl := hp.length (by omega)
      have e0 : wr.cell? ⟨b, i, none⟩ = some (.int .u64 (cur[i]?.getD 0)) := ho.int (by omega)
      have ha := hp.at
      have hxi := hx.at i
      rw [ha] at e0
      have f0 := ho.free i
      have hcS := fun w : World => accSub 0 (xs[i]?.getD 0) c w (by decide) hxi.1 hxi.2 hc hc'
      have htk := num_take_succ hix
      have HT : Hid (num (xs.take (i + 1)) = num (xs.take i) + xs[i]?.getD 0 * W ^ i) := htk
      clear htk ha hcl
      generalize xs[i]?.getD 0 = x at *
      have hbr := bor_range 0 (x + c)
      go_upto_region 5 with fail
      go_region_with (first | (go_at_call 143; refine (hcS _).mono ?_; rintro e w' ⟨rfl, rfl⟩))
      go_wp2
      go_roundw
      case rel =>
        have hw0 := sub_word (x := 0) (by decide) (by decide) hxi.1 hxi.2 hc hc'
        rw [show (0 : Int) - x - c = -x - c by omega] at hw0
        refine ⟨i + 1, _, _, ds ++ [(-x - c) % 18446744073709551616], by go_num, rfl, by omega, hbr.1, hbr.2, hm.setCell _ _ |>.up (Up.refl _).drew, (ho.setInt i _).drew, hp.next hix (s := (-x - c) % 18446744073709551616) (by omega) (by omega), ?_⟩
        show _ = _
        rw [num_snoc, hp.len, HT.out, Int.pow_succ]
        exact neg_step hw0 HI.out
      case measure => simp [intOf]; omega
    · go_wp2
      go_end0
      obtain rfl : i = 68 := by omega
      have hp' : Pref xs xs.length cur ds := by rw [HL.out]; exact hp
      have hcd := hp'.all
      subst hcd
      refine ⟨rfl, hm, cur, ⟨ho, by rw [hp'.length (Nat.le_refl _)]; exact HL.out, hp.words⟩, ?_⟩
      have hr := num_range hp.words
      rw [hp.len] at hr
      have hI := HI.out
      rw [List.take_of_length_le (by rw [HL.out]; exact Nat.le_refl _)] at hI
      exact mod_of_carry (c := -c) hr.1 hr.2 (by rw [Int.neg_mul]; omega)

set_option maxRecDepth 100000 in
set_option maxHeartbeats 800000 in
theorem accAdd_any (b d : Nat) (xs ys : List Int) (w : World) (h : AccAt w b xs) (k : AccAt w d ys) (hbd : b ≠ d) :
    Calls Tabg.prog 99 #[.pointer (some ⟨b, 0, none⟩), .pointer (some ⟨d, 0, none⟩)] w fun e w' => e = .returned (.tuple #[]) ∧ Mod b w w' ∧ ∃ zs, AccAt w' b zs ∧ num zs = (num xs + num ys) % W ^ 68 := by
  have HL : Hid (xs.length = 68) := h.len
  have HL' : Hid (ys.length = 68) := k.len
  have hx := h.words
  have ho := h.own
  have hy := k.words
  have hk := k.own
  go_enter Tabg.func99, Tabg.ntmps99
  go_wp2
  go_loopw [4, 5] (fun s t wr => ∃ (i : Nat) (c : Int) (cur ds : List Int), t = .int .i64 i ∧ s = .int .u64 c ∧ i ≤ 68 ∧ 0 ≤ c ∧ c ≤ 1 ∧ Mod b w wr ∧ Own wr b 40 (ints .u64 cur) ∧ Pref xs i cur ds ∧ Hid (num cur + c * W ^ i = num xs + num (ys.take i))) (fun _ t _ => 68 - (intOf t).toNat)
  case atStart => exact ⟨0, 0, xs, [], rfl, rfl, by omega, by decide, by decide, Mod.refl _ _, ho, Pref.zero xs, by show _ = _; simp [num]⟩
  case round =>
    clear ho
    obtain ⟨i, c, cur, ds, rfl, rfl, hi, hc, hc', hm, ho, hp, HI⟩ := hrel
    by_cases hlt : i < 68
    · have hix : i < xs.length := by rw [HL.out]; exact hlt
      have hiy : i < ys.length := by rw [HL'.out]; exact hlt
      have hcl := hp.length (by omega)
      have hkw := hk.mod hm (Ne.symm hbd)
      have e0 : wr.cell? ⟨b, i, none⟩ = some (.int .u64 (cur[i]?.getD 0)) := ho.int (by omega)
      have e1 : wr.cell? ⟨d, i, none⟩ = some (.int .u64 (ys[i]?.getD 0)) := hkw.int hiy
      have ha := hp.at
      have hxi := hx.at i
      have hyi := hy.at i
      have f0 := ho.free i
      have hcS := fun w : World => accAdd (xs[i]?.getD 0) (ys[i]?.getD 0) c w hxi.1 hyi.1 hc hc'
      have HT : Hid (num (ys.take (i + 1)) = num (ys.take i) + ys[i]?.getD 0 * W ^ i) := num_take_succ hiy
      have HC : Hid (i < cur.length) := by show _ < _; omega
      have HA : Hid (cur[i]?.getD 0 = xs[i]?.getD 0) := ha
      rw [ha] at e0
      clear ha hcl
      generalize xs[i]?.getD 0 = x at *
      generalize ys[i]?.getD 0 = y at *
      go_upto_region 5 with fail
      go_region_with (first | (go_at_call 142; refine (hcS _).mono ?_; rintro e w' ⟨rfl, rfl⟩))
      all_goals
        go_wp2
        go_roundw
        case rel =>
          refine ⟨i + 1, _, _, ds ++ [(x + y + c) % 18446744073709551616], by go_num, rfl, by omega, by omega, by omega, hm.setCell _ _ |>.up (Up.refl _).drew, (ho.setInt i _).drew, hp.next hix (s := (x + y + c) % 18446744073709551616) (by omega) (by omega), ?_⟩
          show _ = _
          rw [HT.out, ← Int.add_assoc]
          exact add_step HC.out (by rw [HA.out]; exact add_word) HI.out
        case measure => simp [intOf]; omega
    · go_wp2
      go_end0
      obtain rfl : i = 68 := by omega
      have hp' : Pref xs xs.length cur ds := by rw [HL.out]; exact hp
      have hcd := hp'.all
      subst hcd
      refine ⟨rfl, hm, cur, ⟨ho, by rw [hp'.length (Nat.le_refl _)]; exact HL.out, hp.words⟩, ?_⟩
      have hr := num_range hp.words
      rw [hp.len] at hr
      have hI := HI.out
      rw [List.take_of_length_le (by rw [HL'.out]; exact Nat.le_refl _)] at hI
      exact mod_of_carry hr.1 hr.2 hI
end Go.Proofs.Ygctab
