import Derived.Test.YgctabDoorBits
import Derived.Deep.RegionHeld3
import Derived.BigRegion
namespace Go.Proofs.YgctabDoor
open Go.RowKit
set_option linter.unusedVariables false

/-- Block b is an accumulator of these 68 words. -/
structure AccAt (w : World) (b : Nat) (xs : List Int) : Prop where
  own : Own w b 31 (ints .u64 xs)
  len : xs.length = 68
  words : Words xs

theorem AccAt.up {w w' : World} {b : Nat} {xs : List Int} (h : AccAt w b xs) (u : Up w w') : AccAt w' b xs := ⟨h.own.up u, h.len, h.words⟩
theorem AccAt.mod {w w' : World} {b c : Nat} {xs : List Int} (h : AccAt w b xs) (u : Mod c w w') (hc : b ≠ c) : AccAt w' b xs := ⟨h.own.mod u hc, h.len, h.words⟩
theorem AccAt.range {w : World} {b : Nat} {xs : List Int} (h : AccAt w b xs) : 0 ≤ num xs ∧ num xs < W ^ 68 := by
  have := num_range h.words; rwa [h.len] at this

set_option maxRecDepth 100000 in
set_option maxHeartbeats 800000 in
theorem accNeg_any (b : Nat) (xs : List Int) (w : World) (h : AccAt w b xs) :
    Calls Tabg.prog 33 #[.pointer (some ⟨b, 0, none⟩)] w fun e w' => e = .returned (.tuple #[]) ∧ Mod b w w' ∧ ∃ ys, AccAt w' b ys ∧ num ys = (-num xs) % W ^ 68 := by
  have hl := h.len
  have HL : Hid (xs.length = 68) := hl
  have hx := h.words
  have ho := h.own
  go_enter Tabg.func33, Tabg.ntmps33
  go_wp2
  clear hl
  go_loopw [2, 3] (fun s t wr => ∃ (i : Nat) (c : Int) (cur ds : List Int), t = .int .i64 i ∧ s = .int .u64 c ∧ i ≤ 68 ∧ 0 ≤ c ∧ c ≤ 1 ∧ Mod b w wr ∧ Own wr b 31 (ints .u64 cur) ∧ Pref xs i cur ds ∧ Hid (num ds - c * W ^ i = -num (xs.take i))) (fun _ t _ => 68 - (intOf t).toNat)
  case atStart => exact ⟨0, 0, xs, [], rfl, rfl, by omega, by decide, by decide, Mod.refl _ _, ho, Pref.zero xs, by show _ = _; simp [num]⟩
  case round =>
    clear ho
    obtain ⟨i, c, cur, ds, rfl, rfl, hi, hc, hc', hm, ho, hp, HI⟩ := hrel
    by_cases hlt : i < 68
    · have hix : i < xs.length := by rw [HL.out]; exact hlt
      have hcl := hp.length (by omega)
      have e0 : wr.cell? ⟨b, i, none⟩ = some (.int .u64 (cur[i]?.getD 0)) := ho.int (by omega)
      have ha := hp.at
      have hxi := hx.at i
      rw [ha] at e0
      have f0 := ho.free i
      have hcS := fun w : World => accSub 0 (xs[i]?.getD 0) c w (by decide) hxi.1 hxi.2 hc hc'
      have htk := num_take_succ hix
      have HT : Hid (num (xs.take (i + 1)) = num (xs.take i) + xs[i]?.getD 0 * W ^ i) := htk
      clear htk ha hcl
      generalize xs[i]?.getD 0 = x at *
      have hbr := bor_range 0 (x + c)
      go_upto_region 5 with fail
      go_region_with (first | (go_at_call 38; refine (hcS _).mono ?_; rintro e w' ⟨rfl, rfl⟩))
      go_wp2
      go_roundw
      case rel =>
        have hw0 := sub_word (x := 0) (by decide) (by decide) hxi.1 hxi.2 hc hc'
        rw [show (0 : Int) - x - c = -x - c by omega] at hw0
        refine ⟨i + 1, _, _, ds ++ [(-x - c) % 18446744073709551616], by go_num, rfl, by omega, hbr.1, hbr.2, hm.setCell _ _ |>.up (Up.refl _).drew, (ho.setInt i _).drew, hp.next hix (s := (-x - c) % 18446744073709551616) (by omega) (by omega), ?_⟩
        show _ = _
        rw [num_snoc, hp.len, HT.out, Int.pow_succ]
        exact neg_step hw0 HI.out
      case measure => simp [intOf]; omega
    · go_wp2
      go_end0
      obtain rfl : i = 68 := by omega
      have hp' : Pref xs xs.length cur ds := by rw [HL.out]; exact hp
      have hcd := hp'.all
      subst hcd
      refine ⟨rfl, hm, cur, ⟨ho, by rw [hp'.length (Nat.le_refl _)]; exact HL.out, hp.words⟩, ?_⟩
      have hr := num_range hp.words
      rw [hp.len] at hr
      have hI := HI.out
      rw [List.take_of_length_le (by rw [HL.out]; exact Nat.le_refl _)] at hI
      exact mod_of_carry (c := -c) hr.1 hr.2 (by rw [Int.neg_mul]; omega)

end Go.Proofs.YgctabDoor
