import Derived.Test.YgctabAccA
namespace Go.Proofs.Ygctab
open Go.RowKit
set_option linter.unusedVariables false

set_option maxRecDepth 100000 in
set_option maxHeartbeats 800000 in
theorem accMulSmall_any (b : Nat) (m : Int) (xs : List Int) (w : World) (h : AccAt w b xs) (hm0 : 0 ≤ m) (hm1 : m < 4294967296) :
    Calls Tabg.prog 94 #[.pointer (some ⟨b, 0, none⟩), .int .u32 m] w fun e w' => e = .returned (.tuple #[]) ∧ Mod b w w' ∧ ∃ ys, AccAt w' b ys ∧ num ys = (num xs * m) % W ^ 68 := by
  have HL : Hid (xs.length = 68) := h.len
  have hx := h.words
  have ho := h.own
  go_enter Tabg.func94, Tabg.ntmps94
  go_wp2
  go_loopw [4, 5] (fun s t wr => ∃ (i : Nat) (c : Int) (cur ds : List Int), t = .int .i64 i ∧ s = .int .u64 c ∧ i ≤ 68 ∧ 0 ≤ c ∧ c ≤ m ∧ Mod b w wr ∧ Own wr b 40 (ints .u64 cur) ∧ Pref xs i cur ds ∧ Hid (num ds + c * W ^ i = num (xs.take i) * m)) (fun _ t _ => 68 - (intOf t).toNat)
  case atStart => exact ⟨0, 0, xs, [], rfl, rfl, by omega, by decide, hm0, Mod.refl _ _, ho, Pref.zero xs, by show _ = _; simp [num]⟩
  case round =>
    clear ho
    obtain ⟨i, c, cur, ds, rfl, rfl, hi, hc, hc', hm, ho, hp, HI⟩ := hrel
    by_cases hlt : i < 68
    · have hix : i < xs.length := by rw [HL.out]; exact hlt
      have hcl := hp.length (by omega)
      have e0 : wr.cell? ⟨b, i, none⟩ = some (.int .u64 (cur[i]?.getD 0)) := ho.int (by omega)
      have ha := hp.at
      have hxi := hx.at i
      rw [ha] at e0
      have f0 := ho.free i
      have HT : Hid (num (xs.take (i + 1)) = num (xs.take i) + xs[i]?.getD 0 * W ^ i) := num_take_succ hix
      clear ha hcl
      generalize xs[i]?.getD 0 = x at *
      have cM := fun w : World => accMul x m w hxi.1 hxi.2 hm0 (by omega)
      have mw := mul_word hxi.1 hxi.2 hm0 hc hc'
      have n0 : 0 ≤ x * m % 18446744073709551616 := by omega
      have n1 : 0 ≤ x * m / 18446744073709551616 := by have := Int.mul_nonneg hxi.1 hm0; omega
      have cA := fun w : World => accAdd (x * m % 18446744073709551616) c 0 w n0 hc (by decide) (by decide)
      rw [Int.add_zero] at cA
      rw [show (x * m % 18446744073709551616 + c) % 18446744073709551616 = (x * m + c) % 18446744073709551616 by omega] at mw
      have MW : Hid ((x * m + c) % 18446744073709551616 + (x * m / 18446744073709551616 + (x * m % 18446744073709551616 + c) / 18446744073709551616) * W = x * m + c) := mw.1
      have mw2 := mw.2
      clear mw
      go_wp2_with (first | (go_at_call 97; refine (cM _).mono ?_; rintro e w' ⟨rfl, rfl⟩) | (go_at_call 142; refine (cA _).mono ?_; rintro e w' ⟨rfl, rfl⟩))
      go_roundw
      case rel =>
        refine ⟨i + 1, _, _, ds ++ [(x * m + c) % 18446744073709551616], by go_num, rfl, by omega, mw2.1, mw2.2, hm.setCell _ _, ho.setInt i _, hp.next hix (s := (x * m + c) % 18446744073709551616) (by omega) (by omega), ?_⟩
        show _ = _
        rw [num_snoc, hp.len, HT.out, Int.pow_succ]
        exact mul_step MW.out HI.out
      case measure => simp [intOf]; omega
    · go_wp2
      go_end0
      obtain rfl : i = 68 := by omega
      have hp' : Pref xs xs.length cur ds := by rw [HL.out]; exact hp
      have hcd := hp'.all
      subst hcd
      refine ⟨rfl, hm, cur, ⟨ho, by rw [hp'.length (Nat.le_refl _)]; exact HL.out, hp.words⟩, ?_⟩
      have hr := num_range hp.words
      rw [hp.len] at hr
      have hI := HI.out
      rw [List.take_of_length_le (by rw [HL.out]; exact Nat.le_refl _)] at hI
      exact mod_of_carry hr.1 hr.2 hI

set_option maxRecDepth 100000 in
set_option maxHeartbeats 800000 in
theorem accSign_any (b : Nat) (xs : List Int) (w : World) (h : AccAt w b xs) :
    Calls Tabg.prog 33 #[.pointer (some ⟨b, 0, none⟩)] w fun e w' => e = .returned (.int .i8 (sgn (sv (num xs)))) ∧ w = w' := by
  have HL : Hid (xs.length = 68) := h.len
  have hx := h.words
  have ho := h.own
  have hR := h.range
  have hTH := top_half h.words h.len
  have e67 : w.cell? ⟨b, 67, none⟩ = some (.int .u64 (xs[67]?.getD 0)) := ho.int (by rw [HL.out]; decide)
  have x67 := hx.at 67
  have HH : Hid (2 * Half = W ^ 68) := half_two
  have HTH : Hid (num xs < Half ↔ xs[67]?.getD 0 < 9223372036854775808) := hTH
  have HR : Hid (0 ≤ num xs ∧ num xs < W ^ 68) := hR
  clear hTH hR
  generalize xs[67]?.getD 0 = t at *
  by_cases ht : t < 9223372036854775808
  · have h63 : t / 9223372036854775808 = 0 := by omega
    go_enter Tabg.func33, Tabg.ntmps33
    go_wp2
    go_loop [3] (fun s => ∃ i : Nat, s = .int .i64 i ∧ i ≤ 68 ∧ Hid (∀ j, j < i → xs[j]?.getD 0 = 0)) (fun s => 68 - (intOf s).toNat)
    case atStart => exact ⟨0, rfl, by omega, fun j hj => absurd hj (Nat.not_lt_zero _)⟩
    case round =>
      obtain ⟨i, rfl, hi, HZ⟩ := hrel
      by_cases hlt : i < 68
      · have e0 : w.cell? ⟨b, i, none⟩ = some (.int .u64 (xs[i]?.getD 0)) := ho.int (by rw [HL.out]; exact hlt)
        obtain ⟨x, hxx⟩ : ∃ x, x = xs[i]?.getD 0 := ⟨_, rfl⟩
        rw [← hxx] at e0
        have HX : Hid (x = xs[i]?.getD 0) := hxx
        clear hxx
        go_wp2
        · go_ret
          have e : (x != 0) = true := by assumption
          have hne : x ≠ 0 := by simpa using e
          refine ⟨ret_int ?_, rfl⟩
          have hn0 : num xs ≠ 0 := fun h0 => hne (by rw [HX.out]; have := (num_eq_zero hx).1 h0 (xs[i]'(by rw [HL.out]; exact hlt)) (List.getElem_mem _); rw [List.getElem?_eq_getElem (by rw [HL.out]; exact hlt), Option.getD_some]; exact this)
          have hr := HR.out
          rw [sv, if_pos (HTH.out.2 ht), sgn, if_neg (by omega), if_neg hn0]
        · go_round
          case rel =>
            have e : (x != 0) = false := by assumption
            have hne : x = 0 := by simpa using e
            refine ⟨i + 1, by go_num, by omega, fun j hj => ?_⟩
            rcases Nat.lt_or_ge j i with h' | h'
            · exact HZ.out j h'
            · obtain rfl : j = i := by omega
              rw [← HX.out]; exact hne
          case measure => simp [intOf]; omega
      · go_wp2
        go_ret
        refine ⟨ret_int ?_, rfl⟩
        have hn0 : num xs = 0 := by
          apply (num_eq_zero hx).2
          intro x hxm
          obtain ⟨j, hj, rfl⟩ := List.getElem_of_mem hxm
          have := HZ.out j (by rw [HL.out] at hj; omega)
          rwa [List.getElem?_eq_getElem hj, Option.getD_some] at this
        rw [sv, if_pos (HTH.out.2 ht), hn0]; rfl
  · have h63 : t / 9223372036854775808 = 1 := by omega
    go_enter Tabg.func33, Tabg.ntmps33
    go_wp2
    go_ret
    refine ⟨ret_int ?_, rfl⟩
    have hr := HR.out
    rw [sv, if_neg (fun hh => by have := HTH.out.1 hh; omega), sgn, if_pos (by omega)]

theorem cmp_lt {a b : Int} (h : a < b) : sgn (a - b) = -1 := by unfold sgn; rw [if_pos (by omega)]
theorem cmp_gt {a b : Int} (h : b < a) : sgn (a - b) = 1 := by unfold sgn; rw [if_neg (by omega), if_neg (by omega)]
theorem cmp_eq {a b : Int} (h : a = b) : sgn (a - b) = 0 := by unfold sgn; rw [if_neg (by omega), if_pos (by omega)]

set_option maxRecDepth 100000 in
set_option maxHeartbeats 1600000 in
theorem accCmp_any (b d : Nat) (xs ys : List Int) (w : World) (h : AccAt w b xs) (k : AccAt w d ys) :
    Calls Tabg.prog 32 #[.pointer (some ⟨b, 0, none⟩), .pointer (some ⟨d, 0, none⟩)] w fun e w' => e = .returned (.int .i8 (sgn (sv (num xs) - sv (num ys)))) ∧ Up w w' := by
  have HL : Hid (xs.length = 68) := h.len
  have HL' : Hid (ys.length = 68) := k.len
  have hx := h.words
  have ho := h.own
  have hy := k.words
  have hk := k.own
  have x67 := hx.at 67
  have y67 := hy.at 67
  have e0 : w.cell? ⟨b, 67, none⟩ = some (.int .u64 (xs[67]?.getD 0)) := ho.int (by rw [HL.out]; decide)
  have e1 : w.cell? ⟨d, 67, none⟩ = some (.int .u64 (ys[67]?.getD 0)) := hk.int (by rw [HL'.out]; decide)
  have NX := num_flip hx h.len
  have NY := num_flip hy k.len
  have FX := flip_range x67.1 x67.2
  have FY := flip_range y67.1 y67.2
  have b1 : bits .xor .u64 (xs[67]?.getD 0) 9223372036854775808 = flip (xs[67]?.getD 0) := by
    rw [u64_xor _ _ x67.1 x67.2 (by decide) (by decide)]
    rw [show ((9223372036854775808 : Int).toNat) = 9223372036854775808 from rfl, xor_flip _ (by omega), Int.toNat_of_nonneg x67.1]
  have b2 : bits .xor .u64 (ys[67]?.getD 0) 9223372036854775808 = flip (ys[67]?.getD 0) := by
    rw [u64_xor _ _ y67.1 y67.2 (by decide) (by decide)]
    rw [show ((9223372036854775808 : Int).toNat) = 9223372036854775808 from rfl, xor_flip _ (by omega), Int.toNat_of_nonneg y67.1]
  -- the rows with their top bits turned
  have XW : Words (xs.set 67 (flip (xs[67]?.getD 0))) := hx.set _ _ FX.1 FX.2
  have YW : Words (ys.set 67 (flip (ys[67]?.getD 0))) := hy.set _ _ FY.1 FY.2
  have XL : Hid ((xs.set 67 (flip (xs[67]?.getD 0))).length = 68) := by show _ = _; rw [List.length_set]; exact h.len
  have YL : Hid ((ys.set 67 (flip (ys[67]?.getD 0))).length = 68) := by show _ = _; rw [List.length_set]; exact k.len
  have XA : Hid (∀ i, i < 67 → (xs.set 67 (flip (xs[67]?.getD 0)))[i]?.getD 0 = xs[i]?.getD 0) := fun i hi => by rw [List.getElem?_set_ne (by omega)]
  have YA : Hid (∀ i, i < 67 → (ys.set 67 (flip (ys[67]?.getD 0)))[i]?.getD 0 = ys[i]?.getD 0) := fun i hi => by rw [List.getElem?_set_ne (by omega)]
  have XT : Hid ((xs.set 67 (flip (xs[67]?.getD 0)))[67]?.getD 0 = flip (xs[67]?.getD 0)) := by show _ = _; rw [List.getElem?_set_self (by rw [HL.out]; decide)]; rfl
  have YT : Hid ((ys.set 67 (flip (ys[67]?.getD 0)))[67]?.getD 0 = flip (ys[67]?.getD 0)) := by show _ = _; rw [List.getElem?_set_self (by rw [HL'.out]; decide)]; rfl
  have HNX : Hid (num (xs.set 67 (flip (xs[67]?.getD 0))) = sv (num xs) + Half) := NX
  have HNY : Hid (num (ys.set 67 (flip (ys[67]?.getD 0))) = sv (num ys) + Half) := NY
  clear NX NY FX FY
  generalize xs.set 67 (flip (xs[67]?.getD 0)) = X at *
  generalize ys.set 67 (flip (ys[67]?.getD 0)) = Y at *
  generalize flip (xs[67]?.getD 0) = fx at *
  generalize flip (ys[67]?.getD 0) = fy at *
  generalize xs[67]?.getD 0 = tx at *
  generalize ys[67]?.getD 0 = ty at *
  generalize sv (num xs) = sx at *
  generalize sv (num ys) = sy at *
  go_enter Tabg.func32, Tabg.ntmps32
  go_wp2
  go_quiet (fail)
  go_wp2
  go_loopw [5, 6, 7] (fun s t u wr => ∃ (n : Nat) (p q : Int), u = .int .i64 ((n : Int) - 1) ∧ s = .int .u64 p ∧ t = .int .u64 q ∧ n ≤ 68 ∧ Up w wr ∧ Hid (X.drop n = Y.drop n) ∧ Hid (n = 68 → p = fx ∧ q = fy)) (fun _ _ u _ => (intOf u + 1).toNat)
  case atStart => exact ⟨68, _, _, rfl, rfl, rfl, by omega, (Up.refl _).drewN _, by show _ = _; rw [List.drop_eq_nil_of_le (by rw [XL.out]; exact Nat.le_refl _), List.drop_eq_nil_of_le (by rw [YL.out]; exact Nat.le_refl _)], fun _ => ⟨rfl, rfl⟩⟩
  case round =>
    obtain ⟨n, p, q, rfl, rfl, rfl, hn, hU, HD, HP⟩ := hrel
    cases n with
    | zero =>
      go_wp2
      go_ret
      have hd := HD.out
      simp only [List.drop_zero] at hd
      have hnx := HNX.out
      have hny := HNY.out
      rw [hd] at hnx
      exact ⟨ret_int (cmp_eq (by omega)).symm, hU⟩
    | succ i =>
      have hi : i ≤ 67 := by omega
      obtain ⟨x, hxx⟩ : ∃ x, x = X[i]?.getD 0 := ⟨_, rfl⟩
      obtain ⟨y, hyy⟩ : ∃ y, y = Y[i]?.getD 0 := ⟨_, rfl⟩
      have HX : Hid (x = X[i]?.getD 0) := hxx
      have HY : Hid (y = Y[i]?.getD 0) := hyy
      clear hxx hyy
      go_upto_if 29 with (fail)
      go_cut [5, 6] (fun s t wc => s = .int .u64 x ∧ t = .int .u64 y ∧ Up w wc)
      case first =>
        by_cases h67 : i < 67
        · have c0 : wr.cell? ⟨b, i, none⟩ = some (.int .u64 x) := by
            rw [HX.out, XA.out i h67]; exact (ho.up hU).int (by rw [HL.out]; omega)
          have c1 : wr.cell? ⟨d, i, none⟩ = some (.int .u64 y) := by
            rw [HY.out, YA.out i h67]; exact (hk.up hU).int (by rw [HL'.out]; omega)
          have hiI : (i : Int) < 68 := by omega
          have hi0 : (0 : Int) ≤ (i : Int) := by omega
          go_wp2
          go_quiet (fail)
          go_wp2
          go_meet
          case rel => exact ⟨rfl, rfl, hU.drewN _⟩
        · obtain rfl : i = 67 := by omega
          have hpq := HP.out rfl
          go_wp2
          go_meet
          case rel => exact ⟨by rw [HX.out, XT.out], by rw [HY.out, YT.out], hU⟩
      case rest =>
        obtain ⟨rfl, rfl, hUc⟩ := hcut
        go_wp2
        · go_ret
          have hlt : x < y := by assumption
          rw [HX.out, HY.out] at hlt
          have := num_lt_of XW YW (by rw [XL.out]; omega) (by rw [YL.out]; omega) HD.out hlt
          rw [HNX.out, HNY.out] at this
          exact ⟨ret_int (cmp_lt (by omega)).symm, hUc⟩
        · go_ret
          have hlt : y < x := by assumption
          rw [HX.out, HY.out] at hlt
          have := num_lt_of YW XW (by rw [YL.out]; omega) (by rw [XL.out]; omega) HD.out.symm hlt
          rw [HNX.out, HNY.out] at this
          exact ⟨ret_int (cmp_gt (by omega)).symm, hUc⟩
        · go_roundw
          case rel =>
            refine ⟨i, x, y, by go_num, rfl, rfl, by omega, hUc, ?_, fun h => by omega⟩
            exact drop_eq_of (by rw [XL.out]; omega) (by rw [YL.out]; omega) HD.out (by rw [← HX.out, ← HY.out]; omega)
          case measure => simp [intOf]
end Go.Proofs.Ygctab
