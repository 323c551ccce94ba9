import Derived.Test.YgctabAccD
namespace Go.Proofs.Ygctab
open Go.RowKit
set_option linter.unusedVariables false

set_option maxRecDepth 100000 in
set_option maxHeartbeats 6400000 in
theorem place_minus (b hi lo i : Nat) (xs : List Int) (w : World) (h : AccAt w b xs) (hhi : hi < 18446744073709551616) (hlo : lo < 18446744073709551616) (hi' : i < 4160) :
    Calls Tabg.prog 98 #[.pointer (some ⟨b, 0, none⟩), .bool true, .int .u64 hi, .int .u64 lo, .int .i64 i] w fun e w' => e = .returned (.tuple #[]) ∧ Mod b w w' ∧
      ∃ ys, AccAt w' b ys ∧ num ys = (num xs - ((hi : Int) * W + lo) * 2 ^ i) % W ^ 68 := by
  obtain ⟨q, s, hq, hs, hqs⟩ : ∃ q s : Nat, q ≤ 64 ∧ s < 64 ∧ i = 64 * q + s := ⟨i / 64, i % 64, by omega, by omega, by omega⟩
  have e1 : (i : Int) / 64 = (q : Int) := by omega
  have e2 : (i : Int) % 64 = (s : Int) := by omega
  have s0 : (0 : Int) ≤ (s : Int) := by omega
  have s1 : (0 : Int) ≤ 64 - (s : Int) := by omega
  have s2 : (64 - (s : Int)).toNat = 64 - s := by omega
  have s3 : (s : Int) ≤ 64 := by omega
  obtain ⟨p, y, r, hp, hy, hr, pr, yr, rr, key⟩ := shift3I hi lo s (by omega) hhi hlo
  have HP : Hid (IntKind.u64.wrap ((lo : Int) * 2 ^ s) = p) := hp
  have HY : Hid (bits .or .u64 (IntKind.u64.wrap ((hi : Int) * 2 ^ s)) ((lo : Int) / 2 ^ (64 - s)) = y) := hy
  have HR : Hid ((hi : Int) / 2 ^ (64 - s) = r) := hr
  have KEY : Hid (p * W ^ q + y * W ^ (q + 1) + r * W ^ (q + 1 + 1) = ((hi : Int) * W + lo) * 2 ^ i) := by
    show _ = _; rw [hqs]; exact place_sum key
  have hst : ∀ wc, Up w wc → MSt w b wc q 0 (num xs) := fun wc hU => ⟨xs, hU.mod b, h.own.up hU, h.len, h.words, by decide, by decide, by rw [Int.zero_mul, Int.sub_zero]⟩
  clear hqs hp hy hr key
  have q68 : (q : Int) < 68 := by omega
  have q0 : (0 : Int) ≤ (q : Int) := by omega
  have q681 : (q : Int) + 1 < 68 := by omega
  have q01 : (0 : Int) ≤ (q : Int) + 1 := by omega
  have q682 : (q : Int) + 2 < 68 := by omega
  have q02 : (0 : Int) ≤ (q : Int) + 2 := by omega
  have qw1 : IntKind.i64.wrap ((q : Int) + 1) = (q : Int) + 1 := by rw [IntKind.wrap_i64]; omega
  have qw2 : IntKind.i64.wrap ((q : Int) + 2) = (q : Int) + 2 := by rw [IntKind.wrap_i64]; omega
  have qn1 : ((q : Int) + 1).toNat = q + 1 := by omega
  have qn2 : ((q : Int) + 2).toNat = q + 1 + 1 := by omega
  go_enter Tabg.func98, Tabg.ntmps98
  go_wp2
  go_cut [10, 11, 12, 13, 14] (fun z1 z2 a1 a2 a3 wc => z1 = .int .i64 q ∧ z2 = .int .i64 s ∧ a1 = .int .u64 p ∧ a2 = .int .u64 y ∧ a3 = .int .u64 r ∧ Up w wc)
  case first =>
    go_quiet (fail)
    go_wp2
    go_meet
    case rel => exact ⟨by first | rfl | exact congrArg _ e1, by first | rfl | exact congrArg _ e2, congrArg _ HP.out, congrArg _ HY.out, congrArg _ HR.out, (Up.refl _).drewN _⟩
  case rest =>
    obtain ⟨rfl, rfl, rfl, rfl, rfl, hU⟩ := hcut
    have h0 := hst wc hU
    clear hst e1 e2
    go_wp2
    go_cut [15] (fun a wc => ∃ c, a = .int .u64 c ∧ MSt w b wc (q + 1) c (num xs - p * W ^ q))
    case first =>
      obtain ⟨x, x0, x1, c0, f0, cc0, cc1, nx⟩ := h0.opn (by omega)
      have cA := fun w : World => accSub x p 0 w x0 pr.1 pr.2 (by decide) (by decide)
      have nx' := nx p pr.1 pr.2
      clear nx
      rw [Int.sub_zero, Int.add_zero] at cA nx'
      go_region_with (first | (go_at_call 143; refine (cA _).mono ?_; rintro e w' ⟨rfl, rfl⟩))
      go_wp2
      go_simp
      go_meet
      case rel => exact ⟨_, rfl, nx'⟩
    case rest =>
      obtain ⟨c, rfl, h1⟩ := hcut
      clear h0
      go_wp2
      go_cut [15] (fun a wc => ∃ c, a = .int .u64 c ∧ MSt w b wc (q + 1 + 1) c (num xs - p * W ^ q - y * W ^ (q + 1)))
      case first =>
        obtain ⟨x, x0, x1, c0, f0, cc0, cc1, nx⟩ := h1.opn (by omega)
        have cA := fun w : World => accSub x y c w x0 yr.1 yr.2 cc0 cc1
        have nx' := nx y yr.1 yr.2
        clear nx
        go_region_with (first | (go_at_call 143; refine (cA _).mono ?_; rintro e w' ⟨rfl, rfl⟩))
        go_wp2
        go_simp
        go_meet
        case rel => exact ⟨_, rfl, nx'⟩
      case rest =>
        obtain ⟨c2, rfl, h2⟩ := hcut
        clear h1
        go_wp2
        go_cut [15] (fun a wc => ∃ c, a = .int .u64 c ∧ MSt w b wc (q + 1 + 1 + 1) c (num xs - p * W ^ q - y * W ^ (q + 1) - r * W ^ (q + 1 + 1)))
        case first =>
          obtain ⟨x, x0, x1, c0, f0, cc0, cc1, nx⟩ := h2.opn (by omega)
          have cA := fun w : World => accSub x r c2 w x0 rr.1 rr.2 cc0 cc1
          have nx' := nx r rr.1 rr.2
          clear nx
          go_region_with (first | (go_at_call 143; refine (cA _).mono ?_; rintro e w' ⟨rfl, rfl⟩))
          go_wp2
          go_simp
          go_meet
          case rel => exact ⟨_, rfl, nx'⟩
        case rest =>
          obtain ⟨c3, rfl, h3⟩ := hcut
          clear h2
          obtain ⟨C, hC⟩ : ∃ C, C = num xs - p * W ^ q - y * W ^ (q + 1) - r * W ^ (q + 1 + 1) := ⟨_, rfl⟩
          rw [← hC] at h3
          have HC : Hid (C = num xs - ((hi : Int) * W + lo) * 2 ^ i) := by show _ = _; rw [hC, ← KEY.out]; omega
          clear hC qw1 qw2 qn1 qn2 q681 q682 q01 q02
          go_wp2
          go_loopw [15, 16] (fun s t wr => ∃ (j : Nat) (c : Int), t = .int .i64 j ∧ s = .int .u64 c ∧ j ≤ 68 ∧ MSt w b wr j c C) (fun _ t _ => 68 - (intOf t).toNat)
          case atStart => exact ⟨q + 1 + 1 + 1, c3, by go_num, rfl, by omega, h3⟩
          case round =>
            clear h3
            obtain ⟨j, c, rfl, rfl, hj, hst⟩ := hrel
            by_cases hlt : j < 68
            · obtain ⟨x, x0, x1, c0, f0, cc0, cc1, nx⟩ := hst.opn hlt
              have cA := fun w : World => accSub x 0 c w x0 (by decide) (by decide) cc0 cc1
              have nx' := nx 0 (by decide) (by decide)
              rw [Int.zero_mul, Int.sub_zero, Int.sub_zero, Int.zero_add] at nx'
              rw [Int.sub_zero, Int.zero_add] at cA
              clear nx
              have hj68 : (j : Int) < 68 := by omega
              have hj0 : (0 : Int) ≤ (j : Int) := by omega
              by_cases hc : c = 0
              · subst hc
                go_wp2
                refine bodyPost_ret (results_none rfl _ _ _) rfl ?_
                obtain ⟨cur, hm, ho, hl, hw, _, _, hn⟩ := hst
                refine ⟨rfl, hm, cur, ⟨ho, hl, hw⟩, ?_⟩
                rw [Int.zero_mul, Int.sub_zero] at hn
                have hr := num_range hw
                rw [hl] at hr
                rw [← HC.out, ← hn]
                exact (Int.emod_eq_of_lt hr.1 hr.2).symm
              · have hc' : (c != 0) = true := by simpa using hc
                go_upto_region 10 with fail
                go_region_with (first | (go_at_call 143; refine (cA _).mono ?_; rintro e w' ⟨rfl, rfl⟩))
                go_wp2
                go_roundw
                case rel => exact ⟨j + 1, _, by go_num, rfl, by omega, nx'⟩
                case measure => simp [intOf]; omega
            · have hd : decide ((j : Int) < 68) = false := by simp; omega
              go_wp2
              refine bodyPost_ret (results_none rfl _ _ _) rfl ?_
              obtain ⟨cur, hm, ho, hl, hw, _, _, hn⟩ := hst
              obtain rfl : j = 68 := by omega
              refine ⟨rfl, hm, cur, ⟨ho, hl, hw⟩, ?_⟩
              have hr := num_range hw
              rw [hl] at hr
              rw [← HC.out]
              exact mod_of_carry (c := -c) hr.1 hr.2 (by rw [Int.neg_mul]; omega)
end Go.Proofs.Ygctab
