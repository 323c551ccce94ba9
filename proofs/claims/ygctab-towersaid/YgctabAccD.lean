import Derived.Test.YgctabAccC
namespace Go.Proofs.Ygctab
open Go.RowKit
set_option linter.unusedVariables false

/-- What place adds, in three words. -/
theorem shift3I (hi lo s : Nat) (hs : s ≤ 64) (hhi : hi < 18446744073709551616) (hlo : lo < 18446744073709551616) :
    ∃ p q r : Int, IntKind.u64.wrap ((lo : Int) * 2 ^ s) = p ∧ bits .or .u64 (IntKind.u64.wrap ((hi : Int) * 2 ^ s)) ((lo : Int) / 2 ^ (64 - s)) = q ∧ (hi : Int) / 2 ^ (64 - s) = r ∧
      (0 ≤ p ∧ p < 18446744073709551616) ∧ (0 ≤ q ∧ q < 18446744073709551616) ∧ (0 ≤ r ∧ r < 18446744073709551616) ∧ p + q * W + r * (W * W) = ((hi : Int) * W + lo) * 2 ^ s := by
  have hl : lo / 2 ^ (64 - s) < 2 ^ s := shr_lt lo s hs hlo
  have hl2 : lo / 2 ^ (64 - s) ≤ lo := Nat.div_le_self _ _
  have hh2 : hi / 2 ^ (64 - s) ≤ hi := Nat.div_le_self _ _
  have c1 : IntKind.u64.wrap ((lo : Int) * 2 ^ s) = ((lo * 2 ^ s % 18446744073709551616 : Nat) : Int) := by rw [IntKind.wrap_u64]; simp
  have c2 : IntKind.u64.wrap ((hi : Int) * 2 ^ s) = ((hi * 2 ^ s % 18446744073709551616 : Nat) : Int) := by rw [IntKind.wrap_u64]; simp
  have c3 : (lo : Int) / 2 ^ (64 - s) = ((lo / 2 ^ (64 - s) : Nat) : Int) := by simp
  have c4 : (hi : Int) / 2 ^ (64 - s) = ((hi / 2 ^ (64 - s) : Nat) : Int) := by simp
  have hm : hi * 2 ^ s % 18446744073709551616 < 18446744073709551616 := Nat.mod_lt _ (by decide)
  have c5 : bits .or .u64 (IntKind.u64.wrap ((hi : Int) * 2 ^ s)) ((lo : Int) / 2 ^ (64 - s)) = ((hi * 2 ^ s % 18446744073709551616 + lo / 2 ^ (64 - s) : Nat) : Int) := by
    rw [c2, c3, u64_or_nat _ _ hm (by omega), nat_join s _ _ (shl_low hi s hs) hl]
  have hor : hi * 2 ^ s % 18446744073709551616 + lo / 2 ^ (64 - s) < 18446744073709551616 := by
    have h := nat_join s _ _ (shl_low hi s hs) hl
    rw [← h]
    exact Nat.or_lt_two_pow (n := 64) hm (by omega)
  have key := shift3 hi lo s hs
  refine ⟨_, _, _, c1, c5, c4, ?_, ?_, ?_, ?_⟩
  · have := Nat.mod_lt (lo * 2 ^ s) (show 18446744073709551616 > 0 by decide); omega
  · omega
  · omega
  · rw [W_eq]
    have k2 := congrArg (fun n : Nat => (n : Int)) key
    simp only [Int.natCast_add, Int.natCast_mul, Int.natCast_pow] at k2 ⊢
    exact k2

/-- An accumulator in the midst of an addition: c is carried into place j; all in all C. -/
def PSt (w : World) (b : Nat) (wr : World) (j : Nat) (c C : Int) : Prop :=
  ∃ cur, Mod b w wr ∧ Own wr b 40 (ints .u64 cur) ∧ cur.length = 68 ∧ Words cur ∧ 0 ≤ c ∧ c ≤ 1 ∧ num cur + c * W ^ j = C
/-- .. of a subtraction. -/
def MSt (w : World) (b : Nat) (wr : World) (j : Nat) (c C : Int) : Prop :=
  ∃ cur, Mod b w wr ∧ Own wr b 40 (ints .u64 cur) ∧ cur.length = 68 ∧ Words cur ∧ 0 ≤ c ∧ c ≤ 1 ∧ num cur - c * W ^ j = C

theorem PSt.opn {w wr : World} {b j : Nat} {c C : Int} (h : PSt w b wr j c C) (hj : j < 68) :
    ∃ x, 0 ≤ x ∧ x < 18446744073709551616 ∧ wr.cell? ⟨b, j, none⟩ = some (.int .u64 x) ∧ wr.frozen? ⟨b, j, none⟩ = false ∧ 0 ≤ c ∧ c ≤ 1 ∧
      ∀ y, 0 ≤ y → y < 18446744073709551616 → PSt w b ((wr.setCell ⟨b, j, none⟩ (.int .u64 ((x + y + c) % 18446744073709551616))).drew) (j + 1) ((x + y + c) / 18446744073709551616) (C + y * W ^ j) := by
  obtain ⟨cur, hm, ho, hl, hw, hc, hc', hn⟩ := h
  have hx := hw.at j
  refine ⟨cur[j]?.getD 0, hx.1, hx.2, ho.int (by omega), ho.free j, hc, hc', fun y hy hy' => ?_⟩
  exact ⟨_, (hm.setCell _ _).up (Up.refl _).drew, (ho.setInt j _).drew, by rw [List.length_set]; exact hl, hw.set _ _ (by omega) (by omega), by omega, by omega, add_step (by omega) add_word hn⟩
theorem MSt.opn {w wr : World} {b j : Nat} {c C : Int} (h : MSt w b wr j c C) (hj : j < 68) :
    ∃ x, 0 ≤ x ∧ x < 18446744073709551616 ∧ wr.cell? ⟨b, j, none⟩ = some (.int .u64 x) ∧ wr.frozen? ⟨b, j, none⟩ = false ∧ 0 ≤ c ∧ c ≤ 1 ∧
      ∀ y, 0 ≤ y → y < 18446744073709551616 → MSt w b ((wr.setCell ⟨b, j, none⟩ (.int .u64 ((x - y - c) % 18446744073709551616))).drew) (j + 1) (bor x (y + c)) (C - y * W ^ j) := by
  obtain ⟨cur, hm, ho, hl, hw, hc, hc', hn⟩ := h
  have hx := hw.at j
  refine ⟨cur[j]?.getD 0, hx.1, hx.2, ho.int (by omega), ho.free j, hc, hc', fun y hy hy' => ?_⟩
  have hb := bor_range (cur[j]?.getD 0) (y + c)
  exact ⟨_, (hm.setCell _ _).up (Up.refl _).drew, (ho.setInt j _).drew, by rw [List.length_set]; exact hl, hw.set _ _ (by omega) (by omega), hb.1, hb.2, sub_step (by omega) (sub_word hx.1 hx.2 hy hy' hc hc') hn⟩
theorem W_pow (q : Nat) : W ^ q = 2 ^ (64 * q) := by rw [Int.pow_mul]; rfl
theorem place_sum {p y r X : Int} {s q : Nat} (key : p + y * W + r * (W * W) = X * 2 ^ s) : p * W ^ q + y * W ^ (q + 1) + r * W ^ (q + 1 + 1) = X * 2 ^ (64 * q + s) := by
  have h := congrArg (· * W ^ q) key
  simp only [Int.add_mul] at h
  rw [Int.pow_succ W (q + 1), Int.pow_succ W q, Int.pow_add, ← W_pow q, Int.mul_comm (W ^ q) (2 ^ s), ← Int.mul_assoc X, ← h]
  have a1 : y * W * W ^ q = y * (W ^ q * W) := by rw [Int.mul_assoc, Int.mul_comm W]
  have a2 : r * (W * W) * W ^ q = r * (W ^ q * W * W) := by rw [Int.mul_assoc, Int.mul_comm (W * W), ← Int.mul_assoc (W ^ q)]
  rw [a1, a2]

set_option maxRecDepth 100000 in
set_option maxHeartbeats 6400000 in
theorem place_plus (b hi lo i : Nat) (xs : List Int) (w : World) (h : AccAt w b xs) (hhi : hi < 18446744073709551616) (hlo : lo < 18446744073709551616) (hi' : i < 4160) :
    Calls Tabg.prog 98 #[.pointer (some ⟨b, 0, none⟩), .bool false, .int .u64 hi, .int .u64 lo, .int .i64 i] w fun e w' => e = .returned (.tuple #[]) ∧ Mod b w w' ∧
      ∃ ys, AccAt w' b ys ∧ num ys = (num xs + ((hi : Int) * W + lo) * 2 ^ i) % W ^ 68 := by
  obtain ⟨q, s, hq, hs, hqs⟩ : ∃ q s : Nat, q ≤ 64 ∧ s < 64 ∧ i = 64 * q + s := ⟨i / 64, i % 64, by omega, by omega, by omega⟩
  have e1 : (i : Int) / 64 = (q : Int) := by omega
  have e2 : (i : Int) % 64 = (s : Int) := by omega
  have s0 : (0 : Int) ≤ (s : Int) := by omega
  have s1 : (0 : Int) ≤ 64 - (s : Int) := by omega
  have s2 : (64 - (s : Int)).toNat = 64 - s := by omega
  have s3 : (s : Int) ≤ 64 := by omega
  obtain ⟨p, y, r, hp, hy, hr, pr, yr, rr, key⟩ := shift3I hi lo s (by omega) hhi hlo
  have HP : Hid (IntKind.u64.wrap ((lo : Int) * 2 ^ s) = p) := hp
  have HY : Hid (bits .or .u64 (IntKind.u64.wrap ((hi : Int) * 2 ^ s)) ((lo : Int) / 2 ^ (64 - s)) = y) := hy
  have HR : Hid ((hi : Int) / 2 ^ (64 - s) = r) := hr
  have KEY : Hid (p * W ^ q + y * W ^ (q + 1) + r * W ^ (q + 1 + 1) = ((hi : Int) * W + lo) * 2 ^ i) := by
    show _ = _; rw [hqs]; exact place_sum key
  have hst : ∀ wc, Up w wc → PSt w b wc q 0 (num xs) := fun wc hU => ⟨xs, hU.mod b, h.own.up hU, h.len, h.words, by decide, by decide, by rw [Int.zero_mul, Int.add_zero]⟩
  clear hqs hp hy hr key
  have q68 : (q : Int) < 68 := by omega
  have q0 : (0 : Int) ≤ (q : Int) := by omega
  have q681 : (q : Int) + 1 < 68 := by omega
  have q01 : (0 : Int) ≤ (q : Int) + 1 := by omega
  have q682 : (q : Int) + 2 < 68 := by omega
  have q02 : (0 : Int) ≤ (q : Int) + 2 := by omega
  have qw1 : IntKind.i64.wrap ((q : Int) + 1) = (q : Int) + 1 := by rw [IntKind.wrap_i64]; omega
  have qw2 : IntKind.i64.wrap ((q : Int) + 2) = (q : Int) + 2 := by rw [IntKind.wrap_i64]; omega
  have qn1 : ((q : Int) + 1).toNat = q + 1 := by omega
  have qn2 : ((q : Int) + 2).toNat = q + 1 + 1 := by omega
  go_enter Tabg.func98, Tabg.ntmps98
  go_wp2
  go_cut [10, 11, 12, 13, 14] (fun z1 z2 a1 a2 a3 wc => z1 = .int .i64 q ∧ z2 = .int .i64 s ∧ a1 = .int .u64 p ∧ a2 = .int .u64 y ∧ a3 = .int .u64 r ∧ Up w wc)
  case first =>
    go_quiet (fail)
    go_wp2
    go_meet
    case rel => exact ⟨by first | rfl | exact congrArg _ e1, by first | rfl | exact congrArg _ e2, congrArg _ HP.out, congrArg _ HY.out, congrArg _ HR.out, (Up.refl _).drewN _⟩
  case rest =>
    obtain ⟨rfl, rfl, rfl, rfl, rfl, hU⟩ := hcut
    have h0 := hst wc hU
    clear hst e1 e2
    go_wp2
    go_cut [15] (fun a wc => ∃ c, a = .int .u64 c ∧ PSt w b wc (q + 1) c (num xs + p * W ^ q))
    case first =>
      obtain ⟨x, x0, x1, c0, f0, cc0, cc1, nx⟩ := h0.opn (by omega)
      have cA := fun w : World => accAdd x p 0 w x0 pr.1 (by decide) (by decide)
      have nx' := nx p pr.1 pr.2
      clear nx
      rw [Int.add_zero] at cA nx'
      go_region_with (first | (go_at_call 142; refine (cA _).mono ?_; rintro e w' ⟨rfl, rfl⟩))
      go_wp2
      go_simp
      go_meet
      case rel => exact ⟨_, rfl, nx'⟩
    case rest =>
      obtain ⟨c, rfl, h1⟩ := hcut
      clear h0
      go_wp2
      go_cut [15] (fun a wc => ∃ c, a = .int .u64 c ∧ PSt w b wc (q + 1 + 1) c (num xs + p * W ^ q + y * W ^ (q + 1)))
      case first =>
        obtain ⟨x, x0, x1, c0, f0, cc0, cc1, nx⟩ := h1.opn (by omega)
        have cA := fun w : World => accAdd x y c w x0 yr.1 cc0 cc1
        have nx' := nx y yr.1 yr.2
        clear nx
        go_region_with (first | (go_at_call 142; refine (cA _).mono ?_; rintro e w' ⟨rfl, rfl⟩))
        go_wp2
        go_simp
        go_meet
        case rel => exact ⟨_, rfl, nx'⟩
      case rest =>
        obtain ⟨c2, rfl, h2⟩ := hcut
        clear h1
        go_wp2
        go_cut [15] (fun a wc => ∃ c, a = .int .u64 c ∧ PSt w b wc (q + 1 + 1 + 1) c (num xs + p * W ^ q + y * W ^ (q + 1) + r * W ^ (q + 1 + 1)))
        case first =>
          obtain ⟨x, x0, x1, c0, f0, cc0, cc1, nx⟩ := h2.opn (by omega)
          have cA := fun w : World => accAdd x r c2 w x0 rr.1 cc0 cc1
          have nx' := nx r rr.1 rr.2
          clear nx
          go_region_with (first | (go_at_call 142; refine (cA _).mono ?_; rintro e w' ⟨rfl, rfl⟩))
          go_wp2
          go_simp
          go_meet
          case rel => exact ⟨_, rfl, nx'⟩
        case rest =>
          obtain ⟨c3, rfl, h3⟩ := hcut
          clear h2
          obtain ⟨C, hC⟩ : ∃ C, C = num xs + p * W ^ q + y * W ^ (q + 1) + r * W ^ (q + 1 + 1) := ⟨_, rfl⟩
          rw [← hC] at h3
          have HC : Hid (C = num xs + ((hi : Int) * W + lo) * 2 ^ i) := by show _ = _; rw [hC, ← KEY.out]; omega
          clear hC qw1 qw2 qn1 qn2 q681 q682 q01 q02
          go_wp2
          go_loopw [15, 17] (fun s t wr => ∃ (j : Nat) (c : Int), t = .int .i64 j ∧ s = .int .u64 c ∧ j ≤ 68 ∧ PSt w b wr j c C) (fun _ t _ => 68 - (intOf t).toNat)
          case atStart => exact ⟨q + 1 + 1 + 1, c3, by go_num, rfl, by omega, h3⟩
          case round =>
            clear h3
            obtain ⟨j, c, rfl, rfl, hj, hst⟩ := hrel
            by_cases hlt : j < 68
            · obtain ⟨x, x0, x1, c0, f0, cc0, cc1, nx⟩ := hst.opn hlt
              have cA := fun w : World => accAdd x 0 c w x0 (by decide) cc0 cc1
              have nx' := nx 0 (by decide) (by decide)
              rw [Int.zero_mul, Int.add_zero, Int.add_zero] at nx'
              rw [Int.add_zero] at cA
              clear nx
              have hj68 : (j : Int) < 68 := by omega
              have hj0 : (0 : Int) ≤ (j : Int) := by omega
              by_cases hc : c = 0
              · subst hc
                go_wp2
                go_end0
                obtain ⟨cur, hm, ho, hl, hw, _, _, hn⟩ := hst
                refine ⟨rfl, hm, cur, ⟨ho, hl, hw⟩, ?_⟩
                rw [Int.zero_mul, Int.add_zero] at hn
                have hr := num_range hw
                rw [hl] at hr
                rw [← HC.out, ← hn]
                exact (Int.emod_eq_of_lt hr.1 hr.2).symm
              · have hc' : (c != 0) = true := by simpa using hc
                go_upto_region 17 with fail
                go_region_with (first | (go_at_call 142; refine (cA _).mono ?_; rintro e w' ⟨rfl, rfl⟩))
                go_wp2
                go_roundw
                case rel => exact ⟨j + 1, _, by go_num, rfl, by omega, nx'⟩
                case measure => simp [intOf]; omega
            · have hd : decide ((j : Int) < 68) = false := by simp; omega
              go_wp2
              go_end0
              obtain ⟨cur, hm, ho, hl, hw, _, _, hn⟩ := hst
              obtain rfl : j = 68 := by omega
              refine ⟨rfl, hm, cur, ⟨ho, hl, hw⟩, ?_⟩
              have hr := num_range hw
              rw [hl] at hr
              rw [← HC.out]
              exact mod_of_carry hr.1 hr.2 hn
end Go.Proofs.Ygctab
