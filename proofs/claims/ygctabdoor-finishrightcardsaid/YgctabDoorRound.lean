import Derived.Test.YgctabDoorAccS
import Derived.Test.YgctabDoorAbs
namespace Go.Proofs.YgctabDoor
open Go.RowKit
set_option linter.unusedVariables false
set_option linter.unusedSimpArgs false
set_option exponentiation.threshold 6000

/-- Rounding to nearest, ties to even, by the digits. -/
theorem rne_bits (N E : Nat) : rne N (E + 1) = N / 2 ^ (E + 1) + (if N / 2 ^ E % 2 = 1 ∧ (N / 2 ^ (E + 1) % 2 = 1 ∨ N % 2 ^ E ≠ 0) then 1 else 0) := by
  have hp := two_pos E
  have ht : N % 2 ^ E < 2 ^ E := Nat.mod_lt _ hp
  have hr : N % 2 ^ (E + 1) = N % 2 ^ E + 2 ^ E * (N / 2 ^ E % 2) := by
    rw [Nat.pow_succ, Nat.mod_mul]
  unfold rne
  congr 1
  rw [hr]
  have hb : N / 2 ^ E % 2 = 0 ∨ N / 2 ^ E % 2 = 1 := by omega
  generalize N / 2 ^ (E + 1) % 2 = o
  rw [Nat.pow_succ]
  generalize N % 2 ^ E = t at *
  generalize 2 ^ E = P at *
  rcases hb with hb | hb
  · rw [hb, Nat.mul_zero, Nat.add_zero, if_neg (by omega), if_neg (by omega)]
  · rw [hb, Nat.mul_one]
    by_cases h1 : o = 1 ∨ t ≠ 0
    · rw [if_pos (by omega), if_pos ⟨rfl, h1⟩]
    · rw [if_neg (by omega), if_neg (by rintro ⟨-, h2⟩; exact h1 h2)]

/-- What Round reads off n * 2^1074. -/
theorem round_parts (n : Nat) (h0 : n ≠ 0) : (n * 2 ^ 1074).log2 = n.log2 + 1074 ∧ n * 2 ^ 1074 / 2 ^ (ed n + 1074) % 9007199254740992 = n / 2 ^ ed n ∧
    rne n (ed n) = n / 2 ^ ed n + (if n * 2 ^ 1074 / 2 ^ (ed n + 1073) % 2 = 1 ∧ (n / 2 ^ ed n % 2 = 1 ∨ n * 2 ^ 1074 % 2 ^ (ed n + 1073) ≠ 0) then 1 else 0) := by
  have h1 : n * 2 ^ 1074 / 2 ^ (ed n + 1074) = n / 2 ^ ed n := by
    rw [Nat.pow_add, Nat.mul_div_mul_right _ _ (two_pos 1074)]
  refine ⟨log2_mul_pow h0 1074, ?_, ?_⟩
  · rw [h1, Nat.mod_eq_of_lt]
    rw [Nat.div_lt_iff_lt_mul (two_pos _)]
    have := ed_lt n
    rw [Nat.pow_add] at this
    exact this
  · rw [← h1, ← rne_scale n 1074 (ed n)]
    exact rne_bits (n * 2 ^ 1074) (ed n + 1073)

set_option maxRecDepth 100000 in
theorem round_zero (b : Nat) (xs : List Int) (w : World) (h : AccAt w b xs) (hN : num xs = 0) :
    Calls Tabg.prog 9 #[.pointer (some ⟨b, 0, none⟩)] w fun e w' => e = .returned (.float .f64 0) ∧ Up w w' := by
  have HA : Hid (AccAt w b xs) := h
  have HN : Hid (num xs = 0) := hN
  have hZ : Hid (AccAt (w.alloc (.cells Z68 31)) w.heap.size (List.replicate 68 0)) := AccAt.zero w
  have HC : Hid (AccAt (setAcc (w.alloc (.cells Z68 31)) w.heap.size xs) w.heap.size xs) := AccAt.setAcc hZ.out h.len h.words
  have HU : Hid (Up w (setAcc (w.alloc (.cells Z68 31)) w.heap.size xs)) := Up.ofMod ((Up.refl w).alloc _) ((Mod.refl _ _).setAcc xs) (Nat.le_refl _)
  clear h hN
  go_enter Tabg.func9, Tabg.ntmps9
  go_wp2_with (first | (refine wpList_load40 rfl _ rfl b rfl xs HA.out ?_) | (refine wpList_store40 rfl _ _ rfl w.heap.size rfl xs rfl (AccAt.len HA.out) _ hZ.out ?_))
  generalize setAcc (w.alloc (.cells Z68 31)) w.heap.size xs = W1 at *
  have c1 := accSign_any w.heap.size xs W1 HC.out
  rw [HN.out, show sgn (sv 0) = 0 by unfold sv; rw [if_pos (by rw [half_eq]; decide)]; rfl] at c1
  refine c1.mono ?_
  clear c1
  rintro e w' ⟨rfl, rfl⟩
  go_wp2_with (fail)
  refine (accAbs_any w.heap.size xs W1 HC.out).mono ?_
  rintro e w2 ⟨rfl, hm, ys, hy, hyv⟩
  rw [HN.out, show (((sv 0).natAbs : Int)) % W ^ 68 = 0 by unfold sv; rw [if_pos (by rw [half_eq]; decide)]; simp] at hyv
  have c3 := highest_zero w.heap.size ys w2 hy hyv
  have C3 : Hid (Calls Tabg.prog 20 #[.pointer (some ⟨w.heap.size, 0, none⟩)] w2 fun e w' => e = .returned (.int .i64 (-1)) ∧ w2 = w') := c3
  have HU2 : Hid (Up w w2) := Up.ofMod HU.out hm (Nat.le_refl _)
  clear hm hy hyv c3
  go_wp2_with (fail)
  refine Calls.mono C3.out ?_
  rintro e w' ⟨rfl, rfl⟩
  clear C3
  go_wp2
  go_ret
  exact ⟨rfl, HU2.out⟩

theorem wrap16 (n : Int) : IntKind.i16.wrap n = (n + 32768) % 65536 - 32768 := by
  simp [IntKind.wrap, IntKind.bits, IntKind.signed]
  split <;> omega
theorem rne_pos {n : Nat} (h : n ≠ 0) : rne n (ed n) ≠ 0 := by
  by_cases hd : ed n = 0
  · rw [hd]
    have := rne_exact (n := n) (d := 0) (by simp)
    rw [Nat.pow_zero, Nat.mul_one] at this
    rw [this]
    exact h
  · have : 2 ^ 52 ≤ rne n (ed n) := rne_ge (by rw [← Nat.pow_add]; exact ed_ge hd)
    omega
theorem sgn_scale (S : Int) (k : Nat) (h0 : S ≠ 0) : decide (sgn (S * 2 ^ k) < 0) = decide (S < 0) := by
  have hp : (0 : Int) < 2 ^ k := Int.pow_pos (by decide)
  unfold sgn
  by_cases hS : S < 0
  · rw [if_pos (Int.mul_neg_of_neg_of_pos hS hp), decide_eq_true hS]; rfl
  · have : 0 < S * 2 ^ k := Int.mul_pos (by omega) hp
    rw [if_neg (by omega), if_neg (by omega), decide_eq_false hS]; rfl

set_option maxRecDepth 100000 in
set_option maxHeartbeats 3200000 in
theorem round_some (b : Nat) (xs : List Int) (w : World) (S : Int) (h : AccAt w b xs) (hT : TabG w) (h0 : S ≠ 0) (hSb : S.natAbs < 2 ^ 2096) (hN : num xs = (S * 2 ^ 1074) % W ^ 68) :
    Calls Tabg.prog 9 #[.pointer (some ⟨b, 0, none⟩)] w fun e w' => ∃ r, e = .returned (.float .f64 r) ∧ Fin64 r ∧ fval r = rnd S ∧ Up w w' := by
  obtain ⟨n, hn⟩ : ∃ n, n = S.natAbs := ⟨_, rfl⟩
  have hn0 : n ≠ 0 := by omega
  have hpow : ((2 ^ 1074 : Nat) : Int) = 2 ^ 1074 := by rw [Int.natCast_pow]; rfl
  have hM : (S * 2 ^ 1074).natAbs = n * 2 ^ 1074 := by rw [Int.natAbs_mul, hn, ← hpow, Int.natAbs_natCast]
  have hMb : n * 2 ^ 1074 < 2 ^ 3170 := by
    rw [hn]
    have := Nat.mul_lt_mul_of_pos_right hSb (two_pos 1074)
    rw [← Nat.pow_add] at this
    exact this
  have hHalf : ((2 ^ 3170 : Nat) : Int) < Half := by rw [half_eq, Int.natCast_pow]; decide
  have hsv : sv (num xs) = S * 2 ^ 1074 := by
    rw [hN]
    exact sv_mod (by omega) (by omega)
  obtain ⟨neg, hneg⟩ : ∃ neg, decide (sgn (S * 2 ^ 1074) < 0) = neg := ⟨_, rfl⟩
  have hneg' : neg = decide (S < 0) := by rw [← hneg, sgn_scale S 1074 h0]
  have HA : Hid (AccAt w b xs) := h
  have HSV : Hid (sv (num xs) = S * 2 ^ 1074) := hsv
  have hZ : Hid (AccAt (w.alloc (.cells Z68 31)) w.heap.size (List.replicate 68 0)) := AccAt.zero w
  have HC : Hid (AccAt (setAcc (w.alloc (.cells Z68 31)) w.heap.size xs) w.heap.size xs) := AccAt.setAcc hZ.out h.len h.words
  have HU : Hid (Up w (setAcc (w.alloc (.cells Z68 31)) w.heap.size xs)) := Up.ofMod ((Up.refl w).alloc _) ((Mod.refl _ _).setAcc xs) (Nat.le_refl _)
  have HT : Hid (TabG w) := hT
  obtain ⟨p1, p2, p3⟩ := round_parts n hn0
  have hnl : n.log2 < 2096 := (Nat.log2_lt hn0).2 (by omega)
  obtain ⟨N, hNN⟩ : ∃ N, N = n * 2 ^ 1074 := ⟨_, rfl⟩
  rw [← hNN] at p1 p2 p3 hM hMb
  obtain ⟨d, hd⟩ : ∃ d, d = ed n := ⟨_, rfl⟩
  have hdl : d = n.log2 - 52 := hd
  rw [← hd] at p2 p3
  obtain ⟨man, hman⟩ : ∃ man, man = n / 2 ^ d := ⟨_, rfl⟩
  rw [← hman] at p2 p3
  have hmanlt : man < 9007199254740992 := by rw [← p2]; exact Nat.mod_lt _ (by decide)
  obtain ⟨mr, hmr⟩ : ∃ mr, mr = rne n d := ⟨_, rfl⟩
  rw [← hmr] at p3
  have hN0 : N ≠ 0 := by rw [hNN]; exact Nat.mul_ne_zero hn0 (Nat.ne_of_gt (two_pos _))
  have HMR : Hid (mr ≠ 0 ∧ mr ≤ 9007199254740992 ∧ mr * 2 ^ d < 2 ^ 2097 ∧ sgnI neg * ((mr * 2 ^ d : Nat) : Int) = rnd S) := by
    have e1 : mr * 2 ^ d = rndN n := by rw [hmr, hd]; rfl
    refine ⟨by rw [hmr, hd]; exact rne_pos hn0, ?_, ?_, ?_⟩
    · rw [hmr, hd]
      exact rne_le (by rw [show (9007199254740992 : Nat) = 2 ^ 53 by decide, ← Nat.pow_add]; exact ed_lt n)
    · have h1 := rnd_abs_le S
      rw [rnd_abs, ← hn] at h1
      rw [e1]
      have h2 : 2 * n < 2 * 2 ^ 2096 := by omega
      rw [show (2 : Nat) ^ 2097 = 2 * 2 ^ 2096 by decide]
      omega
    · rw [e1, hneg', hn]
      unfold rnd sgnI
      by_cases hS : S < 0
      · rw [if_pos hS, decide_eq_true hS, if_pos rfl]; omega
      · rw [if_neg hS, decide_eq_false hS, if_neg (by simp)]; omega
  have HN0 : Hid (N ≠ 0) := hN0
  have HM : Hid ((S * 2 ^ 1074).natAbs = N ∧ N < 2 ^ 3170) := ⟨hM, hMb⟩
  obtain ⟨B, hB'⟩ : ∃ B, B = decide (N / 2 ^ (d + 1073) % 2 = 1) := ⟨_, rfl⟩
  obtain ⟨A, hA'⟩ : ∃ A, A = !decide (N % 2 ^ (d + 1073) = 0) := ⟨_, rfl⟩
  have HRN : Hid (mr = man + (if B = true ∧ (man % 2 = 1 ∨ A = true) then 1 else 0)) := by
    show _ = _
    rw [p3, hB', hA']
    simp
  have BO : Hid (bits .and .u64 (man : Int) 1 = ((man % 2 : Nat) : Int)) := by
    have := u64_and_nat man 1 (by omega) (by decide)
    rw [nat_mask1] at this
    exact this
  have HP2 : Hid (N / 2 ^ (d + 1074) % 9007199254740992 = man) := p2
  have HP1 : Hid (N.log2 = n.log2 + 1074) := p1
  have HB' : Hid (B = decide (N / 2 ^ (d + 1073) % 2 = 1)) := hB'
  have HA' : Hid (A = !decide (N % 2 ^ (d + 1073) = 0)) := hA'
  obtain ⟨m1, hm1⟩ : ∃ m1, m1 = man + 1 := ⟨_, rfl⟩
  have hmw : IntKind.u64.wrap ((man : Int) + 1) = (m1 : Int) := by rw [IntKind.wrap_u64]; omega
  have HM1 : Hid (m1 = man + 1) := hm1
  clear hm1
  clear p1 p2 p3 hB' hA' hM hMb hN0 hmr hman hd hNN hpow hHalf hneg' hsv hN h hT hSb h0
  go_enter Tabg.func9, Tabg.ntmps9
  go_wp2_with (first | (refine wpList_load40 rfl _ rfl b rfl xs HA.out ?_) | (refine wpList_store40 rfl _ _ rfl w.heap.size rfl xs rfl (AccAt.len HA.out) _ hZ.out ?_))
  generalize setAcc (w.alloc (.cells Z68 31)) w.heap.size xs = W1 at *
  have c1 := accSign_any w.heap.size xs W1 HC.out
  rw [HSV.out] at c1
  obtain ⟨g, hg⟩ : ∃ g, g = sgn (S * 2 ^ 1074) := ⟨_, rfl⟩
  rw [← hg] at c1 hneg
  clear hg
  refine c1.mono ?_
  clear c1
  rintro e w' ⟨rfl, rfl⟩
  go_wp2_with (fail)
  refine (accAbs_any w.heap.size xs W1 HC.out).mono ?_
  rintro e w2 ⟨rfl, hm, ys, hy, hyv⟩
  have hyN : num ys = (N : Int) := by
    rw [hyv, HSV.out, HM.out.1]
    refine Int.emod_eq_of_lt (by omega) ?_
    rw [w68_eq]
    have h1 : (N : Int) < ((2 ^ 3170 : Nat) : Int) := by have := HM.out.2; omega
    refine Int.lt_trans h1 ?_
    rw [Int.natCast_pow]
    decide
  have CH : Hid (Calls Tabg.prog 20 #[.pointer (some ⟨w.heap.size, 0, none⟩)] w2 fun e w' => e = .returned (.int .i64 ((n.log2 + 1074 : Nat) : Int)) ∧ w2 = w') := by
    have := highest_any w.heap.size N ys w2 hy hyN HN0.out
    rw [HP1.out] at this
    exact this
  have CF : Hid (Calls Tabg.prog 21 #[.pointer (some ⟨w.heap.size, 0, none⟩), .int .i64 ((d + 1074 : Nat) : Int)] w2 fun e w' => e = .returned (.int .u64 (man : Int)) ∧ w2 = w') := by
    have := field_any w.heap.size (d + 1074) N (by omega) ys w2 hy hyN
    rw [HP2.out] at this
    exact this
  have CB : Hid (Calls Tabg.prog 22 #[.pointer (some ⟨w.heap.size, 0, none⟩), .int .i64 ((d + 1073 : Nat) : Int)] w2 fun e w' => e = .returned (.bool B) ∧ w2 = w') := by
    have := bit_any w.heap.size (d + 1073) (by omega) ys w2 hy
    rw [hyN, show decide ((N : Int) / 2 ^ (d + 1073) % 2 = 1) = B by
      rw [HB'.out]
      congr 1
      have e : (N : Int) / 2 ^ (d + 1073) = ((N / 2 ^ (d + 1073) : Nat) : Int) := by simp
      rw [e]
      exact propext ⟨fun h => by omega, fun h => by omega⟩] at this
    exact this
  have CA : Hid (Calls Tabg.prog 23 #[.pointer (some ⟨w.heap.size, 0, none⟩), .int .i64 ((d + 1073 : Nat) : Int)] w2 fun e w' => e = .returned (.bool A) ∧ w2 = w') := by
    have := anyBelow_any w.heap.size (d + 1073) N (by omega) ys w2 hy hyN
    rw [← HA'.out] at this
    exact this
  have HU2 : Hid (Up w w2) := Up.ofMod HU.out hm (Nat.le_refl _)
  have TG : Hid (TabG w2) := HT.out.up HU2.out
  clear hm hy hyv hyN HB' HA' HM HN0 HP1 HP2 HU HC hZ HA HSV HT
  have CJ : Hid (Calls Tabg.prog 24 #[.bool neg, .int .u64 mr, .int .i16 ((d : Int) - 1074)] w2 fun r w' => ∃ p, r = .returned (.tuple #[.float .f64 p, .bool true]) ∧ Fin64 p ∧ fval p = rnd S ∧ Up w w') := by
    refine (join64_any neg mr d w2 TG.out HMR.out.1 HMR.out.2.1 (by omega) HMR.out.2.2.1).mono ?_
    rintro e w3 ⟨p, rfl, hp1, hp2, hu3⟩
    exact ⟨p, rfl, hp1, by rw [hp2]; exact HMR.out.2.2.2, HU2.out.trans hu3⟩
  clear HU2 TG HMR
  obtain ⟨lw, hlw⟩ : ∃ lw : Int, lw = ((d + 1074 : Nat) : Int) := ⟨_, rfl⟩
  obtain ⟨lm, hlm⟩ : ∃ lm : Int, lm = ((d + 1073 : Nat) : Int) := ⟨_, rfl⟩
  obtain ⟨ej, hej⟩ : ∃ ej : Int, ej = (d : Int) - 1074 := ⟨_, rfl⟩
  obtain ⟨H, hH⟩ : ∃ H : Int, H = ((n.log2 + 1074 : Nat) : Int) := ⟨_, rfl⟩
  rw [← hlw] at CF
  rw [← hlm] at CB CA
  rw [← hH] at CH
  rw [← hej] at CJ
  have wl : IntKind.i64.wrap (lw - 1) = lm := by rw [IntKind.wrap_i64]; omega
  have wj : IntKind.i64.wrap (lw - 2148) = ej := by rw [IntKind.wrap_i64]; omega
  have wk : IntKind.i16.wrap ej = ej := by rw [wrap16]; omega
  have hH0 : decide (H < 0) = false := decide_eq_false (by omega)
  go_wp2_with (fail)
  refine (CH.out).mono ?_
  rintro e w' ⟨rfl, rfl⟩
  clear CH
  by_cases hc : n.log2 < 52
  · obtain rfl : lw = 1074 := by omega
    obtain rfl : lm = 1073 := by omega
    obtain rfl : ej = -1074 := by omega
    have wh : IntKind.i64.wrap (H - 52) = H - 52 := by rw [IntKind.wrap_i64]; omega
    have hl1 : H - 52 < 1074 := by omega
    clear hlw hlm hH hdl hc hnl hn hn0 hej wl wj wk hmanlt
    go_wp2_with (fail)
    refine (CF.out).mono ?_
    rintro e w' ⟨rfl, rfl⟩
    clear CF
    go_wp2_with (fail)
    refine (CB.out).mono ?_
    rintro e w' ⟨rfl, rfl⟩
    clear CB
    cases hB : B
    · obtain rfl : mr = man := by have h1 := HRN.out; rw [hB] at h1; simpa using h1
      clear HRN CA HM1
      go_wp2_with (fail)
      refine (CJ.out).mono ?_
      rintro e w3 ⟨p, rfl, hp⟩
      have HP : Hid (Fin64 p ∧ fval p = rnd S ∧ Up w w3) := hp
      clear hp
      go_wp2
      go_ret
      exact ⟨p, rfl, HP.out⟩
    · by_cases hO : man % 2 = 1
      · obtain rfl : mr = m1 := by have h1 := HRN.out; rw [hB] at h1; rw [HM1.out]; simpa [hO] using h1
        have bo : bits .and .u64 (man : Int) 1 = 1 := by rw [BO.out, hO]; rfl
        clear HRN CA HM1
        go_wp2_with (fail)
        refine (CJ.out).mono ?_
        rintro e w3 ⟨p, rfl, hp⟩
        have HP : Hid (Fin64 p ∧ fval p = rnd S ∧ Up w w3) := hp
        clear hp
        go_wp2
        go_ret
        exact ⟨p, rfl, HP.out⟩
      · have hO0 : man % 2 = 0 := by omega
        have bo : bits .and .u64 (man : Int) 1 = 0 := by rw [BO.out, hO0]; rfl
        cases hA : A
        · obtain rfl : mr = man := by have h1 := HRN.out; rw [hB, hA] at h1; simpa [hO] using h1
          clear HRN HM1
          rw [hA] at CA
          go_wp2_with (fail)
          refine (CA.out).mono ?_
          rintro e w' ⟨rfl, rfl⟩
          clear CA
          go_wp2_with (fail)
          refine (CJ.out).mono ?_
          rintro e w3 ⟨p, rfl, hp⟩
          have HP : Hid (Fin64 p ∧ fval p = rnd S ∧ Up w w3) := hp
          clear hp
          go_wp2
          go_ret
          exact ⟨p, rfl, HP.out⟩
        · obtain rfl : mr = m1 := by have h1 := HRN.out; rw [hB, hA] at h1; rw [HM1.out]; simpa [hO] using h1
          clear HRN HM1
          rw [hA] at CA
          go_wp2_with (fail)
          refine (CA.out).mono ?_
          rintro e w' ⟨rfl, rfl⟩
          clear CA
          go_wp2_with (fail)
          refine (CJ.out).mono ?_
          rintro e w3 ⟨p, rfl, hp⟩
          have HP : Hid (Fin64 p ∧ fval p = rnd S ∧ Up w w3) := hp
          clear hp
          go_wp2
          go_ret
          exact ⟨p, rfl, HP.out⟩
  · have wh : IntKind.i64.wrap (H - 52) = lw := by rw [IntKind.wrap_i64]; omega
    have hl1 : decide (lw < 1074) = false := decide_eq_false (by omega)
    clear hlw hlm hH hdl hc hnl hn hn0 hej hmanlt
    go_wp2_with (fail)
    refine (CF.out).mono ?_
    rintro e w' ⟨rfl, rfl⟩
    clear CF
    go_wp2_with (fail)
    refine (CB.out).mono ?_
    rintro e w' ⟨rfl, rfl⟩
    clear CB
    cases hB : B
    · obtain rfl : mr = man := by have h1 := HRN.out; rw [hB] at h1; simpa using h1
      clear HRN CA HM1
      go_wp2_with (fail)
      refine (CJ.out).mono ?_
      rintro e w3 ⟨p, rfl, hp⟩
      have HP : Hid (Fin64 p ∧ fval p = rnd S ∧ Up w w3) := hp
      clear hp
      go_wp2
      go_ret
      exact ⟨p, rfl, HP.out⟩
    · by_cases hO : man % 2 = 1
      · obtain rfl : mr = m1 := by have h1 := HRN.out; rw [hB] at h1; rw [HM1.out]; simpa [hO] using h1
        have bo : bits .and .u64 (man : Int) 1 = 1 := by rw [BO.out, hO]; rfl
        clear HRN CA HM1
        go_wp2_with (fail)
        refine (CJ.out).mono ?_
        rintro e w3 ⟨p, rfl, hp⟩
        have HP : Hid (Fin64 p ∧ fval p = rnd S ∧ Up w w3) := hp
        clear hp
        go_wp2
        go_ret
        exact ⟨p, rfl, HP.out⟩
      · have hO0 : man % 2 = 0 := by omega
        have bo : bits .and .u64 (man : Int) 1 = 0 := by rw [BO.out, hO0]; rfl
        cases hA : A
        · obtain rfl : mr = man := by have h1 := HRN.out; rw [hB, hA] at h1; simpa [hO] using h1
          clear HRN HM1
          rw [hA] at CA
          go_wp2_with (fail)
          refine (CA.out).mono ?_
          rintro e w' ⟨rfl, rfl⟩
          clear CA
          go_wp2_with (fail)
          refine (CJ.out).mono ?_
          rintro e w3 ⟨p, rfl, hp⟩
          have HP : Hid (Fin64 p ∧ fval p = rnd S ∧ Up w w3) := hp
          clear hp
          go_wp2
          go_ret
          exact ⟨p, rfl, HP.out⟩
        · obtain rfl : mr = m1 := by have h1 := HRN.out; rw [hB, hA] at h1; rw [HM1.out]; simpa [hO] using h1
          clear HRN HM1
          rw [hA] at CA
          go_wp2_with (fail)
          refine (CA.out).mono ?_
          rintro e w' ⟨rfl, rfl⟩
          clear CA
          go_wp2_with (fail)
          refine (CJ.out).mono ?_
          rintro e w3 ⟨p, rfl, hp⟩
          have HP : Hid (Fin64 p ∧ fval p = rnd S ∧ Up w w3) := hp
          clear hp
          go_wp2
          go_ret
          exact ⟨p, rfl, HP.out⟩
end Go.Proofs.YgctabDoor
