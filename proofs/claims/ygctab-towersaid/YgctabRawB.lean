import Derived.Test.YgctabRawA
namespace Go.Proofs.Ygctab
open Go.RowKit
set_option linter.unusedVariables false
set_option linter.unusedSimpArgs false

theorem rdC_len' {w w' : World} {b n : Nat} {T : TypeId} {zs : List (Nat × Nat)} (h : Own w b T (cxs zs)) (hl : zs.length = n) (hu : Up w w') : RdC w' (some ⟨b, 0, none⟩) n zs := by
  have := (Own.rdC h).up hu
  rwa [hl] at this

set_option maxRecDepth 100000 in
set_option maxHeartbeats 3200000 in
theorem raw_any (a a' : Option Addr) (la lb c c' : Nat) (xs ys : List Nat) (w : World) (hx : RdB w a la xs) (hy : RdB w a' lb ys) (hla : 1 ≤ la) (hlb : 1 ≤ lb) (hla' : la ≤ 512) (hlb' : lb ≤ 512) :
    Calls Tabg.prog 153 #[.slice a la c, .slice a' lb c'] w fun e w' => ∃ B k zs, e = .returned (.slice (some ⟨B, 0, none⟩) (2 ^ k) (2 ^ k)) ∧ Up w w' ∧ 1 ≤ k ∧ k ≤ 10 ∧ la + lb ≤ 2 ^ k + 1 ∧ zs.length = 2 ^ k ∧ Own w' B 27 (cxs zs) ∧ ∀ m, m < 2 ^ k → NearC (clsC (zat zs m)) (cv (atn xs) (atn ys) m) := by
  obtain ⟨M, hM⟩ : ∃ M, M = la + lb - 1 := ⟨_, rfl⟩
  have eM : (la : Int) + (lb : Int) - 1 = (M : Int) := by omega
  have HL : Hid (la = xs.length ∧ lb = ys.length ∧ Digs xs ∧ Digs ys ∧ M = la + lb - 1 ∧ 1 ≤ la ∧ 1 ≤ lb ∧ la ≤ 512 ∧ lb ≤ 512) := ⟨hx.1, hy.1, hx.2.1, hy.2.1, hM, hla, hlb, hla', hlb'⟩
  have HX : Hid (RdB w a la xs) := hx
  have HY : Hid (RdB w a' lb ys) := hy
  have g1 : decide ((512 : Int) < (la : Int)) = false := decide_eq_false (by omega)
  have g2 : decide ((512 : Int) < (lb : Int)) = false := decide_eq_false (by omega)
  have z1 : decide ((la : Int) = 0) = false := decide_eq_false (by omega)
  have z2 : ((la : Int) == 0) = false := by simp; omega
  have z3 : decide (la = 0) = false := decide_eq_false (by omega)
  have y1 : decide ((lb : Int) = 0) = false := decide_eq_false (by omega)
  have y2 : ((lb : Int) == 0) = false := by simp; omega
  have y3 : decide (lb = 0) = false := decide_eq_false (by omega)
  have laI : (la : Int) ≤ 512 := by omega
  have lbI : (lb : Int) ≤ 512 := by omega
  have MI : (M : Int) ≤ 1023 := by omega
  have M1 : (1 : Int) ≤ (M : Int) := by omega
  clear hM hx hy hla hlb hla' hlb'
  go_enter Tabg.func153, Tabg.ntmps153
  go_wp2_with (fail)
  go_loop [5] (fun t => ∃ k : Nat, t = .int .u8 k ∧ 1 ≤ k ∧ k ≤ 10) (fun t => 10 - (intOf t).toNat)
  case atStart => exact ⟨1, rfl, by omega, by omega⟩
  case round =>
    obtain ⟨k, rfl, hk, hk'⟩ := hrel
    clear g1 g2 z1 z2 z3 y1 y2 y3
    obtain ⟨n, hn⟩ : ∃ n, n = 2 ^ k := ⟨_, rfl⟩
    have hn4 : n ≤ 1024 := by rw [hn]; exact pow_le k hk'
    have sn : IntKind.i64.wrap (2 ^ k) = (n : Int) := by rw [← pow_cast, ← hn, IntKind.wrap_i64]; omega
    have kI : (k : Int) ≤ 10 := by omega
    have k0 : (1 : Int) ≤ (k : Int) := by omega
    have nI : (n : Int) ≤ 1024 := by omega
    by_cases hlt : n < M
    · have g3 : (n : Int) < (M : Int) := by omega
      have hk9 : k ≤ 9 := by
        rcases Nat.lt_or_ge k 10 with h | h
        · omega
        · have : 2 ^ 10 ≤ 2 ^ k := Nat.pow_le_pow_right (by decide) h
          omega
      clear hn
      go_wp2
      go_round
      case rel => exact ⟨k + 1, by go_num, by omega, by omega⟩
      case measure => simp [intOf]; omega
    · have g3 : decide ((n : Int) < (M : Int)) = false := decide_eq_false (by omega)
      have g4 : (M : Int) ≤ (n : Int) := by omega
      obtain ⟨H, hH⟩ : ∃ H, H = 2 ^ (k - 1) := ⟨_, rfl⟩
      have hnH : n = 2 * H := by rw [hn, hH, ← Nat.pow_succ']; congr 1; omega
      have HK : Hid (n = 2 ^ k ∧ 1 ≤ k ∧ k ≤ 10 ∧ H = 2 ^ (k - 1) ∧ n = 2 * H ∧ M ≤ n) := ⟨hn, hk, hk', hH, hnH, by omega⟩
      have CT : Hid (Calls Tabg.prog 172 #[.int .u8 (k : Int)] w fun e w' => e = .returned (.slice (some ⟨w.heap.size, 0, none⟩) H H) ∧ Up w w' ∧ ∃ tab, tab.length = H ∧ Own w' w.heap.size 27 (cxs tab) ∧ ∀ j, j < H → clsC (zat tab j) = clsC (zat twM (j * 2 ^ (10 - k)))) := by
        have := table_any k hk hk' w
        rwa [← hH] at this
      have CP1 : Hid (∀ w', Up w w' → Calls Tabg.prog 173 #[.slice a la c, .int .i64 n] w' fun e w'' => e = .returned (.slice (some ⟨w'.heap.size, 0, none⟩) n n) ∧ Up w' w'' ∧ Own w'' w'.heap.size 27 (cxs (ptL n xs))) := fun w' hu => points_any a la c n xs w' ((HX.out).up hu) (by omega) (by have := HL.out; omega)
      have CP2 : Hid (∀ w', Up w w' → Calls Tabg.prog 173 #[.slice a' lb c', .int .i64 n] w' fun e w'' => e = .returned (.slice (some ⟨w'.heap.size, 0, none⟩) n n) ∧ Up w' w'' ∧ Own w'' w'.heap.size 27 (cxs (ptL n ys))) := fun w' hu => points_any a' lb c' n ys w' ((HY.out).up hu) (by omega) (by have := HL.out; omega)
      have HE : Hid ((ptL n xs).length = n ∧ (ptL n ys).length = n) := ⟨ptL_length (by have := HL.out; omega), ptL_length (by have := HL.out; omega)⟩
      have HH1 : (1 : Int) ≤ (H : Int) := by have := two_pos (k - 1); omega
      have HH2 : (H : Int) ≤ 512 := by omega
      clear hn hH hnH hlt HX HY hn4 hk hk'
      go_wp2_with (fail)
      refine (CT.out).mono ?_
      rintro e w1 ⟨rfl, hu, tab, htl, hto, htc⟩
      have U1 : Hid (Up w w1) := hu
      have T1 : Hid (Own w1 w.heap.size 27 (cxs tab)) := hto
      have HT : Hid (tab.length = H ∧ ∀ j, j < H → clsC (zat tab j) = clsC (zat twM (j * 2 ^ (10 - k)))) := ⟨htl, htc⟩
      clear hu hto htl htc CT
      go_wp2_with (fail)
      refine (CP1.out _ U1.out).mono ?_
      rintro e w2 ⟨rfl, hu, ho⟩
      have U2 : Hid (Up w w2) := (U1.out).trans hu
      have T2 : Hid (Own w2 w.heap.size 27 (cxs tab)) := Own.up T1.out hu
      have X2 : Hid (Own w2 w1.heap.size 27 (cxs (ptL n xs))) := ho
      have B1 : Hid (w.heap.size < w1.heap.size) := (T1.out).lt
      clear hu ho CP1 U1 T1
      go_wp2_with (fail)
      refine (CP2.out _ U2.out).mono ?_
      rintro e w3 ⟨rfl, hu, ho⟩
      have U3 : Hid (Up w w3) := (U2.out).trans hu
      have T3 : Hid (Own w3 w.heap.size 27 (cxs tab)) := Own.up T2.out hu
      have X3 : Hid (Own w3 w1.heap.size 27 (cxs (ptL n xs))) := Own.up X2.out hu
      have Y3 : Hid (Own w3 w2.heap.size 27 (cxs (ptL n ys))) := ho
      have B2 : Hid (w1.heap.size < w2.heap.size) := (X2.out).lt
      clear hu ho CP2 U2 T2 X2
      have CF : Hid (∀ (E : List (Nat × Nat)) (b : Nat) (w' : World), E.length = n → w.heap.size < b → Own w' b 27 (cxs E) → Own w' w.heap.size 27 (cxs tab) → Calls Tabg.prog 105 #[.slice (some ⟨b, 0, none⟩) n n, .slice (some ⟨w.heap.size, 0, none⟩) H H] w' fun e w'' => e = .returned (.bool true) ∧ Mod b w' w'' ∧ ∃ zs, zs.length = n ∧ Own w'' b 27 (cxs zs) ∧ ∀ i, i < n → clsC (zat zs i) = stX k (fun i => clsC (zat tab i)) (fun i => clsC (zat (revL (0, 0) E) i)) k i) := fun E b w' hl hb ho ht => by
        have h := HK.out
        have := forward_k b k H n (some ⟨w.heap.size, 0, none⟩) E tab w' ho (by have := Own.rdC ht; exact this) (fun b' off e => by cases e; omega) (by omega) h.2.1 (by rw [hl]; exact h.1) (by rw [hl, HT.out.1]; exact h.2.2.2.2.1)
        rwa [hl, HT.out.1] at this
      have CI : Hid (∀ (E : List (Nat × Nat)) (b : Nat) (w' : World), E.length = n → Own w' b 27 (cxs E) → Own w' w.heap.size 27 (cxs tab) → Calls Tabg.prog 106 #[.slice (some ⟨b, 0, none⟩) n n, .slice (some ⟨w.heap.size, 0, none⟩) H H] w' fun e w'' => e = .returned (.bool true) ∧ Mod b w' w'' ∧ ∃ zs, zs.length = n ∧ Own w'' b 27 (cxs zs) ∧ ∀ i, i < n → clsC (zat zs i) = divX (floatOfInt .f64 n) (stX k (fun i => clsC (zat (conjL tab) i)) (fun i => clsC (zat (revL (0, 0) E) i)) k i)) := fun E b w' hl ho ht => by
        have h := HK.out
        have := inverse_k b k H n (some ⟨w.heap.size, 0, none⟩) E tab w' ho (Own.rdC ht) (by omega) h.2.1 (by rw [hl]; exact h.1) (by rw [hl, HT.out.1]; exact h.2.2.2.2.1)
        rwa [hl, HT.out.1] at this
      go_wp2_with (fail)
      refine (CF.out _ w1.heap.size w3 HE.out.1 B1.out X3.out T3.out).mono ?_
      rintro e w4 ⟨rfl, hm, X, hxl, hxo, hxc⟩
      have U4 : Hid (Up w w4) := (U3.out).ofMod hm (by have := B1.out; omega)
      have T4 : Hid (Own w4 w.heap.size 27 (cxs tab)) := Own.mod T3.out hm (by have := B1.out; omega)
      have X4 : Hid (Own w4 w1.heap.size 27 (cxs X)) := hxo
      have Y4 : Hid (Own w4 w2.heap.size 27 (cxs (ptL n ys))) := Own.mod Y3.out hm (by have := B2.out; omega)
      have HXc : Hid (X.length = n ∧ ∀ i, i < n → clsC (zat X i) = stX k (fun i => clsC (zat tab i)) (fun i => clsC (zat (revL (0, 0) (ptL n xs)) i)) k i) := ⟨hxl, hxc⟩
      clear hm hxl hxo hxc U3 T3 X3 Y3
      go_wp2_with (fail)
      refine (CF.out _ w2.heap.size w4 HE.out.2 (by have := B1.out; have := B2.out; omega) Y4.out T4.out).mono ?_
      rintro e w5 ⟨rfl, hm, Y, hyl, hyo, hyc⟩
      have U5 : Hid (Up w w5) := (U4.out).ofMod hm (by have := B1.out; have := B2.out; omega)
      have T5 : Hid (Own w5 w.heap.size 27 (cxs tab)) := Own.mod T4.out hm (by have := B1.out; have := B2.out; omega)
      have X5 : Hid (Own w5 w1.heap.size 27 (cxs X)) := Own.mod X4.out hm (by have := B2.out; omega)
      have Y5 : Hid (Own w5 w2.heap.size 27 (cxs Y)) := hyo
      have HYc : Hid (Y.length = n ∧ ∀ i, i < n → clsC (zat Y i) = stX k (fun i => clsC (zat tab i)) (fun i => clsC (zat (revL (0, 0) (ptL n ys)) i)) k i) := ⟨hyl, hyc⟩
      clear hm hyl hyo hyc U4 T4 X4 Y4 CF
      go_wp2_with (fail)
      go_loopw [9] (fun t wr => ∃ (i : Nat) (cur : List (Nat × Nat)), t = .int .i64 i ∧ i ≤ n ∧ Hid (Up w wr) ∧ Hid (Own wr w1.heap.size 27 (cxs cur) ∧ Own wr w2.heap.size 27 (cxs Y) ∧ Own wr w.heap.size 27 (cxs tab)) ∧ Hid (cur.length = n ∧ ∀ p, p < n → clsC (zat cur p) = if p < i then mulX (clsC (zat X p)) (clsC (zat Y p)) else clsC (zat X p))) (fun t _ => n - (intOf t).toNat)
      case atStart => exact ⟨0, X, rfl, by omega, U5, ⟨X5.out, Y5.out, T5.out⟩, ⟨HXc.out.1, fun p hp => by simp⟩⟩
      case round =>
        obtain ⟨i, cur, rfl, hi, HU, HW, HI⟩ := hrel
        clear U5 T5 X5 Y5
        by_cases hlt : i < n
        · have cz := Own.cx HW.out.1 (i := i) (by rw [HI.out.1]; exact hlt)
          have fz := Own.free HW.out.1 i
          have cy := Own.cx HW.out.2.1 (i := i) (by rw [HYc.out.1]; exact hlt)
          have HZ : Hid (clsC (zat cur i) = clsC (zat X i)) := by show _ = _; rw [HI.out.2 i hlt]; simp
          obtain ⟨zx, hzx⟩ : ∃ zx, zx = zat cur i := ⟨_, rfl⟩
          obtain ⟨zy, hzy⟩ : ∃ zy, zy = zat Y i := ⟨_, rfl⟩
          rw [← hzx] at cz HZ
          rw [← hzy] at cy
          have HZY : Hid (zy = zat Y i) := hzy
          obtain ⟨x1, x2⟩ := zx
          obtain ⟨q1, q2⟩ := zy
          have CM : Hid (∀ w, Calls Tabg.prog 147 #[.complex .f64 x1 x2, .complex .f64 q1 q2] w fun e w' => ∃ p q, e = .returned (.complex .f64 p q) ∧ clsC (p, q) = mulX (clsC (x1, x2)) (clsC (q1, q2)) ∧ Up w w') := fun w => mul_any _ _ _ _ w
          have i0 : (0 : Int) ≤ (i : Int) := by omega
          have im : (i : Int) < (n : Int) := by omega
          clear hzx hzy CI
          go_wp2_with (fail)
          go_region_with (first | (go_at_call 147; refine (CM.out _).mono ?_; rintro e wL ⟨v1, v2, rfl, HMU', uL⟩; have HMU : Hid (clsC (v1, v2) = mulX (clsC (x1, x2)) (clsC (q1, q2))) := HMU'; have HUL : Hid (Up wr wL) := Up.trans ((Up.refl wr).drewN _) uL; have czL := (HUL.out).cell cz; have HOL : Hid (Own wL w1.heap.size 27 (cxs cur) ∧ Own wL w2.heap.size 27 (cxs Y) ∧ Own wL w.heap.size 27 (cxs tab)) := ⟨Own.up HW.out.1 HUL.out, Own.up HW.out.2.1 HUL.out, Own.up HW.out.2.2 HUL.out⟩; have fzL := Own.free HOL.out.1 i; clear uL HMU'))
          all_goals go_wp2_with (fail)
          all_goals go_roundw
          all_goals first
            | (simp [intOf]; omega)
            | (refine ⟨i + 1, cur.set i (v1, v2), by go_num, by omega, ((HU.out).trans HUL.out).setCell (by have := B1.out; show w.heap.size ≤ w1.heap.size; omega) _, ⟨Own.setCx HOL.out.1 i _ _, Own.other HOL.out.2.1 (by have := B2.out; show _ ≠ w1.heap.size; omega) _, Own.other HOL.out.2.2 (by have := B1.out; show _ ≠ w1.heap.size; omega) _⟩, ⟨by rw [List.length_set]; exact HI.out.1, fun p hp => ?_⟩⟩
               rw [zat_set _ (by rw [HI.out.1]; exact hlt)]
               by_cases hpi : p = i
               · subst hpi
                 rw [if_pos rfl, if_pos (Nat.lt_succ_self _), HMU.out, HZ.out, HZY.out]
               · rw [if_neg hpi, HI.out.2 p hp]
                 by_cases h2 : p < i
                 · rw [if_pos h2, if_pos (by omega)]
                 · rw [if_neg h2, if_neg (by omega)])
        · obtain rfl : n = i := by omega
          have HF : Hid (cur.length = n ∧ ∀ p, p < n → clsC (zat cur p) = mulX (stX k (fun i => clsC (zat tab i)) (fun i => clsC (zat (revL (0, 0) (ptL n xs)) i)) k p) (stX k (fun i => clsC (zat tab i)) (fun i => clsC (zat (revL (0, 0) (ptL n ys)) i)) k p)) := ⟨HI.out.1, fun p hp => by rw [HI.out.2 p hp, if_pos hp, HXc.out.2 p hp, HYc.out.2 p hp]⟩
          clear HI HXc HYc
          go_wp2_with (fail)
          refine (CI.out cur w1.heap.size wr HF.out.1 HW.out.1 HW.out.2.2).mono ?_
          rintro e w6 ⟨rfl, hm, zs, hzl, hzo, hzc⟩
          have U6 : Hid (Up w w6) := (HU.out).ofMod hm (by have := B1.out; omega)
          have Z6 : Hid (zs.length = n ∧ Own w6 w1.heap.size 27 (cxs zs)) := ⟨hzl, hzo⟩
          have ZN : Hid (∀ m, m < n → NearC (clsC (zat zs m)) (cv (atn xs) (atn ys) m)) := fun m hm' => by
            have h := HK.out
            have h2 := HL.out
            rw [hzc m hm']
            have hf := HF.out
            rw [h.1] at hm' hf ⊢
            have hT := HT.out
            rw [h.2.2.2.1] at hT
            exact raw_near k h.2.1 h.2.2.1 tab hT.1 hT.2 xs ys h2.2.2.1 h2.2.2.2.1 (by omega) (by omega) (by omega) (by omega) cur hf.1 hf.2 m hm'
          clear hm hzl hzo hzc CI HF HU HW
          go_wp2_with (fail)
          go_ret
          have h := HK.out
          have h2 := HL.out
          refine ⟨w1.heap.size, k, zs, ?_, U6.out, h.2.1, h.2.2.1, by rw [← h.1]; omega, by rw [← h.1]; exact Z6.out.1, Z6.out.2, fun m hm => ZN.out m (by rw [h.1]; exact hm)⟩
          rw [← h.1]
          rfl
end Go.Proofs.Ygctab
