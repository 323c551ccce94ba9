import Derived.Test.YgctabFftE
namespace Go.Proofs.Ygctab
open Go.RowKit
set_option linter.unusedVariables false
set_option linter.unusedSimpArgs false

set_option maxRecDepth 100000 in
set_option maxHeartbeats 1600000 in
theorem staged_k (b off k ct cx : Nat) (at' : Option Addr) (xs tab : List (Nat × Nat)) (w : World) (hx : RdC w (some ⟨b, off, none⟩) xs.length xs) (ht : RdC w at' tab.length tab)
    (hk : k ≤ 11) (hk1 : 1 ≤ k) (hxk : xs.length = 2 ^ k) (htl : xs.length = 2 * tab.length) :
    Calls Tabg.prog 112 #[.slice (some ⟨b, off, none⟩) xs.length cx, .slice at' tab.length ct, .int .i64 k] w fun e w' => e = .returned (.slice (some ⟨w.heap.size, 0, none⟩) xs.length xs.length) ∧ Up w w' ∧ ∃ ys, ys.length = xs.length ∧ Own w' w.heap.size 27 (cxs ys) ∧
      ∀ i, i < xs.length → clsC (zat ys i) = stX k (fun i => clsC (zat tab i)) (fun i => clsC (zat (revL (0, 0) xs) i)) k i := by
  have hn : xs.length ≤ 2048 := by rw [hxk]; exact Nat.pow_le_pow_right (by decide) hk
  obtain ⟨bx, hbx⟩ : ∃ bx, bx = w.heap.size := ⟨_, rfl⟩
  have CC : Hid (Calls Tabg.prog 103 #[.slice (some ⟨b, off, none⟩) xs.length cx] w fun e w' => e = .returned (.slice (some ⟨bx, 0, none⟩) xs.length xs.length) ∧ Up w w' ∧ Own w' bx 27 (cxs xs)) := by
    have := copyC_some b off xs.length cx xs w hx (by omega)
    rw [← hbx] at this
    exact this
  have CR : Hid (∀ w', Own w' bx 27 (cxs xs) → Calls Tabg.prog 148 #[.slice (some ⟨bx, 0, none⟩) xs.length xs.length] w' fun e w'' => e = .returned (.tuple #[]) ∧ Mod bx w' w'' ∧ Own w'' bx 27 (cxs (revL (0, 0) xs))) := fun w' ho => freverse_any bx k xs.length xs w' ho hk hxk
  have hrl := revL_length (0, 0) xs
  have hne : ∀ b' off', at' = some ⟨b', off', none⟩ → 0 < tab.length → b' ≠ bx := by
    intro b' off' e h0
    obtain ⟨b2, off2, e2, hc⟩ := ht.2 0 h0
    rw [e] at e2
    cases e2
    have := cell_lt hc
    simp at this
    omega
  have htl0 : 0 < tab.length := by
    have : 0 < 2 ^ k := Nat.pow_pos (by decide)
    omega
  have CS : Hid (∀ (w' : World) (cur : List (Nat × Nat)) (t : Nat), cur.length = xs.length → Up w w' → Own w' bx 27 (cxs cur) → 1 ≤ t → t ≤ k → Calls Tabg.prog 104 #[.slice (some ⟨bx, 0, none⟩) xs.length xs.length, .slice at' tab.length ct, .int .u8 t] w' fun e w'' => e = .returned (.tuple #[]) ∧ Mod bx w' w'' ∧ ∃ ys, ys.length = xs.length ∧ Own w'' bx 27 (cxs ys) ∧
      ∀ i, i < xs.length → clsC (zat ys i) = bflyX (2 ^ (t - 1)) (2 ^ (k - t)) (fun i => clsC (zat cur i)) (fun i => clsC (zat tab i)) i) := by
    intro w' cur t hl hm ho h1 h2
    have := stage_yes bx k t ct xs.length at' cur tab w' ho (ht.up hm) (fun b' off' e => hne b' off' e htl0) hk (by rw [hl]; exact hxk) (by rw [hl]; exact htl) h1 h2
    rw [hl] at this
    exact this
  have HXK : Hid (xs.length = 2 ^ k ∧ (revL (0, 0) xs).length = xs.length ∧ w.heap.size ≤ bx) := ⟨hxk, hrl, by omega⟩
  have hkI : (k : Int) ≤ 11 := by omega
  have hkI0 : (1 : Int) ≤ (k : Int) := by omega
  rw [← hbx]
  clear hx ht hne hxk htl hrl hbx htl0
  generalize xs.length = n at *
  generalize revL (0, 0) xs = rs at *
  go_enter Tabg.func112, Tabg.ntmps112
  go_wp2_with (first | (go_at_call 103; refine (CC.out).mono ?_; rintro e w1 ⟨rfl, hu1, ho1⟩; have HU1 : Hid (Up w w1) := hu1; have HO1 : Hid (Own w1 bx 27 (cxs xs)) := ho1; clear hu1 ho1) | (go_at_call 148; refine (CR.out _ HO1.out).mono ?_; rintro e w2 ⟨rfl, hm2, ho2⟩; have HU2 : Hid (Up w w2) := Up.ofMod HU1.out hm2 HXK.out.2.2; have HO2 : Hid (Own w2 bx 27 (cxs rs)) := ho2; clear hm2 ho2))
  go_loopw [8] (fun t wr => ∃ (i : Nat) (cur : List (Nat × Nat)), t = .int .i64 ((i + 1 : Nat) : Int) ∧ i ≤ k ∧ Hid (Up w wr) ∧ Hid (Own wr bx 27 (cxs cur)) ∧ Hid (cur.length = n) ∧ Hid (∀ m, m < n → clsC (zat cur m) = stX k (fun i => clsC (zat tab i)) (fun i => clsC (zat rs i)) i m)) (fun t _ => k + 1 - (intOf t).toNat)
  case atStart => exact ⟨0, rs, rfl, by omega, HU2, HO2, HXK.out.2.1, fun m hm => rfl⟩
  case round =>
    clear HU2 HO2 CR CC HU1 HO1
    obtain ⟨i, cur, rfl, hi, HM, HO, HL, HP⟩ := hrel
    by_cases hlt : i < k
    · have hle : ((i + 1 : Nat) : Int) ≤ (k : Int) := by omega
      have cS := CS.out wr cur (i + 1) HL.out HM.out HO.out (by omega) (by omega)
      have CS' : Hid (Calls Tabg.prog 104 #[.slice (some ⟨bx, 0, none⟩) n n, .slice at' tab.length ct, .int .u8 ((i + 1 : Nat) : Int)] wr fun e w'' => e = .returned (.tuple #[]) ∧ Mod bx wr w'' ∧ ∃ ys, ys.length = n ∧ Own w'' bx 27 (cxs ys) ∧
        ∀ m, m < n → clsC (zat ys m) = bflyX (2 ^ (i + 1 - 1)) (2 ^ (k - (i + 1))) (fun i => clsC (zat cur i)) (fun i => clsC (zat tab i)) m) := cS
      obtain ⟨i1, hi1⟩ : ∃ i1, i1 = i + 1 := ⟨_, rfl⟩
      have HI : Hid (i1 = i + 1) := hi1
      have w0 : IntKind.u8.wrap (i1 : Int) = (i1 : Int) := by rw [IntKind.wrap_u8]; omega
      have i0 : (0 : Int) ≤ (i1 : Int) := by omega
      have i11 : (i1 : Int) ≤ 11 := by omega
      rw [← hi1] at hle CS' ⊢
      clear cS hi1
      go_wp2_with (go_at_call 104; refine (CS'.out).mono ?_; rintro e w2 ⟨rfl, hm2, ys, hy1, hy2, hy3⟩; have HM2 : Hid (Up w w2) := Up.ofMod HM.out hm2 HXK.out.2.2; have HY : Hid (ys.length = n ∧ Own w2 bx 27 (cxs ys)) := ⟨hy1, hy2⟩; have HY3 : Hid (∀ m, m < n → clsC (zat ys m) = bflyX (2 ^ (i1 - 1)) (2 ^ (k - i1)) (fun i => clsC (zat cur i)) (fun i => clsC (zat tab i)) m) := hy3; clear hm2 hy1 hy2 hy3)
      go_roundw
      case rel =>
        refine ⟨i1, ys, by go_num, by rw [HI.out]; omega, HM2, HY.out.2, HY.out.1, fun m hm => ?_⟩
        rw [HY3.out m hm, HI.out, Nat.add_sub_cancel]
        refine bflyX_congr (Nat.pow_pos (by decide)) ?_ (fun j hj => HP.out j hj) m hm
        rw [HXK.out.1, Nat.mul_comm 2, ← Nat.pow_succ, ← Nat.pow_add]
        congr 1
        omega
      case measure => simp [intOf]; have := HI.out; omega
    · obtain rfl : i = k := by omega
      have hle : decide (((i + 1 : Nat) : Int) ≤ (i : Int)) = false := decide_eq_false (by omega)
      go_wp2
      go_ret
      exact ⟨rfl, HM.out, cur, HL.out, HO.out, HP.out⟩
end Go.Proofs.Ygctab
