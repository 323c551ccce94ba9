import Derived.Test.YgctabFftD
namespace Go.Proofs.Ygctab
open Go.RowKit
set_option linter.unusedVariables false
set_option linter.unusedSimpArgs false

/-- The passes 1 .. t over 2^k points, up to NaNs. -/
def stX (k : Nat) (T : Nat → Cx) (X : Nat → Cx) : Nat → Nat → Cx
  | 0 => X
  | t + 1 => bflyX (2 ^ t) (2 ^ (k - (t + 1))) (stX k T X t) T
theorem bflyX_congr {half step n : Nat} {X Y T : Nat → Cx} (hh : 0 < half) (hn : 2 * half * step = n) (h : ∀ i, i < n → X i = Y i) : ∀ i, i < n → bflyX half step X T i = bflyX half step Y T i := by
  intro i hi
  unfold bflyX
  have hm : i % (2 * half) < 2 * half := Nat.mod_lt _ (by omega)
  by_cases hlt : i % (2 * half) < half
  · rw [if_pos hlt, if_pos hlt]
    have hq : i + half < n := by
      have hd := Nat.div_add_mod i (2 * half)
      have h1 : i / (2 * half) < step := by
        rw [Nat.div_lt_iff_lt_mul (by omega), Nat.mul_comm, hn]; exact hi
      have h2 : 2 * half * (i / (2 * half) + 1) ≤ 2 * half * step := Nat.mul_le_mul_left _ h1
      rw [hn, Nat.mul_add, Nat.mul_one] at h2
      omega
    rw [h i hi, h (i + half) hq]
  · rw [if_neg hlt, if_neg hlt, h i hi, h (i - half) (by omega)]

set_option maxRecDepth 100000 in
set_option maxHeartbeats 1600000 in
theorem forward_k (bx k ct cx : Nat) (at' : Option Addr) (xs tab : List (Nat × Nat)) (w : World) (hx : Own w bx 27 (cxs xs)) (ht : RdC w at' tab.length tab) (hne : ∀ b off, at' = some ⟨b, off, none⟩ → b ≠ bx)
    (hk : k ≤ 11) (hk1 : 1 ≤ k) (hxk : xs.length = 2 ^ k) (htl : xs.length = 2 * tab.length) :
    Calls Tabg.prog 105 #[.slice (some ⟨bx, 0, none⟩) xs.length cx, .slice at' tab.length ct] w fun e w' => e = .returned (.bool true) ∧ Mod bx w w' ∧ ∃ ys, ys.length = xs.length ∧ Own w' bx 27 (cxs ys) ∧
      ∀ i, i < xs.length → clsC (zat ys i) = stX k (fun i => clsC (zat tab i)) (fun i => clsC (zat (revL (0, 0) xs) i)) k i := by
  have CL : Hid (∀ w, Calls Tabg.prog 145 #[.int .i64 xs.length] w fun e w' => e = .returned (.int .i64 k) ∧ w = w') := fun w => flevel_pow k xs.length hk hxk w
  have CF : Hid (∀ w, Calls Tabg.prog 146 #[.int .i64 xs.length, .int .i64 tab.length] w fun e w' => e = .returned (.bool true) ∧ w = w') := fun w => fits_k k _ _ hk1 hk hxk htl w
  have CR : Hid (Calls Tabg.prog 148 #[.slice (some ⟨bx, 0, none⟩) xs.length cx] w fun e w' => e = .returned (.tuple #[]) ∧ Mod bx w w' ∧ Own w' bx 27 (cxs (revL (0, 0) xs))) := freverse_any bx k cx xs w hx hk hxk
  have hrl := revL_length (0, 0) xs
  have CS : Hid (∀ (w' : World) (cur : List (Nat × Nat)) (t : Nat), cur.length = xs.length → Mod bx w w' → Own w' bx 27 (cxs cur) → 1 ≤ t → t ≤ k → Calls Tabg.prog 104 #[.slice (some ⟨bx, 0, none⟩) xs.length cx, .slice at' tab.length ct, .int .u8 t] w' fun e w'' => e = .returned (.tuple #[]) ∧ Mod bx w' w'' ∧ ∃ ys, ys.length = xs.length ∧ Own w'' bx 27 (cxs ys) ∧
      ∀ i, i < xs.length → clsC (zat ys i) = bflyX (2 ^ (t - 1)) (2 ^ (k - t)) (fun i => clsC (zat cur i)) (fun i => clsC (zat tab i)) i) := by
    intro w' cur t hl hm ho h1 h2
    have hrd : RdC w' at' tab.length tab := ⟨rfl, fun i hi => by
      obtain ⟨b, off, e, hc⟩ := ht.2 i hi
      exact ⟨b, off, e, hm.cell (hne b off e) hc⟩⟩
    have := stage_yes bx k t ct cx at' cur tab w' ho hrd hne hk (by rw [hl]; exact hxk) (by rw [hl]; exact htl) h1 h2
    rw [hl] at this
    exact this
  have HXK : Hid (xs.length = 2 ^ k ∧ (revL (0, 0) xs).length = xs.length) := ⟨hxk, hrl⟩
  have hkI : (k : Int) ≤ 11 := by omega
  have hkI0 : (1 : Int) ≤ (k : Int) := by omega
  clear hx ht hne hxk htl hrl
  generalize xs.length = n at *
  generalize revL (0, 0) xs = rs at *
  go_enter Tabg.func105, Tabg.ntmps105
  go_wp2_with (first | (go_at_call 146; refine (CF.out _).mono ?_; rintro e w' ⟨rfl, rfl⟩) | (go_at_call 148; refine (CR.out).mono ?_; rintro e w1 ⟨rfl, hm1, ho1⟩; have HM1 : Hid (Mod bx w w1) := hm1; have HO1 : Hid (Own w1 bx 27 (cxs rs)) := ho1; clear hm1 ho1) | (go_at_call 145; refine (CL.out _).mono ?_; rintro e w' ⟨rfl, rfl⟩))
  go_loopw [6] (fun t wr => ∃ (i : Nat) (cur : List (Nat × Nat)), t = .int .u8 ((i + 1 : Nat) : Int) ∧ i ≤ k ∧ Hid (Mod bx w wr) ∧ Hid (Own wr bx 27 (cxs cur)) ∧ Hid (cur.length = n) ∧ Hid (∀ m, m < n → clsC (zat cur m) = stX k (fun i => clsC (zat tab i)) (fun i => clsC (zat rs i)) i m)) (fun t _ => k + 1 - (intOf t).toNat)
  case atStart => exact ⟨0, rs, rfl, by omega, HM1, HO1, HXK.out.2, fun m hm => rfl⟩
  case round =>
    clear HM1 HO1 CR CF CL
    obtain ⟨i, cur, rfl, hi, HM, HO, HL, HP⟩ := hrel
    by_cases hlt : i < k
    · have hle : ((i + 1 : Nat) : Int) ≤ (k : Int) := by omega
      have cS := CS.out wr cur (i + 1) HL.out HM.out HO.out (by omega) (by omega)
      have CS' : Hid (Calls Tabg.prog 104 #[.slice (some ⟨bx, 0, none⟩) n cx, .slice at' tab.length ct, .int .u8 ((i + 1 : Nat) : Int)] wr fun e w'' => e = .returned (.tuple #[]) ∧ Mod bx wr w'' ∧ ∃ ys, ys.length = n ∧ Own w'' bx 27 (cxs ys) ∧
        ∀ m, m < n → clsC (zat ys m) = bflyX (2 ^ (i + 1 - 1)) (2 ^ (k - (i + 1))) (fun i => clsC (zat cur i)) (fun i => clsC (zat tab i)) m) := cS
      obtain ⟨i1, hi1⟩ : ∃ i1, i1 = i + 1 := ⟨_, rfl⟩
      have HI : Hid (i1 = i + 1) := hi1
      have w1 : IntKind.u8.wrap ((i1 : Int) + 1) = ((i1 + 1 : Nat) : Int) := by rw [IntKind.wrap_u8]; omega
      rw [← hi1] at hle CS' ⊢
      clear cS hi1
      go_wp2_with (go_at_call 104; refine (CS'.out).mono ?_; rintro e w2 ⟨rfl, hm2, ys, hy1, hy2, hy3⟩; have HM2 : Hid (Mod bx w w2) := (HM.out).trans hm2; have HY : Hid (ys.length = n ∧ Own w2 bx 27 (cxs ys)) := ⟨hy1, hy2⟩; have HY3 : Hid (∀ m, m < n → clsC (zat ys m) = bflyX (2 ^ (i1 - 1)) (2 ^ (k - i1)) (fun i => clsC (zat cur i)) (fun i => clsC (zat tab i)) m) := hy3; clear hm2 hy1 hy2 hy3)
      go_roundw
      case rel =>
        refine ⟨i1, ys, rfl, by rw [HI.out]; omega, HM2, HY.out.2, HY.out.1, fun m hm => ?_⟩
        rw [HY3.out m hm, HI.out, Nat.add_sub_cancel]
        refine bflyX_congr (Nat.pow_pos (by decide)) ?_ (fun j hj => HP.out j hj) m hm
        rw [HXK.out.1, Nat.mul_comm 2, ← Nat.pow_succ, ← Nat.pow_add]
        congr 1
        omega
      case measure => simp [intOf]; have := HI.out; omega
    · obtain rfl : i = k := by omega
      have hle : decide (((i + 1 : Nat) : Int) ≤ (i : Int)) = false := decide_eq_false (by omega)
      go_wp2
      go_ret
      exact ⟨rfl, HM.out, cur, HL.out, HO.out, HP.out⟩
end Go.Proofs.Ygctab
