import Derived.Test.YgctabSchool
namespace Go.Proofs.Ygctab
open Go.RowKit
set_option linter.unusedVariables false
set_option linter.unusedSimpArgs false

set_option maxRecDepth 100000 in
set_option maxHeartbeats 1600000 in
theorem addAt_some (B h La c : Nat) (a' : Option Addr) (L' c' : Nat) (cur Y : List Nat) (w : World) (hO : Own w B 5 (u8s cur)) (hd : Digs cur) (hLa : h + La = cur.length)
    (hY : RdB w a' L' Y) (hne : ∀ b off, a' = some ⟨b, off, none⟩ → b ≠ B) (hle : bv cur + 256 ^ h * bv Y < 256 ^ cur.length) (hL' : L' ≤ La) (hLb : La ≤ 8192) :
    Calls Tabg.prog 127 #[.slice (some ⟨B, h, none⟩) La c, .slice a' L' c'] w fun e w' => e = .returned (.tuple #[]) ∧ Mod B w w' ∧ ∃ cu, Own w' B 5 (u8s cu) ∧ Digs cu ∧ cu.length = cur.length ∧ bv cu = bv cur + 256 ^ h * bv Y := by
  have HO : Hid (Own w B 5 (u8s cur)) := hO
  have HC : Hid (Digs cur ∧ h + La = cur.length ∧ bv cur + 256 ^ h * bv Y < 256 ^ cur.length ∧ L' ≤ La ∧ L' = Y.length) := ⟨hd, hLa, hle, hL', hY.1⟩
  have HY : Hid (RdB w a' L' Y) := hY
  have HN : Hid (∀ b off, a' = some ⟨b, off, none⟩ → b ≠ B) := hne
  have LI : (La : Int) ≤ 8192 := by omega
  have LI' : (L' : Int) ≤ 8192 := by omega
  clear hO hd hLa hY hne hle hL'
  go_enter Tabg.func127, Tabg.ntmps127
  go_wp2_with (fail)
  go_loopw [4, 5] (fun t4 t5 wr => ∃ (i cy : Nat) (cu : List Nat), t4 = .int .u16 cy ∧ t5 = .int .i64 i ∧ i ≤ La ∧ cy ≤ 1 ∧ Hid (Mod B w wr) ∧ Hid (Own wr B 5 (u8s cu)) ∧ Hid (cu.length = cur.length ∧ Digs cu ∧ bv cu + cy * 256 ^ (h + i) = bv cur + 256 ^ h * bv (Y.take i))) (fun _ t5 _ => La - (intOf t5).toNat)
  case atStart => exact ⟨0, 0, cur, rfl, rfl, by omega, by omega, Mod.refl _ _, HO.out, ⟨rfl, HC.out.1, by simp [bv]⟩⟩
  case round =>
    obtain ⟨i, cy, cu, rfl, rfl, hi, hcy, HM, HW, HI⟩ := hrel
    clear HO
    by_cases hlt : i < La
    · have cz := Own.byt HW.out (i := h + i) (by rw [HI.out.1]; have := HC.out.2.1; omega)
      have fz := Own.free HW.out (h + i)
      have d1 := HI.out.2.1.at (h + i)
      obtain ⟨p, hp⟩ : ∃ p, p = cu[h + i]?.getD 0 := ⟨_, rfl⟩
      rw [← hp] at cz d1
      have i0 : (0 : Int) ≤ (i : Int) := by omega
      have im : (i : Int) < (La : Int) := by omega
      have hcI : (cy : Int) ≤ 1 := by omega
      have HT2 : Hid (256 ^ h * bv (Y.take (i + 1)) = 256 ^ h * bv (Y.take i) + 256 ^ (h + i) * (Y[i]?.getD 0)) := by
        show _ = _
        rw [bv_take1 Y i, Nat.mul_add, Nat.pow_add, Nat.mul_assoc]
      by_cases hl2 : i < L'
      · obtain ⟨b', off', e', k2⟩ := (HY.out).2.2 i (by rw [← HC.out.2.2.2.2]; exact hl2)
        have hb' := HN.out _ _ e'
        subst e'
        replace k2 := (HM.out).cell hb' k2
        have d2 := (HY.out).2.1.at i
        generalize Y[i]?.getD 0 = q at *
        have g3 : (i : Int) < (L' : Int) := by omega
        obtain ⟨s, hs⟩ : ∃ s, s = q + p + cy := ⟨_, rfl⟩
        have s1 : (p : Int) + (cy : Int) + (q : Int) = (s : Int) := by omega
        obtain ⟨r, hr⟩ : ∃ r, r = s % 256 := ⟨_, rfl⟩
        obtain ⟨g, hg⟩ : ∃ g, g = s / 256 := ⟨_, rfl⟩
        have s2 : (s : Int) % 256 = (r : Int) := by omega
        have s3 : (s : Int) / 256 = (g : Int) := by omega
        have sI : (s : Int) ≤ 511 := by omega
        have r0 : (0 : Int) ≤ (r : Int) := by omega
        have r1 : (r : Int) < 256 := by omega
        have g0 : (0 : Int) ≤ (g : Int) := by omega
        have g9 : (g : Int) ≤ 1 := by omega
        have pI : (p : Int) < 256 := by omega
        have qI : (q : Int) < 256 := by omega
        have HS : Hid (s = q + cu[h + i]?.getD 0 + cy ∧ r = s % 256 ∧ g = s / 256) := ⟨by rw [← hp]; exact hs, hr, hg⟩
        clear hs HY HN d1 d2 hr hg hl2 hp hb'
        go_wp2
        go_roundw
        case rel =>
          refine ⟨i + 1, g, cu.set (h + i) r, by go_num, by go_num, by omega, by omega, (HM.out).setCell _ _, Own.setByt HW.out (h + i) r, ⟨by simp; exact HI.out.1, HI.out.2.1.set (h + i) (by omega), ?_⟩⟩
          have h1 := school_step (p := h + i) (c := cy) (V := bv cur + 256 ^ h * bv (Y.take i)) (by rw [HI.out.1]; have := HC.out.2.1; omega) HI.out.2.2 HS.out.1
          rw [← HS.out.2.1, ← HS.out.2.2] at h1
          rw [HT2.out, ← Nat.add_assoc h i 1, h1]
          omega
        case measure => simp [intOf]; omega
      · have e2 : Y[i]?.getD 0 = 0 := by rw [List.getElem?_eq_none (by rw [← HC.out.2.2.2.2]; omega)]; rfl
        rw [e2] at HT2
        have g3 : decide ((i : Int) < (L' : Int)) = false := decide_eq_false (by omega)
        have g4 : (L' : Int) ≤ (i : Int) := by omega
        by_cases hc0 : cy = 0
        · subst hc0
          have HV : Hid (bv cu = bv cur + 256 ^ h * bv Y) := by
            have := HI.out.2.2
            rw [bv_take_ge Y (by rw [← HC.out.2.2.2.2]; omega), Nat.zero_mul, Nat.add_zero] at this
            exact this
          clear HY HN hp e2 d1
          go_wp2
          first | go_end0 | go_ret
          exact ⟨rfl, HM.out, cu, HW.out, HI.out.2.1, HI.out.1, HV.out⟩
        · obtain rfl : cy = 1 := by omega
          obtain ⟨s, hs⟩ : ∃ s, s = 0 + p + 1 := ⟨_, rfl⟩
          have s1 : (p : Int) + 1 = (s : Int) := by omega
          obtain ⟨r, hr⟩ : ∃ r, r = s % 256 := ⟨_, rfl⟩
          obtain ⟨g, hg⟩ : ∃ g, g = s / 256 := ⟨_, rfl⟩
          have s2 : (s : Int) % 256 = (r : Int) := by omega
          have s3 : (s : Int) / 256 = (g : Int) := by omega
          have sI : (s : Int) ≤ 511 := by omega
          have r0 : (0 : Int) ≤ (r : Int) := by omega
          have r1 : (r : Int) < 256 := by omega
          have g0 : (0 : Int) ≤ (g : Int) := by omega
          have g9 : (g : Int) ≤ 1 := by omega
          have pI : (p : Int) < 256 := by omega
          have HS : Hid (s = 0 + cu[h + i]?.getD 0 + 1 ∧ r = s % 256 ∧ g = s / 256) := ⟨by rw [← hp]; exact hs, hr, hg⟩
          clear hs HY HN d1 hr hg hl2 hp e2 hc0
          go_wp2
          go_roundw
          case rel =>
            refine ⟨i + 1, g, cu.set (h + i) r, by go_num, by go_num, by omega, by omega, (HM.out).setCell _ _, Own.setByt HW.out (h + i) r, ⟨by simp; exact HI.out.1, HI.out.2.1.set (h + i) (by omega), ?_⟩⟩
            have h1 := school_step (p := h + i) (c := 1) (V := bv cur + 256 ^ h * bv (Y.take i)) (by rw [HI.out.1]; have := HC.out.2.1; omega) HI.out.2.2 HS.out.1
            rw [← HS.out.2.1, ← HS.out.2.2] at h1
            rw [HT2.out, ← Nat.add_assoc h i 1, h1]
            omega
          case measure => simp [intOf]; omega
    · obtain rfl : La = i := by omega
      have HV : Hid (bv cu = bv cur + 256 ^ h * bv Y) := by
        have h1 := HI.out.2.2
        rw [bv_take_ge Y (by rw [← HC.out.2.2.2.2]; exact HC.out.2.2.2.1), HC.out.2.1] at h1
        have h3 := HC.out.2.2.1
        show _ = _
        rcases Nat.lt_or_ge cy 1 with h6 | h6
        · obtain rfl : cy = 0 := by omega
          rw [Nat.zero_mul] at h1
          omega
        · obtain rfl : cy = 1 := by omega
          rw [Nat.one_mul] at h1
          omega
      clear HY HN
      go_wp2
      first | go_end0 | go_ret
      exact ⟨rfl, HM.out, cu, HW.out, HI.out.2.1, HI.out.1, HV.out⟩

end Go.Proofs.Ygctab
