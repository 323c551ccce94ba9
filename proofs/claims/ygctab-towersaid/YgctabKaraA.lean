import Derived.Test.YgctabSchool
namespace Go.Proofs.Ygctab
open Go.RowKit
set_option linter.unusedVariables false
set_option linter.unusedSimpArgs false

/-- One place taken off in place. -/
theorem take_step {cu : List Nat} {p bo r g q V Yv : Nat} (h : p < cu.length) (inv : bv cu + Yv = V + bo * 256 ^ p) (hs : r + q + bo = cu[p]?.getD 0 + 256 * g) :
    bv (cu.set p r) + (Yv + 256 ^ p * q) = V + g * 256 ^ (p + 1) := by
  have h1 := bv_set_val r h
  have e : 256 ^ p * r + 256 ^ p * q + 256 ^ p * bo = 256 ^ p * (cu[p]?.getD 0) + g * 256 ^ (p + 1) := by
    rw [Nat.pow_succ, show g * (256 ^ p * 256) = 256 ^ p * (256 * g) by ac_rfl, ← Nat.mul_add, ← Nat.mul_add, ← Nat.mul_add, hs]
  have e2 : bo * 256 ^ p = 256 ^ p * bo := Nat.mul_comm _ _
  omega
theorem bv_low {cu : List Nat} (hd : Digs cu) {L : Nat} (hL : L ≤ cu.length) (hz : ∀ m, L ≤ m → cu[m]?.getD 0 = 0) : bv cu < 256 ^ L ∧ bv cu = bv (cu.take L) := by
  have h0 : cu.drop L = List.replicate (cu.length - L) 0 := by
    refine List.ext_getElem (by simp) fun i h1 h2 => ?_
    have h3 : L + i < cu.length := by simp at h1; omega
    have := hz (L + i) (by omega)
    rw [List.getElem?_eq_getElem h3] at this
    simpa using this
  have h1 := bv_split cu L hL
  rw [h0, bv_zeros, Nat.mul_zero, Nat.add_zero] at h1
  have h2 := bv_lt (hd.take L)
  rw [List.length_take, Nat.min_eq_left hL] at h2
  exact ⟨by omega, h1⟩

set_option maxRecDepth 100000 in
set_option maxHeartbeats 1600000 in
theorem subFrom_some (B La c : Nat) (a' : Option Addr) (L' c' : Nat) (cur Y : List Nat) (w : World) (hO : Own w B 5 (u8s cur)) (hd : Digs cur) (hLa : La ≤ cur.length) (hz : ∀ m, La ≤ m → cur[m]?.getD 0 = 0)
    (hY : RdB w a' L' Y) (hne : ∀ b off, a' = some ⟨b, off, none⟩ → b ≠ B) (hle : bv Y ≤ bv cur) (hL' : L' ≤ La) (hLb : La ≤ 8192) :
    Calls Tabg.prog 126 #[.slice (some ⟨B, 0, none⟩) La c, .slice a' L' c'] w fun e w' => e = .returned (.tuple #[]) ∧ Mod B w w' ∧ ∃ cu, Own w' B 5 (u8s cu) ∧ Digs cu ∧ cu.length = cur.length ∧ (∀ m, La ≤ m → cu[m]?.getD 0 = 0) ∧ bv cu + bv Y = bv cur := by
  have HO : Hid (Own w B 5 (u8s cur)) := hO
  have HC : Hid (Digs cur ∧ La ≤ cur.length ∧ (∀ m, La ≤ m → cur[m]?.getD 0 = 0) ∧ bv Y ≤ bv cur ∧ L' ≤ La ∧ L' = Y.length) := ⟨hd, hLa, hz, hle, hL', hY.1⟩
  have HY : Hid (RdB w a' L' Y) := hY
  have HN : Hid (∀ b off, a' = some ⟨b, off, none⟩ → b ≠ B) := hne
  have LI : (La : Int) ≤ 8192 := by omega
  have LI' : (L' : Int) ≤ 8192 := by omega
  clear hO hd hLa hz hY hne hle hL'
  go_enter Tabg.func126, Tabg.ntmps126
  go_wp2_with (fail)
  go_loopw [4, 5] (fun t4 t5 wr => ∃ (i cy : Nat) (cu : List Nat), t4 = .int .u16 cy ∧ t5 = .int .i64 i ∧ i ≤ La ∧ cy ≤ 1 ∧ Hid (Mod B w wr) ∧ Hid (Own wr B 5 (u8s cu)) ∧ Hid (cu.length = cur.length ∧ Digs cu ∧ (∀ m, La ≤ m → cu[m]?.getD 0 = 0) ∧ bv cu + bv (Y.take i) = bv cur + cy * 256 ^ i)) (fun _ t5 _ => La - (intOf t5).toNat)
  case atStart => exact ⟨0, 0, cur, rfl, rfl, by omega, by omega, Mod.refl _ _, HO.out, ⟨rfl, HC.out.1, HC.out.2.2.1, by simp [bv]⟩⟩
  case round =>
    obtain ⟨i, cy, cu, rfl, rfl, hi, hcy, HM, HW, HI⟩ := hrel
    clear HO
    by_cases hlt : i < La
    · have cz := Own.byt HW.out (i := i) (by rw [HI.out.1]; have := HC.out.2.1; omega)
      have fz := Own.free HW.out i
      have d1 := HI.out.2.1.at i
      obtain ⟨p, hp⟩ : ∃ p, p = cu[i]?.getD 0 := ⟨_, rfl⟩
      rw [← hp] at cz d1
      have i0 : (0 : Int) ≤ (i : Int) := by omega
      have im : (i : Int) < (La : Int) := by omega
      have hcI : (cy : Int) ≤ 1 := by omega
      have HT2 : Hid (bv (Y.take (i + 1)) = bv (Y.take i) + 256 ^ i * (Y[i]?.getD 0)) := bv_take1 Y i
      by_cases hl2 : i < L'
      · obtain ⟨b', off', e', k2⟩ := (HY.out).2.2 i (by rw [← HC.out.2.2.2.2.2]; exact hl2)
        have hb' := HN.out _ _ e'
        subst e'
        replace k2 := (HM.out).cell hb' k2
        have d2 := (HY.out).2.1.at i
        generalize Y[i]?.getD 0 = q at *
        have g3 : (i : Int) < (L' : Int) := by omega
        obtain ⟨m, hm⟩ : ∃ m : Nat, (m : Int) = ((p : Int) - (cy : Int)) % 65536 := ⟨(((p : Int) - (cy : Int)) % 65536).toNat, by omega⟩
        obtain ⟨s, hs⟩ : ∃ s : Nat, (s : Int) = ((m : Int) - (q : Int)) % 65536 := ⟨(((m : Int) - (q : Int)) % 65536).toNat, by omega⟩
        obtain ⟨r, hr⟩ : ∃ r, r = s % 256 := ⟨_, rfl⟩
        obtain ⟨g, hg⟩ : ∃ g, g = s / 32768 := ⟨_, rfl⟩
        have m1 : IntKind.u16.wrap ((p : Int) - (cy : Int)) = (m : Int) := by rw [hm]; simp [IntKind.wrap, IntKind.bits, IntKind.signed]
        have s1 : IntKind.u16.wrap ((m : Int) - (q : Int)) = (s : Int) := by rw [hs]; simp [IntKind.wrap, IntKind.bits, IntKind.signed]
        have m1' : ((p : Int) - (cy : Int)) % 65536 = (m : Int) := hm.symm
        have s1' : ((m : Int) - (q : Int)) % 65536 = (s : Int) := hs.symm
        have s2 : (s : Int) % 256 = (r : Int) := by omega
        have s3 : (s : Int) / 32768 = (g : Int) := by omega
        have sI : (s : Int) ≤ 65535 := by omega
        have s0 : (0 : Int) ≤ (s : Int) := by omega
        have mI : (m : Int) ≤ 65535 := by omega
        have m0 : (0 : Int) ≤ (m : Int) := by omega
        have r0 : (0 : Int) ≤ (r : Int) := by omega
        have r1 : (r : Int) < 256 := by omega
        have g0 : (0 : Int) ≤ (g : Int) := by omega
        have g9 : (g : Int) ≤ 1 := by omega
        have pI : (p : Int) < 256 := by omega
        have qI : (q : Int) < 256 := by omega
        have HS : Hid (r + q + cy = cu[i]?.getD 0 + 256 * g) := by show _ = _; rw [← hp]; omega
        clear hs hm HY HN d1 d2 hr hg hl2 hp hb'
        go_wp2
        go_roundw
        case rel =>
          refine ⟨i + 1, g, cu.set i r, by go_num, by go_num, by omega, by omega, (HM.out).setCell _ _, Own.setByt HW.out i r, ⟨by simp; exact HI.out.1, HI.out.2.1.set i (by omega), fun m hm => by rw [List.getElem?_set_ne (by omega)]; exact HI.out.2.2.1 m hm, ?_⟩⟩
          rw [HT2.out]
          exact take_step (by rw [HI.out.1]; have := HC.out.2.1; omega) HI.out.2.2.2 HS.out
        case measure => simp [intOf]; omega
      · have e2 : Y[i]?.getD 0 = 0 := by rw [List.getElem?_eq_none (by rw [← HC.out.2.2.2.2.2]; omega)]; rfl
        rw [e2] at HT2
        have g3 : decide ((i : Int) < (L' : Int)) = false := decide_eq_false (by omega)
        have g4 : (L' : Int) ≤ (i : Int) := by omega
        by_cases hc0 : cy = 0
        · subst hc0
          have HV : Hid (bv cu + bv Y = bv cur) := by
            have := HI.out.2.2.2
            rw [bv_take_ge Y (by rw [← HC.out.2.2.2.2.2]; omega), Nat.zero_mul, Nat.add_zero] at this
            exact this
          clear HY HN hp e2 d1
          go_wp2
          first | go_end0 | go_ret
          exact ⟨rfl, HM.out, cu, HW.out, HI.out.2.1, HI.out.1, HI.out.2.2.1, HV.out⟩
        · obtain rfl : cy = 1 := by omega
          obtain ⟨s, hs⟩ : ∃ s : Nat, (s : Int) = ((p : Int) - 1) % 65536 := ⟨(((p : Int) - 1) % 65536).toNat, by omega⟩
          obtain ⟨r, hr⟩ : ∃ r, r = s % 256 := ⟨_, rfl⟩
          obtain ⟨g, hg⟩ : ∃ g, g = s / 32768 := ⟨_, rfl⟩
          have s1 : IntKind.u16.wrap ((p : Int) - 1) = (s : Int) := by rw [hs]; simp [IntKind.wrap, IntKind.bits, IntKind.signed]
          have s1' : ((p : Int) - 1) % 65536 = (s : Int) := hs.symm
          have s2 : (s : Int) % 256 = (r : Int) := by omega
          have s3 : (s : Int) / 32768 = (g : Int) := by omega
          have sI : (s : Int) ≤ 65535 := by omega
          have s0 : (0 : Int) ≤ (s : Int) := by omega
          have r0 : (0 : Int) ≤ (r : Int) := by omega
          have r1 : (r : Int) < 256 := by omega
          have g0 : (0 : Int) ≤ (g : Int) := by omega
          have g9 : (g : Int) ≤ 1 := by omega
          have pI : (p : Int) < 256 := by omega
          have HS : Hid (r + 0 + 1 = cu[i]?.getD 0 + 256 * g) := by show _ = _; rw [← hp]; omega
          clear hs HY HN d1 hr hg hl2 hp e2 hc0
          go_wp2
          go_roundw
          case rel =>
            refine ⟨i + 1, g, cu.set i r, by go_num, by go_num, by omega, by omega, (HM.out).setCell _ _, Own.setByt HW.out i r, ⟨by simp; exact HI.out.1, HI.out.2.1.set i (by omega), fun m hm => by rw [List.getElem?_set_ne (by omega)]; exact HI.out.2.2.1 m hm, ?_⟩⟩
            rw [HT2.out]
            exact take_step (by rw [HI.out.1]; have := HC.out.2.1; omega) HI.out.2.2.2 HS.out
          case measure => simp [intOf]; omega
    · obtain rfl : La = i := by omega
      have HV : Hid (bv cu + bv Y = bv cur) := by
        have h1 := HI.out.2.2.2
        rw [bv_take_ge Y (by rw [← HC.out.2.2.2.2.2]; exact HC.out.2.2.2.2.1)] at h1
        have h2 := (bv_low HI.out.2.1 (by rw [HI.out.1]; exact HC.out.2.1) HI.out.2.2.1).1
        have h3 := HC.out.2.2.2.1
        show _ = _
        rcases Nat.lt_or_ge cy 1 with h6 | h6
        · obtain rfl : cy = 0 := by omega
          rw [Nat.zero_mul] at h1
          omega
        · obtain rfl : cy = 1 := by omega
          rw [Nat.one_mul] at h1
          omega
      clear HY HN
      go_wp2
      first | go_end0 | go_ret
      exact ⟨rfl, HM.out, cu, HW.out, HI.out.2.1, HI.out.1, HI.out.2.2.1, HV.out⟩

end Go.Proofs.Ygctab
