import Derived.Test.YgctabNatC
namespace Go.Proofs.Ygctab
open Go.RowKit
set_option linter.unusedVariables false
set_option linter.unusedSimpArgs false

/-- Numbers as cells of int64. -/
def i64s (cs : List Nat) : List Int := cs.map fun c : Nat => (c : Int)
theorem i64s_length (cs : List Nat) : (i64s cs).length = cs.length := by simp [i64s]
theorem i64s_at (cs : List Nat) (i : Nat) : (i64s cs)[i]?.getD 0 = ((cs[i]?.getD 0 : Nat) : Int) := by
  unfold i64s
  rw [List.getElem?_map]
  cases cs[i]? <;> rfl

theorem bv_bound {cs : List Nat} (h : ∀ c ∈ cs, c ≤ 33292800) : bv cs + 33292800 ≤ 33292800 * 256 ^ cs.length := by
  induction cs with
  | nil => simp [bv]
  | cons c cs ih =>
    have h1 := h c (List.mem_cons_self ..)
    have h2 := ih (fun x hx => h x (List.mem_cons_of_mem _ hx))
    rw [bv, List.length_cons, Nat.pow_succ]
    omega

set_option maxRecDepth 100000 in
set_option maxHeartbeats 1600000 in
theorem carry_any (a : Option Addr) (n c : Nat) (cs : List Nat) (w : World) (h : RdI .i64 w a n (i64s cs)) (hb : ∀ x ∈ cs, x ≤ 33292800) (hn : n ≤ 4096) :
    Calls Tabg.prog 129 #[.slice a n c] w fun e w' => ∃ B zs, e = .returned (.tuple #[.slice (nrmA (some ⟨B, 0, none⟩) (bv cs)) (dig (bv cs)).length (dig (bv cs)).length, .bool true]) ∧ w.heap.size ≤ B ∧ Up w w' ∧ (bv cs ≠ 0 → Own w' B 5 (u8s zs) ∧ Digs zs ∧ bv zs = bv cs) := by
  have hl : n = cs.length := by rw [h.1, i64s_length]
  have HA : Hid (∀ i, i < n → ∃ b off, a = some ⟨b, off, none⟩ ∧ w.cell? ⟨b, off + i, none⟩ = some (.int .i64 ((cs[i]?.getD 0 : Nat) : Int))) := fun i hi => by
    obtain ⟨b, off, e, hc⟩ := h.2 i (by rw [i64s_length]; omega)
    rw [i64s_at] at hc
    exact ⟨b, off, e, hc⟩
  have HB : Hid (∀ i : Nat, cs[i]?.getD 0 ≤ 33292800) := fun i => by
    cases hi : cs[i]? with
    | none => simp
    | some v => exact hb v (List.mem_of_getElem? hi)
  have HV : Hid (bv cs < 256 ^ (n + 8)) := by
    have h1 := bv_bound hb
    rw [← hl] at h1
    have h2 : 256 ^ (n + 8) = 256 ^ 8 * 256 ^ n := by rw [Nat.add_comm, Nat.pow_add]
    have h3 : 33292800 * 256 ^ n ≤ 256 ^ 8 * 256 ^ n := Nat.mul_le_mul_right _ (by decide)
    show _ < _
    omega
  have HL : Hid (n = cs.length) := hl
  have nI : (n : Int) ≤ 4096 := by omega
  obtain ⟨M, hM⟩ : ∃ M, M = n + 8 := ⟨_, rfl⟩
  have eM : (n : Int) + 8 = (M : Int) := by omega
  have hmk := fun w => run_make_row' (P := Tabg.prog) 87 5 (.int .u8 0) 1 Tabg.underlying87 (by kernel_rfl) rfl .i64 .i64 M (by omega) (by omega) w
  have HM : Hid (M = n + 8) := hM
  have MI : (M : Int) ≤ 4104 := by omega
  have MI0 : (8 : Int) ≤ (M : Int) := by omega
  clear h hb hl hM
  go_enter Tabg.func129, Tabg.ntmps129
  go_wp2_with (fail)
  go_loop [4] (fun u => ∃ i : Nat, u = .int .i64 i ∧ i ≤ n) (fun u => n - (intOf u).toNat)
  case atStart => exact ⟨0, rfl, by omega⟩
  case round =>
    obtain ⟨i, rfl, hi⟩ := hrel
    by_cases hlt : i < n
    · obtain ⟨b, off, rfl, k1⟩ := HA.out i hlt
      have d1 := HB.out i
      generalize cs[i]?.getD 0 = p at *
      have p0 : (0 : Int) ≤ (p : Int) := by omega
      have p1 : (p : Int) ≤ 33292800 := by omega
      have q1 : decide ((p : Int) < 0) = false := decide_eq_false (by omega)
      have q2 : decide ((36028797018963968 : Int) ≤ (p : Int)) = false := decide_eq_false (by omega)
      have i0 : (0 : Int) ≤ (i : Int) := by omega
      have im : (i : Int) < (n : Int) := by omega
      clear HA HB hmk
      go_wp2
      go_round
      case rel => exact ⟨i + 1, by go_num, by omega⟩
      case measure => simp [intOf]; omega
    · obtain rfl : n = i := by omega
      have hO := Own.made w 5 (.int .u8 0) M
      have e0 : List.replicate M (Value.int .u8 0) = u8s (List.replicate M 0) := u8s_replicate M 0
      rw [e0] at hO
      have HO : Hid (Own (w.alloc (.cells (madeCells #[.int .u8 0] M) 5)) w.heap.size 5 (u8s (List.replicate M 0))) := hO
      clear hO e0
      go_wp2_with (fail)
      go_loopw [6, 7] (fun t6 t7 wr => ∃ (i ov : Nat) (cur : List Nat), t6 = .int .i64 ov ∧ t7 = .int .i64 i ∧ i ≤ M ∧ ov ≤ 33292800 ∧ Hid (Up w wr) ∧ Hid (Own wr w.heap.size 5 (u8s cur)) ∧ Hid (cur.length = M ∧ Digs cur ∧ bv (cur.take i) + ov * 256 ^ i = bv (cs.take i))) (fun _ t7 _ => M - (intOf t7).toNat)
      case atStart => exact ⟨0, 0, List.replicate M 0, rfl, rfl, by omega, by omega, (Up.refl w).alloc _, HO.out, ⟨by simp, digs_zero _, by simp [bv]⟩⟩
      case round =>
        obtain ⟨i, ov, cur, rfl, rfl, hi, hov, HU, HW, HI⟩ := hrel
        clear hmk HO
        by_cases hlt' : i < M
        · have cz := Own.byt HW.out (i := i) (by rw [HI.out.1]; exact hlt')
          have fz := Own.free HW.out i
          generalize cur[i]?.getD 0 = old at *
          have HT : Hid (bv (cs.take (i + 1)) = bv (cs.take i) + 256 ^ i * (cs[i]?.getD 0)) := bv_take1 cs i
          have i0 : (0 : Int) ≤ (i : Int) := by omega
          have iM : (i : Int) < (M : Int) := by omega
          have oI : (ov : Int) ≤ 33292800 := by omega
          have o0 : (0 : Int) ≤ (ov : Int) := by omega
          by_cases hl2 : i < n
          · obtain ⟨b, off, rfl, k1⟩ := HA.out i hl2
            replace k1 := (HU.out).cell k1
            have d1 := HB.out i
            generalize cs[i]?.getD 0 = p at *
            have g3 : (i : Int) < (n : Int) := by omega
            obtain ⟨s, hs⟩ : ∃ s, s = p + ov := ⟨_, rfl⟩
            have s1 : (ov : Int) + (p : Int) = (s : Int) := by omega
            obtain ⟨r, hr⟩ : ∃ r, r = s % 256 := ⟨_, rfl⟩
            obtain ⟨g, hg⟩ : ∃ g, g = s / 256 := ⟨_, rfl⟩
            have s2 : (s : Int) % 256 = (r : Int) := by omega
            have s3 : (s : Int) / 256 = (g : Int) := by omega
            have sI : (s : Int) ≤ 66585600 := by omega
            have s0 : (0 : Int) ≤ (s : Int) := by omega
            have p0 : (0 : Int) ≤ (p : Int) := by omega
            have pI : (p : Int) ≤ 33292800 := by omega
            have r0 : (0 : Int) ≤ (r : Int) := by omega
            have r1 : (r : Int) < 256 := by omega
            have g0 : (0 : Int) ≤ (g : Int) := by omega
            have g9 : (g : Int) ≤ 33292800 := by omega
            have HS : Hid (s = p + ov ∧ r = s % 256 ∧ g = s / 256) := ⟨hs, hr, hg⟩
            clear hs hr hg d1 HA HB hl2
            go_wp2
            go_roundw
            case rel =>
              refine ⟨i + 1, g, cur.set i r, by go_num, by go_num, by omega, by omega, (HU.out).setCell (Nat.le_refl _) _, Own.setByt HW.out i r, ⟨by simp; exact HI.out.1, HI.out.2.1.set i (by omega), ?_⟩⟩
              rw [HT.out, HS.out.2.1, HS.out.2.2]
              exact carry_step (by rw [HI.out.1]; exact hlt') HI.out.2.2 HS.out.1
            case measure => simp [intOf]; omega
          · have e2 : cs[i]?.getD 0 = 0 := by rw [List.getElem?_eq_none (by rw [← HL.out]; omega)]; rfl
            rw [e2] at HT
            have g3 : decide ((i : Int) < (n : Int)) = false := decide_eq_false (by omega)
            have g4 : (n : Int) ≤ (i : Int) := by omega
            obtain ⟨r, hr⟩ : ∃ r, r = ov % 256 := ⟨_, rfl⟩
            obtain ⟨g, hg⟩ : ∃ g, g = ov / 256 := ⟨_, rfl⟩
            have s2 : (ov : Int) % 256 = (r : Int) := by omega
            have s3 : (ov : Int) / 256 = (g : Int) := by omega
            have r0 : (0 : Int) ≤ (r : Int) := by omega
            have r1 : (r : Int) < 256 := by omega
            have g0 : (0 : Int) ≤ (g : Int) := by omega
            have g9 : (g : Int) ≤ 33292800 := by omega
            have HS : Hid (r = ov % 256 ∧ g = ov / 256) := ⟨hr, hg⟩
            clear hr hg HA HB hl2 e2
            go_wp2
            go_roundw
            case rel =>
              refine ⟨i + 1, g, cur.set i r, by go_num, by go_num, by omega, by omega, (HU.out).setCell (Nat.le_refl _) _, Own.setByt HW.out i r, ⟨by simp; exact HI.out.1, HI.out.2.1.set i (by omega), ?_⟩⟩
              rw [HT.out, HS.out.1, HS.out.2]
              exact carry_step (d := 0) (by rw [HI.out.1]; exact hlt') HI.out.2.2 (by omega)
            case measure => simp [intOf]; omega
        · obtain rfl : M = i := by omega
          have HF : Hid (bv cur = bv cs) := by
            have h1 := HI.out.2.2
            have h2 := HV.out
            have h3 := HM.out
            rw [bv_take_ge cs (by rw [← HL.out]; omega), bv_take_ge cur (by rw [HI.out.1]; exact Nat.le_refl _)] at h1
            rw [← h3] at h2
            show _ = _
            rcases Nat.lt_or_ge ov 1 with h6 | h6
            · obtain rfl : ov = 0 := by omega
              rw [Nat.zero_mul] at h1
              omega
            · have : 256 ^ M ≤ ov * 256 ^ M := Nat.le_mul_of_pos_left _ h6
              omega
          have C4 : Hid (Calls Tabg.prog 122 #[.slice (some ⟨w.heap.size, 0, none⟩) M M] wr fun e w' => e = .returned (.slice (nrmA (some ⟨w.heap.size, 0, none⟩) (bv cur)) (dig (bv cur)).length (dig (bv cur)).length) ∧ wr = w') :=
            trim_any (some ⟨w.heap.size, 0, none⟩) M M cur wr (by have := Own.rdB HW.out HI.out.2.1; rwa [HI.out.1] at this) (Nat.le_refl _) (by omega)
          clear HA HB
          go_wp2_with (fail)
          refine (C4.out).mono ?_
          rintro e w' ⟨rfl, rfl⟩
          go_wp2_with (fail)
          first | go_ret2 | go_ret
          refine ⟨w.heap.size, cur, ?_, Nat.le_refl _, HU.out, fun _ => ⟨HW.out, HI.out.2.1, HF.out⟩⟩
          rw [← HF.out]
          rfl
end Go.Proofs.Ygctab
