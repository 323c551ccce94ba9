import Derived.Test.YgctabNear
import Derived.Test.YgctabRawB
namespace Go.Proofs.Ygctab
open Go.RowKit
set_option linter.unusedVariables false
set_option linter.unusedSimpArgs false

set_option maxRecDepth 100000 in
theorem quarter_any (p : Nat) (hp : Fin64 p) : ∃ b : Bool, ∀ w, Calls Tabg.prog 170 #[.float .f64 p] w fun e w' => e = .returned (.bool b) ∧ w = w' := by
  have h1 := order_val hp c_q.1
  have h2 := order_val hp c_nq.1
  generalize compare (fval p) (fval 4598175219545276416) = o1 at *
  generalize compare (fval p) (fval 13821547256400052224) = o2 at *
  clear hp
  cases o1 <;> cases o2
  case lt.gt | lt.eq | eq.gt | eq.eq =>
    refine ⟨true, fun w => ?_⟩
    go_enter Tabg.func170, Tabg.ntmps170
    go_wp2
    go_ret
    exact ⟨rfl, rfl⟩
  all_goals
    refine ⟨false, fun w => ?_⟩
    go_enter Tabg.func170, Tabg.ntmps170
    go_wp2
    go_ret
    exact ⟨rfl, rfl⟩

theorem near_parts {x1 x2 : Nat} {v : Int} (h : NearC (clsC (x1, x2)) v) : Fin64 x1 ∧ 4 * (fval x1 - v * (SU : Int)).natAbs ≤ SU ∧ Fin64 x2 ∧ 4 * (fval x2).natAbs ≤ SU := by
  obtain ⟨z, ⟨⟨p, hp, fp, vp⟩, ⟨q, hq, fq, vq⟩⟩, h1, h2⟩ := h
  have e1 := cls_inj hp
  have e2 := cls_inj hq
  simp only at e1 e2
  subst e1 e2
  exact ⟨fp, by rw [vp]; exact h1, fq, by rw [vq]; exact h2⟩

set_option maxRecDepth 100000 in
set_option maxHeartbeats 1600000 in
theorem roundAll_yes (B n c M : Nat) (zs : List (Nat × Nat)) (cs : List Nat) (w : World) (hz : RdC w (some ⟨B, 0, none⟩) n zs) (hn : n ≤ 1024) (hM : 1 ≤ M) (hMn : M ≤ n) (hl : cs.length = M) (hc : ∀ x ∈ cs, x ≤ 33292800)
    (hN : ∀ i, i < n → NearC (clsC (zat zs i)) ((cs[i]?.getD 0 : Nat) : Int)) :
    Calls Tabg.prog 152 #[.slice (some ⟨B, 0, none⟩) n c, .int .i64 M] w fun e w' => e = .returned (.tuple #[.slice (some ⟨w.heap.size, 0, none⟩) M M, .bool true]) ∧ Up w w' ∧ Own w' w.heap.size 2 (ints .i64 (i64s cs)) := by
  have hmk := fun w => run_make_row' (P := Tabg.prog) 155 2 (.int .i64 0) 8 Tabg.underlying155 (by kernel_rfl) rfl .i64 .i64 M (by omega) (by omega) w
  have hO := Own.made w 2 (.int .i64 0) M
  rw [ints_replicate] at hO
  have HO : Hid (Own (w.alloc (.cells (madeCells #[.int .i64 0] M) 2)) w.heap.size 2 (ints .i64 (List.replicate M 0))) := hO
  have HZ : Hid (RdC w (some ⟨B, 0, none⟩) n zs) := hz
  have HN : Hid (∀ i, i < n → NearC (clsC (zat zs i)) ((cs[i]?.getD 0 : Nat) : Int)) := hN
  have HC : Hid ((i64s cs).length = M ∧ (∀ i, i < M → (i64s cs)[i]? = some ((cs[i]?.getD 0 : Nat) : Int)) ∧ (∀ i : Nat, cs[i]?.getD 0 ≤ 33292800) ∧ ∀ i : Nat, M ≤ i → cs[i]?.getD 0 = 0) := by
    refine ⟨by rw [i64s_length]; exact hl, fun i hi => ?_, fun i => ?_, fun i hi => ?_⟩
    · simp [i64s, List.getElem?_eq_getElem (show i < cs.length by omega)]
    · cases h : cs[i]? with
      | none => simp
      | some v => exact hc v (List.mem_of_getElem? h)
    · rw [List.getElem?_eq_none (by omega)]; rfl
  generalize hC : i64s cs = C at *
  have HCe : Hid (i64s cs = C) := hC
  have nI : (n : Int) ≤ 1024 := by omega
  have M1 : (1 : Int) ≤ (M : Int) := by omega
  have MnI : (M : Int) ≤ (n : Int) := by omega
  have g1 : decide ((M : Int) < 0) = false := decide_eq_false (by omega)
  have g2 : decide ((n : Int) < (M : Int)) = false := decide_eq_false (by omega)
  have g3 : (0 : Int) < (M : Int) := by omega
  have g4 : decide (n < M) = false := decide_eq_false (by omega)
  have g5 : decide (0 < M) = true := decide_eq_true (by omega)
  clear hO hz hN hl hc hC
  go_enter Tabg.func152, Tabg.ntmps152
  go_wp2_with (fail)
  go_loopw [5, 6] (fun t5 t6 wr => ∃ i : Nat, t5 = .bool true ∧ t6 = .int .i64 i ∧ i ≤ n ∧ Hid (Up w wr) ∧ Hid (Own wr w.heap.size 2 (ints .i64 (C.take (min i M) ++ List.replicate (C.length - min i M) 0)))) (fun _ t6 _ => n - (intOf t6).toNat)
  case atStart => exact ⟨0, rfl, rfl, by omega, (Up.refl w).alloc _, by show Own _ _ _ _; rw [Nat.zero_min, List.take_zero, List.nil_append, HC.out.1]; exact HO.out⟩
  case round =>
    obtain ⟨i, rfl, rfl, hi, HU, HW⟩ := hrel
    clear hmk HO g1 g2 g3 g4 g5
    by_cases hlt : i < n
    · obtain ⟨b', off', e', k1⟩ := (HZ.out).2 i (by rw [← (HZ.out).1]; exact hlt)
      cases e'
      rw [Nat.zero_add] at k1
      have k0 := k1
      replace k1 := (HU.out).cell k1
      have hnear := HN.out i hlt
      generalize zat zs i = z at *
      obtain ⟨x1, x2⟩ := z
      obtain ⟨p1, p2, p3, p4⟩ := near_parts hnear
      have CQ2 : Hid (∀ w, Calls Tabg.prog 170 #[.float .f64 x2] w fun e w' => e = .returned (.bool true) ∧ w = w') := fun w => quarter_yes x2 p3 p4 w
      have i0 : (0 : Int) ≤ (i : Int) := by omega
      have im : (i : Int) < (n : Int) := by omega
      by_cases hlM : i < M
      · obtain ⟨bq, CQ1'⟩ := quarter_any x1 p1
        have CQ1 : Hid (∀ w, Calls Tabg.prog 170 #[.float .f64 x1] w fun e w' => e = .returned (.bool bq) ∧ w = w') := CQ1'
        have CN : Hid (∀ w, Calls Tabg.prog 171 #[.float .f64 x1] w fun e w' => e = .returned (.tuple #[.int .i64 ((cs[i]?.getD 0 : Nat) : Int), .bool true]) ∧ w = w') := fun w => nearest_yes x1 _ p1 (HC.out.2.2.1 i) p2 w
        have hml : (C.take (min i M) ++ List.replicate (C.length - min i M) 0).length = M := by simp; rw [HC.out.1]; omega
        have cz := Own.int HW.out (i := i) (by rw [hml]; exact hlM)
        have fz := Own.free HW.out i
        generalize (C.take (min i M) ++ List.replicate (C.length - min i M) 0)[i]?.getD 0 = old at *
        have HS : Hid ((C.take (min i M) ++ List.replicate (C.length - min i M) 0).set i ((cs[i]?.getD 0 : Nat) : Int) = C.take (min (i + 1) M) ++ List.replicate (C.length - min (i + 1) M) 0) := by
          show _ = _
          rw [Nat.min_eq_left (by omega), Nat.min_eq_left (by omega)]
          exact fillG C 0 i (by rw [HC.out.1]; exact hlM) _ (HC.out.2.1 i hlM)
        generalize cs[i]?.getD 0 = r at *
        have k2 : (wr.setCell ⟨w.heap.size, i, none⟩ (.int .i64 (r : Int))).cell? ⟨B, i, none⟩ = some (.complex .f64 x1 x2) := ((HU.out).setCell (Nat.le_refl _) _).cell k0
        have iM : (i : Int) < (M : Int) := by omega
        clear k0
        clear p1 p2 p3 p4 hnear CQ1' hml
        go_wp2_with (fail)
        refine (CQ1.out _).mono ?_
        rintro e w' ⟨rfl, rfl⟩
        go_wp2_with (fail)
        refine (CN.out _).mono ?_
        rintro e w' ⟨rfl, rfl⟩
        go_wp2_with (fail)
        refine (CQ2.out _).mono ?_
        rintro e w' ⟨rfl, rfl⟩
        clear CQ1 CN CQ2
        go_wp2_with (fail)
        go_roundw
        case rel =>
          refine ⟨i + 1, rfl, by go_num, by omega, (HU.out).setCell (Nat.le_refl _) _, ?_⟩
          show Own _ _ _ _
          rw [← HS.out]
          exact Own.setInt HW.out i _
        case measure => simp [intOf]; omega
      · have hz0 := HC.out.2.2.2 i (by omega)
        rw [hz0] at p2
        have CQ1 : Hid (∀ w, Calls Tabg.prog 170 #[.float .f64 x1] w fun e w' => e = .returned (.bool true) ∧ w = w') := fun w => quarter_yes x1 p1 (by
          have e : fval x1 - ((0 : Nat) : Int) * (SU : Int) = fval x1 := by simp
          rw [e] at p2
          exact p2) w
        have iM : decide ((i : Int) < (M : Int)) = false := decide_eq_false (by omega)
        have iM' : (M : Int) ≤ (i : Int) := by omega
        clear p1 p2 p3 p4 hnear hz0
        go_wp2_with (fail)
        refine (CQ1.out _).mono ?_
        rintro e w' ⟨rfl, rfl⟩
        go_wp2_with (fail)
        refine (CQ2.out _).mono ?_
        rintro e w' ⟨rfl, rfl⟩
        clear CQ1 CQ2
        go_wp2_with (fail)
        go_roundw
        case rel =>
          refine ⟨i + 1, rfl, by go_num, by omega, HU, ?_⟩
          have := HW.out
          rw [Nat.min_eq_right (show M ≤ i by omega)] at this
          show Own _ _ _ _
          rw [Nat.min_eq_right (show M ≤ i + 1 by omega)]
          exact this
        case measure => simp [intOf]; omega
    · obtain rfl : n = i := by omega
      go_wp2
      first | go_ret2 | go_ret
      refine ⟨rfl, HU.out, ?_⟩
      have := HW.out
      rw [Nat.min_eq_right hMn, List.take_of_length_le (by rw [HC.out.1]; exact Nat.le_refl _), HC.out.1, Nat.sub_self, List.replicate_zero, List.append_nil] at this
      exact this
end Go.Proofs.Ygctab
