import Derived.Test.YgctabTowQ
namespace Go.Proofs.Ygctab
open Go.RowKit
set_option linter.unusedVariables false
set_option linter.unusedSimpArgs false

def pat (ps : List (Nat × Nat)) (i : Nat) : Nat × Nat := ps[i]?.getD (0, 0)
theorem pat_mem {ps : List (Nat × Nat)} {i : Nat} (h : i < ps.length) : pat ps i ∈ ps := by
  unfold pat
  rw [List.getElem?_eq_getElem h]
  exact List.getElem_mem h
theorem pat_apart {ps : List (Nat × Nat)} (h : ps.Pairwise ApartE) {i j : Nat} (hi : i < ps.length) (hj : j < ps.length) (hne : i ≠ j) : ApartE (pat ps i) (pat ps j) := by
  unfold pat
  rw [List.getElem?_eq_getElem hi, List.getElem?_eq_getElem hj]
  rcases Nat.lt_or_gt_of_ne hne with h1 | h1
  · exact List.pairwise_iff_getElem.1 h i j hi hj h1
  · intro a b
    exact fun e => List.pairwise_iff_getElem.1 h j i hj hi h1 b a e.symm
theorem size202 : (Tabg.prog.info? 202).map (·.size) = some 8 := by kernel_rfl
/-- All eight places are far. -/
def Eight (w wr : World) (f B : Nat) : Prop := ∃ l, l.length = 8 ∧ Own wr f 202 l ∧ ∀ p ∈ l, FarP w B p
theorem Eight.zero (w : World) (w0 : World) (B : Nat) : Eight w0 (w.alloc (.cells (List.replicate 8 (.pointer none)).toArray 202)) w.heap.size B :=
  ⟨_, by simp, Own.new w 202 (List.replicate 8 (.pointer none)).toArray, fun p hp => Or.inl (List.eq_of_mem_replicate hp)⟩

set_option maxRecDepth 100000 in
set_option maxHeartbeats 1600000 in
theorem shares_no {b0 : Nat} {w : World} {m : Nat} {vS vO : Value} {ps : List (Nat × Nat)} {os : List Int} (h : Mach b0 w m vS vO ps os) (hl : ps.length ≤ 64) (i : Nat) (hi : i < ps.length) (hv : (pat ps i).2 ≠ 0) (hd : (dig (pat ps i).2).length ≤ 4096) :
    Calls Tabg.prog 174 #[vS, .int .i64 i] w fun e w' => e = .returned (.bool false) ∧ Up w w' := by
  obtain ⟨a, c, hvS, hc, ha', ha'', hcell⟩ := ownsRow_slice h.st
  obtain ⟨b, ha, ha3⟩ := hcell i hi
  clear ha' ha'' ha3
  subst ha hvS
  obtain ⟨N, hN⟩ : ∃ N, N = ps.length := ⟨_, rfl⟩
  have HC : Hid (∀ j, j < N → w.cell? ⟨b, j, none⟩ = some (entC (pat ps j))) := fun j hj => by
    obtain ⟨b', e, h1, _⟩ := hcell j (by omega)
    cases e
    rw [h1]
    unfold pat
    rw [List.getElem?_map, List.getElem?_eq_getElem (by omega : j < ps.length)]
    rfl
  obtain ⟨hB0, zs, hB, hdz, hbz⟩ := h.ent _ (pat_mem hi) hv
  have HF : Hid (∀ j, j < N → j ≠ i → (pat ps j).2 ≠ 0 → FarP w (pat ps i).1 (.pointer (some ⟨(pat ps j).1, 0, none⟩))) := fun j hj hne hz => by
    obtain ⟨_, zs', hB', _⟩ := h.ent _ (pat_mem (show j < ps.length by omega)) hz
    exact Or.inr ⟨_, _, rfl, pat_apart h.apart (by omega) hi hne hz hv, hB'⟩
  have ei : entC (pat ps i) = .slice (some ⟨(pat ps i).1, 0, none⟩) (dig (pat ps i).2).length (dig (pat ps i).2).length := by unfold entC; rw [nrmA_pos _ hv]
  have ci := HC.out i (by omega)
  rw [ei] at ci
  generalize (pat ps i).1 = B at *
  generalize (dig (pat ps i).2).length = L at *
  have CA : Hid (∀ wr f, Up w wr → Eight w wr f B → Calls Tabg.prog 177 #[.slice (some ⟨B, 0, none⟩) L L, .pointer (some ⟨f, 0, none⟩)] wr fun e w' => e = .returned (.bool false) ∧ Up wr w') := by
    intro wr f hu ⟨l, hl8, hol, hfl⟩
    match l, hl8 with
    | [p0, p1, p2, p3, p4, p5, p6, p7], _ => exact anyOf_no B L f 202 (u8s zs) p0 p1 p2 p3 p4 p5 p6 p7 wr (hB.up hu) hd hol (fun p hp => (hfl p hp).up hu)
  have HE : Hid (Eight w (w.alloc (.cells (List.replicate 8 (.pointer none)).toArray 202)) w.heap.size B) := Eight.zero w w B
  rw [← hN] at hl hi hc ⊢
  have hiI : (i : Int) < (N : Int) := by omega
  have NI : (N : Int) ≤ 64 := by omega
  have i0 : (0 : Int) ≤ (i : Int) := by omega
  clear h hcell hN hB0 hB hdz hbz ei hv
  go_enter Tabg.func174, Tabg.ntmps174
  go_wp2
  go_loopw [7, 8] (fun t u wr => ∃ n j : Nat, t = .int .i64 n ∧ u = .int .i64 j ∧ n < 8 ∧ j ≤ N ∧ Hid (Up w wr) ∧ Hid (Eight w wr w.heap.size B)) (fun _ u _ => N - (intOf u).toNat)
  case atStart => exact ⟨0, 0, rfl, rfl, by omega, by omega, (Up.refl w).alloc _, HE.out⟩
  case round =>
    obtain ⟨n, j, rfl, rfl, hn, hj, HU, HW⟩ := hrel
    clear HE ci
    by_cases hlt : j < N
    · have cj := (HU.out).cell (HC.out j hlt)
      have hF := HF.out j hlt
      obtain ⟨A, LL, eA⟩ : ∃ A LL, entC (pat ps j) = .slice A LL LL := ⟨_, _, rfl⟩
      have HA : Hid (((pat ps j).2 = 0 → A = none ∧ LL = 0) ∧ ((pat ps j).2 ≠ 0 → A = some ⟨(pat ps j).1, 0, none⟩ ∧ 0 < LL)) := by
        unfold entC at eA
        constructor
        · intro h0
          rw [h0, dig_zero] at eA
          cases eA
          exact ⟨rfl, rfl⟩
        · intro h0
          rw [nrmA_pos _ h0] at eA
          cases eA
          exact ⟨rfl, dig_length_pos h0⟩
      rw [eA] at cj
      clear eA
      have j0 : (0 : Int) ≤ (j : Int) := by omega
      have jN : (j : Int) < (N : Int) := by omega
      have n0 : (0 : Int) ≤ (n : Int) := by omega
      have nI : (n : Int) < 8 := by omega
      go_upto_region 7 with (fail)
      go_cut [28] (fun z wc => ∃ bb, z = .bool bb ∧ wr = wc ∧ (bb = true → j ≠ i ∧ (pat ps j).2 ≠ 0))
      case first =>
        by_cases hji : j = i
        · have g1 : ((j : Int) == (i : Int)) = true := by simp; omega
          have g2 : ((j : Int) != (i : Int)) = false := by simp; omega
          go_wp2
          go_meet
          case rel => exact ⟨false, rfl, rfl, nofun⟩
        · have g1 : ((j : Int) == (i : Int)) = false := by simp; omega
          have g2 : ((j : Int) != (i : Int)) = true := by simp; omega
          have g3 : decide (j = i) = false := decide_eq_false hji
          by_cases hz : (pat ps j).2 = 0
          · obtain ⟨rfl, rfl⟩ := HA.out.1 hz
            go_wp2
            go_meet
            case rel => exact ⟨false, rfl, rfl, nofun⟩
          · obtain ⟨rfl, hLL⟩ := HA.out.2 hz
            go_wp2
            go_meet
            case rel => exact ⟨true, rfl, rfl, fun _ => ⟨hji, hz⟩⟩
      case rest =>
        obtain ⟨bb, rfl, rfl, hbb⟩ := hcut
        go_upto_if 28 with (fail)
        go_cut [7] (fun z wc => ∃ n2 : Nat, z = .int .i64 n2 ∧ n2 ≤ 8 ∧ Hid (Up w wc) ∧ Hid (Eight w wc w.heap.size B))
        case first =>
          cases bb with
          | false =>
            go_wp2
            go_meet
            case rel => exact ⟨n, rfl, by omega, HU.out, HW.out⟩
          | true =>
            obtain ⟨q1, q2⟩ := hbb rfl
            obtain ⟨rfl, hLL⟩ := HA.out.2 q2
            have hfar := hF q1 q2
            obtain ⟨l, hl8, hol, hfl⟩ := HW.out
            have fz := hol.free n
            obtain ⟨old, cz⟩ : ∃ old, wr.cell? ⟨w.heap.size, n, none⟩ = some old := by
              rw [hol.cell, List.getElem?_eq_getElem (by omega)]
              exact ⟨_, rfl⟩
            have HS : Hid (Eight w (wr.setCell ⟨w.heap.size, n, none⟩ (.pointer (some ⟨(pat ps j).1, 0, none⟩))) w.heap.size B) := by
              refine ⟨l.set n (.pointer (some ⟨(pat ps j).1, 0, none⟩)), by simpa using hl8, hol.set n _, fun p hp => ?_⟩
              rcases List.mem_or_eq_of_mem_set hp with h1 | h1
              · exact hfl p h1
              · rw [h1]
                exact hfar
            have LI : (0 : Int) < (LL : Int) := by omega
            clear hol hfl HA hF hfar
            go_wp2
            go_meet
            case rel => exact ⟨n + 1, by go_num, by omega, (HU.out).setCell (Nat.le_refl _) _, HS.out⟩
        case rest =>
          obtain ⟨n2, rfl, hn2, HU2, HW2⟩ := hcut
          clear HU HW HA hF cj hbb
          have n20 : (0 : Int) ≤ (n2 : Int) := by omega
          have n2I : (n2 : Int) ≤ 8 := by omega
          go_upto_region 10 with (fail)
          go_cut [50] (fun z wd => ∃ bb, z = .bool bb ∧ wc = wd ∧ (bb = false → n2 < 8))
          case first =>
            by_cases h8 : n2 = 8
            · have g1 : ((n2 : Int) == 8) = true := by simp; omega
              go_wp2
              go_meet
              case rel => exact ⟨true, rfl, rfl, nofun⟩
            · have g1 : ((n2 : Int) == 8) = false := by simp; omega
              have g1d : decide (n2 = 8) = false := decide_eq_false h8
              by_cases hz : n2 = 0
              · subst hz
                go_wp2
                go_meet
                case rel => exact ⟨false, rfl, rfl, fun _ => by omega⟩
              · have g2 : decide ((0 : Int) < (n2 : Int)) = true := decide_eq_true (by omega)
                have g3 : (0 : Int) < (n2 : Int) := by omega
                have g4 : 0 < n2 := by omega
                go_wp2
                go_meet
                case rel => exact ⟨_, rfl, rfl, fun _ => by omega⟩
          case rest =>
            obtain ⟨bb, rfl, rfl, hbb⟩ := hcut
            clear HC HF
            cases bb with
            | false =>
              have := hbb rfl
              clear CA
              go_wp2
              go_roundw
              case rel => exact ⟨n2, j + 1, rfl, by go_num, hbb rfl, by omega, HU2.out, HW2.out⟩
              case measure => simp [intOf]; omega
            | true =>
              clear hbb
              go_wp2_with (fail)
              refine (CA.out wc w.heap.size HU2.out HW2.out).mono ?_
              rintro e w1 ⟨rfl, hu1⟩
              have HU3 : Hid (Up w w1) := (HU2.out).trans hu1
              obtain ⟨l, hl8, hol, hfl⟩ := HW2.out
              have HO : Hid (Own w1 w.heap.size 202 l) := hol.up hu1
              have H8 : Hid (l.length = 8) := hl8
              clear CA HU2 HW2 hu1 hol hfl hl8
              go_wp2_with (refine wpList_store_row rfl 202 (.tmp 6) (.tmp 53) rfl w.heap.size (List.replicate 8 (.pointer none)).toArray ?_ ?_ 202 l.toArray HO.out ?_ ?_ ?_ ?_)
              case refine_1 => rfl
              case refine_2 => rfl
              case refine_3 => exact size202
              case refine_4 => exact (List.size_toArray ..).trans H8.out
              case refine_5 => simp [Value.oneCell']
              have HW3 : Hid (Eight w (w1.setRow w.heap.size (List.replicate 8 (.pointer none)).toArray) w.heap.size B) := ⟨_, by simp, Own.setRow HO.out _, fun p hp => Or.inl (List.eq_of_mem_replicate hp)⟩
              go_roundw
              case rel => exact ⟨0, j + 1, rfl, by go_num, by omega, by omega, Up.ofMod HU3.out ((Mod.refl _ _).setRow _) (Nat.le_refl _), HW3.out⟩
              case measure => simp [intOf]; omega
    · obtain rfl : j = N := by omega
      go_wp2
      go_ret
      exact ⟨rfl, HU.out⟩
end Go.Proofs.Ygctab
