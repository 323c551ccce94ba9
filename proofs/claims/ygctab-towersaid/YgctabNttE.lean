import Derived.Test.YgctabNttD
namespace Go.Proofs.Ygctab
open Go.RowKit
set_option linter.unusedVariables false

/-- u, brought below 2P. -/
def cut2 (u : Int) : Int := if 1996488706 ≤ u then u - 1996488706 else u
/-- One butterfly: places p and q, the root r. -/
def bfly (p q : Nat) (r : Int) (xs : List Int) : List Int :=
  (xs.set p (cut2 (xs[p]?.getD 0) + tms r (xs[q]?.getD 0))).set q (cut2 (xs[p]?.getD 0) + 1996488706 - tms r (xs[q]?.getD 0))
def blockN (s half : Nat) (rt : Nat → Int) (xs : List Int) : Nat → List Int
  | 0 => xs
  | j + 1 => bfly (s + j) (s + half + j) (rt j) (blockN s half rt xs j)

/-- Every entry is a number below 4P. -/
def In4 (xs : List Int) : Prop := ∀ x ∈ xs, 0 ≤ x ∧ x < 3992977412

theorem In4.at {xs : List Int} (h : In4 xs) (i : Nat) : 0 ≤ xs[i]?.getD 0 ∧ xs[i]?.getD 0 < 3992977412 := by
  cases e : xs[i]? with
  | none => simp
  | some x => exact h x (List.mem_of_getElem? e)
theorem In4.set {xs : List Int} (h : In4 xs) (i : Nat) (x : Int) (h0 : 0 ≤ x) (h1 : x < 3992977412) : In4 (xs.set i x) := by
  intro y hy
  rcases List.mem_or_eq_of_mem_set hy with h' | h'
  · exact h y h'
  · subst h'; exact ⟨h0, h1⟩
theorem cut2_range (u : Int) (h0 : 0 ≤ u) (h1 : u < 3992977412) : 0 ≤ cut2 u ∧ cut2 u < 1996488706 := by unfold cut2; split <;> omega
theorem bfly_in (p q : Nat) (r : Int) (xs : List Int) (h : In4 xs) (h0 : 0 ≤ r) (h1 : r < 998244353) : In4 (bfly p q r xs) := by
  have a := h.at p
  have b := h.at q
  have c := cut2_range _ a.1 a.2
  have d := tms_range r _ h0 h1 b.1 (by omega)
  exact (h.set _ _ (by omega) (by omega)).set _ _ (by omega) (by omega)
theorem bfly_length (p q : Nat) (r : Int) (xs : List Int) : (bfly p q r xs).length = xs.length := by simp [bfly]
theorem blockN_length (s half : Nat) (rt : Nat → Int) (xs : List Int) (j : Nat) : (blockN s half rt xs j).length = xs.length := by
  induction j with
  | zero => rfl
  | succ j ih => rw [blockN, bfly_length, ih]
theorem blockN_in (s half : Nat) (rt : Nat → Int) (xs : List Int) (h : In4 xs) (hr : ∀ j, j < half → 0 ≤ rt j ∧ rt j < 998244353) : ∀ j, j ≤ half → In4 (blockN s half rt xs j)
  | 0, _ => h
  | j + 1, hj => bfly_in _ _ _ _ (blockN_in s half rt xs h hr j (by omega)) (hr j (by omega)).1 (hr j (by omega)).2

set_option maxHeartbeats 1600000 in
theorem block_any (bx bf s half R c1 c2 c3 : Nat) (T : TypeId) (xs ws : List Int) (w : World) (hx : Own w bx 78 (ints .u32 xs)) (hf : Own w bf T (facs ws)) (hne : bx ≠ bf)
    (hs : s + half + half ≤ xs.length) (hxl : xs.length ≤ 2048) (hR : R + half ≤ ws.length) (h4 : In4 xs) (hr : ∀ j, j < half → 0 ≤ ws[R + j]?.getD 0 ∧ ws[R + j]?.getD 0 < 998244353) :
    Calls Tabg.prog 169 #[.slice (some ⟨bx, s, none⟩) half c1, .slice (some ⟨bx, s + half, none⟩) half c2, .slice (some ⟨bf, R * 2, none⟩) half c3] w fun e w' =>
      e = .returned (.tuple #[]) ∧ Mod bx w w' ∧ Own w' bx 78 (ints .u32 (blockN s half (fun j => ws[R + j]?.getD 0) xs half)) := by
  have hin := blockN_in s half (fun j => ws[R + j]?.getD 0) xs h4 hr
  go_enter Tabg.func169, Tabg.ntmps169
  go_wp2
  go_loopw [6] (fun t wr => ∃ j : Nat, t = .int .i64 j ∧ j ≤ half ∧ Mod bx w wr ∧ Own wr bx 78 (ints .u32 (blockN s half (fun j => ws[R + j]?.getD 0) xs j))) (fun t _ => half - (intOf t).toNat)
  case atStart => exact ⟨0, rfl, Nat.zero_le _, Mod.refl _ _, hx⟩
  case round =>
    obtain ⟨j, rfl, hj, hm, ho⟩ := hrel
    by_cases hlt : j < half
    · have hyl := blockN_length s half (fun j => ws[R + j]?.getD 0) xs j
      have hy4 := hin j hj
      have hst : blockN s half (fun j => ws[R + j]?.getD 0) xs (j + 1) = bfly (s + j) (s + half + j) (ws[R + j]?.getD 0) (blockN s half (fun j => ws[R + j]?.getD 0) xs j) := rfl
      have hrj := hr j hlt
      have hfw := hf.mod hm (Ne.symm hne)
      have hjI : (j : Int) < (half : Int) := by omega
      have e1 : wr.cell? ⟨bf, R * 2 + j * 2, none⟩ = some (.int .u32 (ws[R + j]?.getD 0)) := by rw [← Nat.add_mul]; exact hfw.facW (by omega)
      have e2 : wr.cell? ⟨bf, R * 2 + j * 2 + 1, none⟩ = some (.int .u32 (rat (ws[R + j]?.getD 0))) := by rw [← Nat.add_mul]; exact hfw.facR (by omega)
      generalize blockN s half (fun j => ws[R + j]?.getD 0) xs j = ys at *
      generalize ws[R + j]?.getD 0 = r at *
      have HS : Hid (blockN s half (fun j => ws[R + j]?.getD 0) xs (j + 1) = bfly (s + j) (s + half + j) r ys) := hst
      have y0 := hy4.at (s + j)
      have y1 := hy4.at (s + half + j)
      have e3 : wr.cell? ⟨bx, s + j, none⟩ = some (.int .u32 (ys[s + j]?.getD 0)) := ho.int (by omega)
      have e4 : wr.cell? ⟨bx, s + half + j, none⟩ = some (.int .u32 (ys[s + half + j]?.getD 0)) := ho.int (by omega)
      have f3 := ho.free (s + j)
      have f4 := ho.free (s + half + j)
      have k0 := cut2_range _ y0.1 y0.2
      have k1 := tms_range r _ hrj.1 hrj.2 y1.1 (by omega)
      have cT := fun w : World => times' r (ys[s + half + j]?.getD 0) w hrj.1 hrj.2 y1.1 (by omega)
      clear hst hyl hin hr h4
      go_upto_if 32 with (fail)
      go_cut [7] (fun s7 wc => s7 = .int .u32 (cut2 (ys[s + j]?.getD 0)) ∧ wr = wc)
      case first =>
        by_cases hc : ys[s + j]?.getD 0 < 1996488706
        · go_wp2
          go_meet
          case rel => exact ⟨by unfold cut2; rw [if_neg (by omega)], rfl⟩
        · go_wp2
          go_meet
          case rel => exact ⟨by unfold cut2; rw [if_pos (by omega)], rfl⟩
      case rest =>
        obtain ⟨rfl, rfl⟩ := hcut
        have hbl := ho.lt
        have hfl := hfw.lt
        go_wp2
        go_region_held3 (fun w' => w'.cell? ⟨bf, R * 2 + j * 2, none⟩ = some (.int .u32 r) ∧ w'.cell? ⟨bf, R * 2 + j * 2 + 1, none⟩ = some (.int .u32 (rat r)) ∧ w'.cell? ⟨bx, s + half + j, none⟩ = some (.int .u32 (ys[s + half + j]?.getD 0))) (simp [go_sem, World.cell?_alloc_past, *])
          (first | (go_at_call 120; refine (cT _).mono ?_; rintro e w' ⟨rfl, q1, rfl⟩))
        go_wp2
        go_roundw
        case rel =>
          refine ⟨j + 1, by go_num, by omega, ((hm.setCell _ _).setCell _ _).up ((Up.refl _).alloc _).drew, ?_⟩
          rw [HS.out]
          exact (((ho.setInt _ _).setInt _ _).alloc _).drew
        case measure => simp [intOf]; omega
    · go_wp2
      go_end0
      obtain rfl : j = half := by omega
      exact ⟨rfl, hm, ho⟩
end Go.Proofs.Ygctab
