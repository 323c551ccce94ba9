import Derived.Test.YgctabCarry
import Derived.Test.YgctabNttH
namespace Go.Proofs.Ygctab
open Go.RowKit
set_option linter.unusedVariables false
set_option linter.unusedSimpArgs false

theorem fillG {α : Type} (E : List α) (z : α) (i : Nat) (h : i < E.length) (x : α) (hx : E[i]? = some x) :
    (E.take i ++ List.replicate (E.length - i) z).set i x = E.take (i + 1) ++ List.replicate (E.length - (i + 1)) z := by
  have hl : (E.take i).length = i := by simp; omega
  rw [List.set_append, if_neg (by omega), hl, Nat.sub_self, show E.length - i = (E.length - (i + 1)) + 1 by omega, List.replicate_succ, List.set_cons_zero, List.take_add_one, hx]
  simp
/-- Digits, and zeros behind them. -/
def elL (n : Nat) (ds : List Nat) : List Int := i64s ds ++ List.replicate (n - ds.length) 0
theorem elL_length {n : Nat} {ds : List Nat} (h : ds.length ≤ n) : (elL n ds).length = n := by simp [elL, i64s_length]; omega
theorem elL_at {n : Nat} {ds : List Nat} {i : Nat} (h : i < ds.length) : (elL n ds)[i]? = some ((ds[i]?.getD 0 : Nat) : Int) := by
  unfold elL
  rw [List.getElem?_append_left (by rw [i64s_length]; exact h)]
  simp [i64s, List.getElem?_eq_getElem h]
theorem elL_getD (n : Nat) (ds : List Nat) (i : Nat) : (elL n ds)[i]?.getD 0 = ((ds[i]?.getD 0 : Nat) : Int) := by
  rcases Nat.lt_or_ge i ds.length with h | h
  · rw [elL_at h]; rfl
  · unfold elL
    rw [List.getElem?_append_right (by rw [i64s_length]; exact h), List.getElem?_replicate, List.getElem?_eq_none h]
    split <;> rfl
theorem elL_take {n : Nat} {ds : List Nat} (h : ds.length ≤ n) : (elL n ds).take ds.length ++ List.replicate ((elL n ds).length - ds.length) 0 = elL n ds := by
  rw [elL_length h]
  unfold elL
  rw [List.take_append_of_le_length (by rw [i64s_length]; exact Nat.le_refl _), List.take_of_length_le (by rw [i64s_length]; exact Nat.le_refl _)]
theorem elL_in1 {n : Nat} {ds : List Nat} (h : Digs ds) : In1 (elL n ds) := by
  intro x hx
  unfold elL at hx
  rcases List.mem_append.1 hx with hx | hx
  · unfold i64s at hx
    simp only [List.mem_map] at hx
    obtain ⟨d, hd, rfl⟩ := hx
    have := h d hd
    omega
  · have := List.eq_of_mem_replicate hx
    omega

set_option maxRecDepth 100000 in
set_option maxHeartbeats 800000 in
theorem elems_any (a : Option Addr) (la c n : Nat) (ds : List Nat) (w : World) (h : RdB w a la ds) (hn : n ≤ 2048) (hl : la ≤ n) :
    Calls Tabg.prog 154 #[.slice a la c, .int .i64 n] w fun e w' => e = .returned (.slice (some ⟨w.heap.size, 0, none⟩) n n) ∧ Up w w' ∧ Own w' w.heap.size 78 (ints .u32 (elL n ds)) := by
  have hla := h.1
  have hmk := fun w => run_make_row' (P := Tabg.prog) 82 78 (.int .u32 0) 4 Tabg.underlying82 (by kernel_rfl) rfl .i64 .i64 n (by omega) (by omega) w
  have hO := Own.made w 78 (.int .u32 0) n
  rw [ints_replicate] at hO
  have HO : Hid (Own (w.alloc (.cells (madeCells #[.int .u32 0] n) 78)) w.heap.size 78 (ints .u32 (List.replicate n 0))) := hO
  have HA : Hid (∀ i, i < la → ∃ b off, a = some ⟨b, off, none⟩ ∧ w.cell? ⟨b, off + i, none⟩ = some (.int .u8 ((ds[i]?.getD 0 : Nat) : Int))) := fun i hi => h.2.2 i (by omega)
  have HE : Hid ((elL n ds).length = n ∧ (∀ i, i < la → (elL n ds)[i]? = some ((ds[i]?.getD 0 : Nat) : Int)) ∧ (elL n ds).take la ++ List.replicate ((elL n ds).length - la) 0 = elL n ds) := ⟨elL_length (by omega), fun i hi => elL_at (by omega), by rw [hla]; exact elL_take (by omega)⟩
  have HD : Hid (Digs ds) := h.2.1
  generalize elL n ds = E at *
  have nI : (n : Int) ≤ 2048 := by omega
  have lI : (la : Int) ≤ (n : Int) := by omega
  clear h hO hla
  go_enter Tabg.func154, Tabg.ntmps154
  go_wp2_with (fail)
  go_loopw [6] (fun t wr => ∃ i : Nat, t = .int .i64 i ∧ i ≤ la ∧ Hid (Up w wr) ∧ Hid (Own wr w.heap.size 78 (ints .u32 (E.take i ++ List.replicate (E.length - i) 0)))) (fun t _ => la - (intOf t).toNat)
  case atStart => exact ⟨0, rfl, by omega, (Up.refl w).alloc _, by show Own _ _ _ _; rw [List.take_zero, List.nil_append, HE.out.1]; exact HO.out⟩
  case round =>
    obtain ⟨i, rfl, hi, HU, HW⟩ := hrel
    clear hmk HO
    by_cases hlt : i < la
    · obtain ⟨b, off, rfl, k1⟩ := HA.out i hlt
      replace k1 := (HU.out).cell k1
      have d1 := (HD.out).at i
      have hll : (E.take i ++ List.replicate (E.length - i) 0).length = n := by simp; rw [HE.out.1]; omega
      have cz := Own.int HW.out (i := i) (by rw [hll]; omega)
      have fz := Own.free HW.out i
      generalize (E.take i ++ List.replicate (E.length - i) 0)[i]?.getD 0 = old at *
      have HS : Hid ((E.take i ++ List.replicate (E.length - i) 0).set i ((ds[i]?.getD 0 : Nat) : Int) = E.take (i + 1) ++ List.replicate (E.length - (i + 1)) 0) := fillG E 0 i (by rw [HE.out.1]; omega) _ (HE.out.2.1 i hlt)
      generalize ds[i]?.getD 0 = p at *
      have pI : (p : Int) < 256 := by omega
      have p0 : (0 : Int) ≤ (p : Int) := by omega
      have i0 : (0 : Int) ≤ (i : Int) := by omega
      have im : (i : Int) < (la : Int) := by omega
      have iM : (i : Int) < (n : Int) := by omega
      clear HA hll d1
      go_wp2
      go_roundw
      case rel =>
        refine ⟨i + 1, by go_num, by omega, (HU.out).setCell (Nat.le_refl _) _, ?_⟩
        show Own _ _ _ _
        rw [← HS.out]
        exact Own.setInt HW.out i _
      case measure => simp [intOf]; omega
    · obtain rfl : la = i := by omega
      clear HA
      go_wp2
      go_ret
      refine ⟨rfl, HU.out, ?_⟩
      have := HW.out
      rw [HE.out.2.2] at this
      exact this
end Go.Proofs.Ygctab
