import Derived.Test.YgctabTowT0
import Derived.Test.YgctabTowT1
import Derived.Test.YgctabTowT2
import Derived.Test.YgctabTowT3
import Derived.Test.YgctabTowT4
import Derived.Test.YgctabTowT5
import Derived.Test.YgctabTowT6
import Derived.Test.YgctabTowT7
import Derived.Test.YgctabTowT8
import Derived.Test.YgctabTowK
namespace Go.Proofs.Ygctab
open Go.RowKit
set_option linter.unusedVariables false
set_option linter.unusedSimpArgs false

set_option maxRecDepth 100000 in
set_option maxHeartbeats 1600000 in
theorem step_far {w0 w : World} {m : Nat} {vs : List Nat} {os : List Int} (h : MV w0 w m vs os) (eng : Nat) (he : eng < 4) (K : Nat) (h9 : 9 ≤ K) (hK : K < 256) (A : Option Addr) (l c t : Nat) :
    Calls Tabg.prog 135 #[.int .u8 (eng : Int), .pointer (some ⟨m, 0, none⟩), .agg #[.int .u8 (K : Int), .slice A l c]] w fun e w' => e = .returned (.tuple #[]) ∧ MV w0 w' m (rowP K t vs os).1 (rowP K t vs os).2 := by
  have hr : roomP K = (-1, false) := by unfold roomP; rw [if_neg (by omega), if_neg (by omega), if_neg (by omega), if_neg (by omega)]
  have CR : Hid (Calls Tabg.prog 156 #[.int .u8 (K : Int)] (w.alloc (.cells #[.int .u8 (K : Int), .slice A l c] 106)) fun e w' => e = .returned (.tuple #[.int .i64 (-1), .bool false]) ∧ (w.alloc (.cells #[.int .u8 (K : Int), .slice A l c] 106)) = w') := by
    have := room_any K hK (w.alloc (.cells #[.int .u8 (K : Int), .slice A l c] 106))
    rw [hr] at this
    exact this
  have HQ : Hid (MV w0 (w.alloc (.cells #[.int .u8 (K : Int), .slice A l c] 106)) m (rowP K t vs os).1 (rowP K t vs os).2) := by
    rw [rowP_far h9]
    obtain ⟨ps, h1, h2⟩ := h
    exact ⟨ps, h1, h2.up ((Up.refl w).alloc _)⟩
  have eI : decide ((3 : Int) < (eng : Int)) = false := decide_eq_false (by omega)
  have eI' : (eng : Int) ≤ 3 := by omega
  clear h hr
  go_enter Tabg.func135, Tabg.ntmps135
  go_wp2_with (fail)
  refine (CR.out).mono ?_
  rintro e w' ⟨rfl, rfl⟩
  go_wp2_with (fail)
  refine bodyPost_ret (results_none rfl _ _ _) rfl ?_
  exact ⟨rfl, HQ.out⟩

/-- calc.Step does the table's row. -/
theorem step_any {w0 w : World} {m : Nat} {vs : List Nat} {os : List Int} (h : MV w0 w m vs os) (hb : Bnd vs) (ho : os.length ≤ 4095) (eng : Nat) (he : eng < 4) (K : Nat) (hK : K < 256)
    {A : Option Addr} {l c : Nat} {ds : List Nat} (hin : Inp w A l c ds) :
    Calls Tabg.prog 135 #[.int .u8 (eng : Int), .pointer (some ⟨m, 0, none⟩), .agg #[.int .u8 (K : Int), .slice A l c]] w fun e w' => e = .returned (.tuple #[]) ∧
      MV w0 w' m (rowP K (bv (ds.take 512)) vs os).1 (rowP K (bv (ds.take 512)) vs os).2 := by
  by_cases h9 : 9 ≤ K
  · exact step_far h eng he K h9 hK A l c _
  · obtain ⟨ps, h1, h2⟩ := h
    match K, h9 with
    | 0, _ => exact step_0 h2 h1 hb ho eng he hin
    | 1, _ => exact step_1 h2 h1 hb ho eng he hin
    | 2, _ => exact step_2 h2 h1 hb ho eng he hin
    | 3, _ => exact step_3 h2 h1 hb ho eng he hin
    | 4, _ => exact step_4 h2 h1 hb ho eng he hin
    | 5, _ => exact step_5 h2 h1 hb ho eng he hin
    | 6, _ => exact step_6 h2 h1 hb ho eng he hin
    | 7, _ => exact step_7 h2 h1 hb ho eng he hin
    | 8, _ => exact step_8 h2 h1 hb ho eng he hin
    | n + 9, h => exact absurd (by omega) h
end Go.Proofs.Ygctab
