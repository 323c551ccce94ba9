import Derived.Test.YgctabTowL0
import Derived.Test.YgctabTowL4
import Derived.Test.YgctabTowL6
import Derived.Test.YgctabTowL8
import Derived.Test.YgctabTowLT
import Derived.Test.YgctabTowL9
namespace Go.Proofs.Ygctab
open Go.RowKit
set_option linter.unusedVariables false
set_option linter.unusedSimpArgs false

/-- law.row does the table's row. -/
theorem row_any {w : World} {a o : Option Addr} {n c k oc : Nat} {vs : List Nat} {os : List Int} (h : LS w (.slice a n c) (.slice o k oc) vs os) (hb : Bnd vs) (ho : os.length ≤ 4095) (K : Nat) (hK : K < 256)
    {A : Option Addr} {l cc : Nat} {ds : List Nat} (hin : Inp w A l cc ds) :
    Calls Tabg.prog 76 #[.int .u8 0, .agg #[.slice a n c, .slice o k oc], .agg #[.int .u8 (K : Int), .slice A l cc]] w fun e w' => LR w w' e (rowP K (bv (ds.take 512)) vs os) := by
  by_cases h9 : 9 ≤ K
  · exact row_9 K h hb ho hin h9 hK
  · match K, h9 with
    | 0, _ => exact row_0 h hb ho hin
    | 1, _ => exact row_T 1 h hb ho hin (by decide)
    | 2, _ => exact row_T 2 h hb ho hin (by decide)
    | 3, _ => exact row_T 3 h hb ho hin (by decide)
    | 4, _ => exact row_4 h hb ho hin
    | 5, _ => exact row_T 5 h hb ho hin (by decide)
    | 6, _ => exact row_6 h hb ho hin
    | 7, _ => exact row_T 7 h hb ho hin (by decide)
    | 8, _ => exact row_8 h hb ho hin
    | n + 9, h => exact absurd (by omega) h
end Go.Proofs.Ygctab
