/-
  DERIVED. GIVEN WITH THE SEED: THE CARDS: each row of YgctabDoorRows.lean that lists a variable, with what it lists TIED to the program's text (the seventh form; the later family's looks); each row that meets fmt, with fmt's text TOLD by the authors' own Lean function (tested against real Go, not proved from fmt's source: count such statements apart). THE CARD IS WHAT COUNTS. Prove the row's statement (the work); the ties are given (YgctabDoorTie.lean); close each card by the builder's one call (the guide's Derived/Test/ToyasCard.lean, 'card_holds'). Laid BY PROGRAM, IN A SANDBOX (cutbox-door.mjs). By AI agents, Wed Nov 11 2026. No macro, syntax, notation, axiom, sorry.
-/
import Derived.Test.YgctabDoorRows
import GoSem.ClaimSeven
namespace Go.Proofs.YgctabDoor
namespace Rows

/-- THE TIED CARD OF 'law.FinishRight'. -/
def finishRightCard : Claim7 := { stood := { row := finishRightRow, standIns := [], harness := (true, "44b4e248eb031ef2afef73a9010944b4e3aebf5af85c3b541dd722bec93c53ae"), looks := false }, kinds := [], alts := [], laidByText := true, laidKinds := [.data], laidTests := true, laidLooks := .later }
def FinishRightCardSaid : Prop := Claim7.holds Tabg.pinned (.plain (OpenSpec.ofChange finishRightSpec)) finishRightCard
end Rows
end Go.Proofs.YgctabDoor
