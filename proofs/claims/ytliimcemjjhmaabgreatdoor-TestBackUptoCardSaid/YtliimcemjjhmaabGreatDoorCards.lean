/-
  DERIVED. GIVEN WITH THE SEED: THE CARDS: each row of YtliimcemjjhmaabGreatDoorRows.lean that lists a variable, with what it lists TIED to the program's text (the seventh form; the later family's looks); each row that meets fmt, with fmt's text TOLD by the authors' own Lean function (tested against real Go, not proved from fmt's source: count such statements apart). THE CARD IS WHAT COUNTS. Prove the row's statement (the work); the ties are given (YtliimcemjjhmaabGreatDoorTie.lean); close each card by the builder's one call (the guide's Derived/Test/ToyasCard.lean, 'card_holds'). Laid BY PROGRAM, IN A SANDBOX (cutbox-door.mjs). By AI agents, Wed Nov 11 2026. No macro, syntax, notation, axiom, sorry.
-/
import Derived.Test.YtliimcemjjhmaabGreatDoorRows
import GoSem.ClaimSeven
namespace Go.Proofs.YtliimcemjjhmaabGreatDoor
namespace Rows

/-- THE TIED CARD OF 'caesuralaw23.TestBack'. -/
def testBackCard : Claim7 := { stood := { row := testBackRow, standIns := [], harness := (true, "e09accb4668b1421d7bcc12bfca72e2fc09d882b6e163ad05d2c903150791d90"), looks := true }, kinds := [], alts := [], laidByText := true, laidKinds := [.data, .data, .data, .handle, .sentinel, .sentinel, .sentinel, .sentinel, .sentinel, .sentinel, .sentinel, .sentinel, .sentinel, .sentinel, .sentinel, .sentinel, .sentinel], laidTests := true, laidLooks := .later }
def TestBackCardSaid : Prop := Claim7.holds Tryz.pinned (.plain (OpenSpec.ofChange testBackSpec)) testBackCard

/-- THE SECOND FORM's CARD OF 'caesuralaw23.TestBack'. -/
def testBackUptoCard : Claim7 := { stood := { row := testBackUptoRow, standIns := [], harness := (true, "e09accb4668b1421d7bcc12bfca72e2fc09d882b6e163ad05d2c903150791d90"), looks := true }, kinds := [], alts := [], laidByText := true, laidKinds := [.data, .data, .data, .handle, .sentinel, .sentinel, .sentinel, .sentinel, .sentinel, .sentinel, .sentinel, .sentinel, .sentinel, .sentinel, .sentinel, .sentinel, .sentinel], laidTests := true, laidLooks := .later }
def TestBackUptoCardSaid : Prop := Claim7.holds Tryz.pinned (.plain (OpenSpec.upto testBackSpec)) testBackUptoCard
end Rows
end Go.Proofs.YtliimcemjjhmaabGreatDoor
