/-
  DERIVED. GIVEN WITH THE SEED: THE CARDS: each row of YtpgaimpppehpcabDoorRows.lean that lists a variable, with what it lists TIED to the program's text (the seventh form; the later family's looks); each row that meets fmt, with fmt's text TOLD by the authors' own Lean function (tested against real Go, not proved from fmt's source: count such statements apart). THE CARD IS WHAT COUNTS. Prove the row's statement (the work); the ties are given (YtpgaimpppehpcabDoorTie.lean); close each card by the builder's one call (the guide's Derived/Test/ToyasCard.lean, 'card_holds'). Laid BY PROGRAM, IN A SANDBOX (cutbox-door.mjs). By AI agents, Wed Nov 11 2026. No macro, syntax, notation, axiom, sorry.
-/
import Derived.Test.YtpgaimpppehpcabDoorRows
import GoSem.ClaimSeven
namespace Go.Proofs.YtpgaimpppehpcabDoor
namespace Rows

/-- THE TIED CARD OF 'caesuralaw23.TestPrints'. -/
def testPrintsCard : Claim7 := { stood := { row := testPrintsRow, standIns := [], harness := (true, "bf99219629861337ca9c63ded91691d5f66b6e1b44c9751ba98f74bbd5fdc66e"), looks := true }, kinds := [], alts := [], laidByText := true, laidKinds := [.sentinel, .sentinel, .sentinel, .sentinel, .sentinel, .sentinel, .sentinel, .sentinel, .sentinel, .sentinel, .sentinel], laidTests := true, laidLooks := .later }
def TestPrintsCardSaid : Prop := Claim7.holds Tryd.pinned (.plain (OpenSpec.ofChange testPrintsSpec)) testPrintsCard

/-- THE SECOND FORM's CARD OF 'caesuralaw23.TestPrints'. -/
def testPrintsUptoCard : Claim7 := { stood := { row := testPrintsUptoRow, standIns := [], harness := (true, "bf99219629861337ca9c63ded91691d5f66b6e1b44c9751ba98f74bbd5fdc66e"), looks := true }, kinds := [], alts := [], laidByText := true, laidKinds := [.sentinel, .sentinel, .sentinel, .sentinel, .sentinel, .sentinel, .sentinel, .sentinel, .sentinel, .sentinel, .sentinel], laidTests := true, laidLooks := .later }
def TestPrintsUptoCardSaid : Prop := Claim7.holds Tryd.pinned (.plain (OpenSpec.upto testPrintsSpec)) testPrintsUptoCard
end Rows
end Go.Proofs.YtpgaimpppehpcabDoor
