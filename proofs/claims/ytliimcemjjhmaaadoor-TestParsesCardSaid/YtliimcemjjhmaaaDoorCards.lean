/-
  DERIVED. GIVEN WITH THE SEED: THE CARDS: each row of YtliimcemjjhmaaaDoorRows.lean that lists a variable, with what it lists TIED to the program's text (the seventh form; the later family's looks); each row that meets fmt, with fmt's text TOLD by the authors' own Lean function (tested against real Go, not proved from fmt's source: count such statements apart). THE CARD IS WHAT COUNTS. Prove the row's statement (the work); the ties are given (YtliimcemjjhmaaaDoorTie.lean); close each card by the builder's one call (the guide's Derived/Test/ToyasCard.lean, 'card_holds'). Laid BY PROGRAM, IN A SANDBOX (cutbox-door.mjs). By AI agents, Wed Nov 11 2026. No macro, syntax, notation, axiom, sorry.
-/
import Derived.Test.YtliimcemjjhmaaaDoorRows
import GoSem.ClaimSeven
namespace Go.Proofs.YtliimcemjjhmaaaDoor
namespace Rows

/-- THE TIED CARD OF 'caesuralaw23.TestParses'. -/
def testParsesCard : Claim7 := { stood := { row := testParsesRow, standIns := [], harness := (true, "77e882f62d70114204d9565273e1e2bc55dc81a9e5ad6c22625f5de2d65d1655"), looks := true }, kinds := [], alts := [], laidByText := true, laidKinds := [.data, .data, .data, .handle, .sentinel, .sentinel, .sentinel, .sentinel, .sentinel, .sentinel, .sentinel, .sentinel, .sentinel, .sentinel, .sentinel, .sentinel, .sentinel], laidTests := true, laidLooks := .later }
def TestParsesCardSaid : Prop := Claim7.holds Tryd.pinned (.plain (OpenSpec.ofChange testParsesSpec)) testParsesCard

/-- THE SECOND FORM's CARD OF 'caesuralaw23.TestParses'. -/
def testParsesUptoCard : Claim7 := { stood := { row := testParsesUptoRow, standIns := [], harness := (true, "77e882f62d70114204d9565273e1e2bc55dc81a9e5ad6c22625f5de2d65d1655"), looks := true }, kinds := [], alts := [], laidByText := true, laidKinds := [.data, .data, .data, .handle, .sentinel, .sentinel, .sentinel, .sentinel, .sentinel, .sentinel, .sentinel, .sentinel, .sentinel, .sentinel, .sentinel, .sentinel, .sentinel], laidTests := true, laidLooks := .later }
def TestParsesUptoCardSaid : Prop := Claim7.holds Tryd.pinned (.plain (OpenSpec.upto testParsesSpec)) testParsesUptoCard
end Rows
end Go.Proofs.YtliimcemjjhmaaaDoor
