/-
  DERIVED. GIVEN WITH THE SEED: THE CARDS: each row of YtliimcemjjhmaacGreatDoorRows.lean that lists a variable, with what it lists TIED to the program's text (the seventh form; the later family's looks); each row that meets fmt, with fmt's text TOLD by the authors' own Lean function (tested against real Go, not proved from fmt's source: count such statements apart). THE CARD IS WHAT COUNTS. Prove the row's statement (the work); the ties are given (YtliimcemjjhmaacGreatDoorTie.lean); close each card by the builder's one call (the guide's Derived/Test/ToyasCard.lean, 'card_holds'). Laid BY PROGRAM, IN A SANDBOX (cutbox-door.mjs). By AI agents, Wed Nov 11 2026. No macro, syntax, notation, axiom, sorry.
-/
import Derived.Test.YtliimcemjjhmaacGreatDoorRows
import GoSem.ClaimSeven
namespace Go.Proofs.YtliimcemjjhmaacGreatDoor
namespace Rows

/-- THE TIED CARD OF 'caesuralaw23.TestShort'. -/
def testShortCard : Claim7 := { stood := { row := testShortRow, standIns := [], harness := (true, "5b936a70f7487b71c77fb0f4309b31b15fff4059b257daa30740c17286c7177f"), looks := true }, kinds := [], alts := [], laidByText := true, laidKinds := [.data, .data, .data, .handle, .sentinel, .sentinel, .sentinel, .sentinel, .sentinel], laidTests := true, laidLooks := .later }
def TestShortCardSaid : Prop := Claim7.holds Tryz.pinned (.plain (OpenSpec.ofChange testShortSpec)) testShortCard

/-- THE SECOND FORM's CARD OF 'caesuralaw23.TestShort'. -/
def testShortUptoCard : Claim7 := { stood := { row := testShortUptoRow, standIns := [], harness := (true, "5b936a70f7487b71c77fb0f4309b31b15fff4059b257daa30740c17286c7177f"), looks := true }, kinds := [], alts := [], laidByText := true, laidKinds := [.data, .data, .data, .handle, .sentinel, .sentinel, .sentinel, .sentinel, .sentinel], laidTests := true, laidLooks := .later }
def TestShortUptoCardSaid : Prop := Claim7.holds Tryz.pinned (.plain (OpenSpec.upto testShortSpec)) testShortUptoCard
end Rows
end Go.Proofs.YtliimcemjjhmaacGreatDoor
