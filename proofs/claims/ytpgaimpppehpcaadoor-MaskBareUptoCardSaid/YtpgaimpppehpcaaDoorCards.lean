/-
  DERIVED. GIVEN WITH THE SEED: THE CARDS: each row of YtpgaimpppehpcaaDoorRows.lean that lists a variable, with what it lists TIED to the program's text (the seventh form; the later family's looks); each row that meets fmt, with fmt's text TOLD by the authors' own Lean function (tested against real Go, not proved from fmt's source: count such statements apart). THE CARD IS WHAT COUNTS. Prove the row's statement (the work); the ties are given (YtpgaimpppehpcaaDoorTie.lean); close each card by the builder's one call (the guide's Derived/Test/ToyasCard.lean, 'card_holds'). Laid BY PROGRAM, IN A SANDBOX (cutbox-door.mjs). By AI agents, Wed Nov 11 2026. No macro, syntax, notation, axiom, sorry.
-/
import Derived.Test.YtpgaimpppehpcaaDoorRows
import GoSem.ClaimSeven
namespace Go.Proofs.YtpgaimpppehpcaaDoor
namespace Rows

/-- THE TIED CARD OF 'caesuralaw30.MaskBare'. -/
def maskBareCard : Claim7 := { stood := { row := maskBareRow, standIns := [], harness := (true, "18265d3a931fdc2e58be41eca7fbb4a23f9715f95160b8f2a35d1c1320ac62d9"), looks := true }, kinds := [], alts := [], laidByText := true, laidKinds := [.sentinel, .sentinel, .sentinel, .sentinel, .sentinel, .sentinel, .sentinel, .sentinel, .sentinel, .sentinel, .sentinel], laidTests := true, laidLooks := .later }
def MaskBareCardSaid : Prop := Claim7.holds Tryd.pinned (.plain (OpenSpec.ofChange maskBareSpec)) maskBareCard

/-- THE SECOND FORM's CARD OF 'caesuralaw30.MaskBare'. -/
def maskBareUptoCard : Claim7 := { stood := { row := maskBareUptoRow, standIns := [], harness := (true, "18265d3a931fdc2e58be41eca7fbb4a23f9715f95160b8f2a35d1c1320ac62d9"), looks := true }, kinds := [], alts := [], laidByText := true, laidKinds := [.sentinel, .sentinel, .sentinel, .sentinel, .sentinel, .sentinel, .sentinel, .sentinel, .sentinel, .sentinel, .sentinel], laidTests := true, laidLooks := .later }
def MaskBareUptoCardSaid : Prop := Claim7.holds Tryd.pinned (.plain (OpenSpec.upto maskBareSpec)) maskBareUptoCard
end Rows
end Go.Proofs.YtpgaimpppehpcaaDoor
