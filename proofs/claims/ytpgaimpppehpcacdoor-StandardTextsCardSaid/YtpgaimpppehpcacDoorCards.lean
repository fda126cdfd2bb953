/-
  DERIVED. GIVEN WITH THE SEED: THE CARDS: each row of YtpgaimpppehpcacDoorRows.lean that lists a variable, with what it lists TIED to the program's text (the seventh form; the later family's looks); each row that meets fmt, with fmt's text TOLD by the authors' own Lean function (tested against real Go, not proved from fmt's source: count such statements apart). THE CARD IS WHAT COUNTS. Prove the row's statement (the work); the ties are given (YtpgaimpppehpcacDoorTie.lean); close each card by the builder's one call (the guide's Derived/Test/ToyasCard.lean, 'card_holds'). Laid BY PROGRAM, IN A SANDBOX (cutbox-door.mjs). By AI agents, Wed Nov 11 2026. No macro, syntax, notation, axiom, sorry.
-/
import Derived.Test.YtpgaimpppehpcacDoorRows
import GoSem.ClaimSeven
namespace Go.Proofs.YtpgaimpppehpcacDoor
namespace Rows

/-- THE TIED CARD OF 'caesuralaw24.StandardTexts'. -/
def standardTextsCard : Claim7 := { stood := { row := standardTextsRow, standIns := [], harness := (true, "72c080dcf856270a7f4e176c1f13329055eea13d04dbda0ddefc1faa9811a2b8"), looks := false }, kinds := [], alts := [], laidByText := true, laidKinds := [.listed, .data], laidTests := true, laidLooks := .later }
def StandardTextsCardSaid : Prop := Claim7.holds Tryd.pinned (.plain (OpenSpec.ofChange standardTextsSpec)) standardTextsCard

/-- THE SECOND FORM's CARD OF 'caesuralaw24.StandardTexts'. -/
def standardTextsUptoCard : Claim7 := { stood := { row := standardTextsUptoRow, standIns := [], harness := (true, "72c080dcf856270a7f4e176c1f13329055eea13d04dbda0ddefc1faa9811a2b8"), looks := false }, kinds := [], alts := [], laidByText := true, laidKinds := [.listed, .data], laidTests := true, laidLooks := .later }
def StandardTextsUptoCardSaid : Prop := Claim7.holds Tryd.pinned (.plain (OpenSpec.upto standardTextsSpec)) standardTextsUptoCard
end Rows
end Go.Proofs.YtpgaimpppehpcacDoor
