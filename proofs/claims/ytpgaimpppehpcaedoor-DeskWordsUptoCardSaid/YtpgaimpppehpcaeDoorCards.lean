/-
  DERIVED. GIVEN WITH THE SEED: THE CARDS: each row of YtpgaimpppehpcaeDoorRows.lean that lists a variable, with what it lists TIED to the program's text (the seventh form; the later family's looks); each row that meets fmt, with fmt's text TOLD by the authors' own Lean function (tested against real Go, not proved from fmt's source: count such statements apart). THE CARD IS WHAT COUNTS. Prove the row's statement (the work); the ties are given (YtpgaimpppehpcaeDoorTie.lean); close each card by the builder's one call (the guide's Derived/Test/ToyasCard.lean, 'card_holds'). Laid BY PROGRAM, IN A SANDBOX (cutbox-door.mjs). By AI agents, Wed Nov 11 2026. No macro, syntax, notation, axiom, sorry.
-/
import Derived.Test.YtpgaimpppehpcaeDoorRows
import GoSem.ClaimSeven
namespace Go.Proofs.YtpgaimpppehpcaeDoor
namespace Rows

/-- THE TIED CARD OF 'caesuralaw25.DeskWords'. -/
def deskWordsCard : Claim7 := { stood := { row := deskWordsRow, standIns := [], harness := (true, "cf5c73a769b6b1eb4e2937f8de3e0def2b1f3e70298b6501f4d386adf6c63658"), looks := true }, kinds := [], alts := [], laidByText := true, laidKinds := [.data, .sentinel, .sentinel, .sentinel, .sentinel, .sentinel, .sentinel, .sentinel, .sentinel, .sentinel, .sentinel, .sentinel, .pinned], laidTests := true, laidLooks := .later }
def DeskWordsCardSaid : Prop := Claim7.holds Tryd.pinned (.plain (OpenSpec.ofChange deskWordsSpec)) deskWordsCard

/-- THE SECOND FORM's CARD OF 'caesuralaw25.DeskWords'. -/
def deskWordsUptoCard : Claim7 := { stood := { row := deskWordsUptoRow, standIns := [], harness := (true, "cf5c73a769b6b1eb4e2937f8de3e0def2b1f3e70298b6501f4d386adf6c63658"), looks := true }, kinds := [], alts := [], laidByText := true, laidKinds := [.data, .sentinel, .sentinel, .sentinel, .sentinel, .sentinel, .sentinel, .sentinel, .sentinel, .sentinel, .sentinel, .sentinel, .pinned], laidTests := true, laidLooks := .later }
def DeskWordsUptoCardSaid : Prop := Claim7.holds Tryd.pinned (.plain (OpenSpec.upto deskWordsSpec)) deskWordsUptoCard
end Rows
end Go.Proofs.YtpgaimpppehpcaeDoor
