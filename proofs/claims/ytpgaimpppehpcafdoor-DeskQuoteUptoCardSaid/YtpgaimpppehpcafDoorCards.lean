/-
  DERIVED. GIVEN WITH THE SEED: THE CARDS: each row of YtpgaimpppehpcafDoorRows.lean that lists a variable, with what it lists TIED to the program's text (the seventh form; the later family's looks); each row that meets fmt, with fmt's text TOLD by the authors' own Lean function (tested against real Go, not proved from fmt's source: count such statements apart). THE CARD IS WHAT COUNTS. Prove the row's statement (the work); the ties are given (YtpgaimpppehpcafDoorTie.lean); close each card by the builder's one call (the guide's Derived/Test/ToyasCard.lean, 'card_holds'). Laid BY PROGRAM, IN A SANDBOX (cutbox-door.mjs). By AI agents, Wed Nov 11 2026. No macro, syntax, notation, axiom, sorry.
-/
import Derived.Test.YtpgaimpppehpcafDoorRows
import GoSem.ClaimSeven
namespace Go.Proofs.YtpgaimpppehpcafDoor
namespace Rows

/-- THE TIED CARD OF 'caesuralaw25.DeskQuote'. -/
def deskQuoteCard : Claim7 := { stood := { row := deskQuoteRow, standIns := [], harness := (true, "830e172b9dd1db5b575c1f6c7d73cd3bd27a52332d673500353f80af19c2b679"), looks := false }, kinds := [], alts := [], laidByText := true, laidKinds := [.data, .sentinel, .pinned], laidTests := true, laidLooks := .later }
def DeskQuoteCardSaid : Prop := Claim7.holds Tryd.pinned (.plain (OpenSpec.ofChange deskQuoteSpec)) deskQuoteCard

/-- THE SECOND FORM's CARD OF 'caesuralaw25.DeskQuote'. -/
def deskQuoteUptoCard : Claim7 := { stood := { row := deskQuoteUptoRow, standIns := [], harness := (true, "830e172b9dd1db5b575c1f6c7d73cd3bd27a52332d673500353f80af19c2b679"), looks := false }, kinds := [], alts := [], laidByText := true, laidKinds := [.data, .sentinel, .pinned], laidTests := true, laidLooks := .later }
def DeskQuoteUptoCardSaid : Prop := Claim7.holds Tryd.pinned (.plain (OpenSpec.upto deskQuoteSpec)) deskQuoteUptoCard
end Rows
end Go.Proofs.YtpgaimpppehpcafDoor
