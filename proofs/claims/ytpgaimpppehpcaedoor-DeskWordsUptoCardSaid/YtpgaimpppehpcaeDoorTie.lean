/-
  DERIVED. GIVEN WITH THE SEED: THE PROGRAM's TIES (one call each: nine closed facts by the kernel) AND EACH ROW's TIE, after the 31st guide's Derived/Test/Toyas{Tie, Card}.lean. No idea stands in it: it is a product of the set-up. Laid BY PROGRAM, IN A SANDBOX (cutbox-door.mjs). By AI agents, Wed Nov 11 2026. No macro, syntax, notation, axiom, sorry.
-/
import Derived.Test.YtpgaimpppehpcaeDoorRows
import Derived.LaidByTextLater
import Derived.SevenTiedAt
import Derived.LaidSub
import Derived.LaidOnce
namespace Go.Proofs.YtpgaimpppehpcaeDoor
open Go
set_option maxRecDepth 100000
theorem seatTie1 : Tryd.prog.laidByTextLater [("unicode/utf8.acceptRanges", Rows.laid_unicode_utf8_acceptRanges), ("caesura/api.ErrArg", Rows.laid_caesura_api_ErrArg), ("caesura/api.ErrText", Rows.laid_caesura_api_ErrText), ("caesura/api.ErrMany", Rows.laid_caesura_api_ErrMany), ("caesura/api.ErrShort", Rows.laid_caesura_api_ErrShort), ("caesura/api.ErrTwice", Rows.laid_caesura_api_ErrTwice), ("caesura/api.ErrLost", Rows.laid_caesura_api_ErrLost), ("caesura/api.ErrOrder", Rows.laid_caesura_api_ErrOrder), ("caesura/api.ErrCycle", Rows.laid_caesura_api_ErrCycle), ("caesura/api.ErrSum", Rows.laid_caesura_api_ErrSum), ("caesura/api.ErrForm", Rows.laid_caesura_api_ErrForm), ("caesura/api.ErrEnd", Rows.laid_caesura_api_ErrEnd)] [.data, .sentinel, .sentinel, .sentinel, .sentinel, .sentinel, .sentinel, .sentinel, .sentinel, .sentinel, .sentinel, .sentinel] true :=
  Program.laidByTextLater_by_one 228 8 33 (by kernel_rfl) (by kernel_rfl) (by kernel_rfl) (by kernel_rfl) (by kernel_rfl) (by kernel_rfl) (fun _ _ => by kernel_rfl)
theorem pin_laid_unicode_utf8_first : Tryd.pinned.checked.prog.pinnedFits "unicode/utf8.first" = true := by kernel_rfl
theorem noOwnUnsafe : Tryd.pinned.checked.prog.headLifts.contains "ownunsafe" = false := by kernel_rfl
theorem fits1 : Tryd.pinned.checked.prog.listedFits [("unicode/utf8.acceptRanges", Rows.laid_unicode_utf8_acceptRanges), ("caesura/api.ErrArg", Rows.laid_caesura_api_ErrArg), ("caesura/api.ErrText", Rows.laid_caesura_api_ErrText), ("caesura/api.ErrMany", Rows.laid_caesura_api_ErrMany), ("caesura/api.ErrShort", Rows.laid_caesura_api_ErrShort), ("caesura/api.ErrTwice", Rows.laid_caesura_api_ErrTwice), ("caesura/api.ErrLost", Rows.laid_caesura_api_ErrLost), ("caesura/api.ErrOrder", Rows.laid_caesura_api_ErrOrder), ("caesura/api.ErrCycle", Rows.laid_caesura_api_ErrCycle), ("caesura/api.ErrSum", Rows.laid_caesura_api_ErrSum), ("caesura/api.ErrForm", Rows.laid_caesura_api_ErrForm), ("caesura/api.ErrEnd", Rows.laid_caesura_api_ErrEnd), ("unicode/utf8.first", Rows.laid_unicode_utf8_first)] = true := by
  unfold Program.listedFits
  rw [noOwnUnsafe]
  kernel_rfl
theorem tie : Tryd.prog.laidByTextLater [("unicode/utf8.acceptRanges", Rows.laid_unicode_utf8_acceptRanges), ("caesura/api.ErrArg", Rows.laid_caesura_api_ErrArg), ("caesura/api.ErrText", Rows.laid_caesura_api_ErrText), ("caesura/api.ErrMany", Rows.laid_caesura_api_ErrMany), ("caesura/api.ErrShort", Rows.laid_caesura_api_ErrShort), ("caesura/api.ErrTwice", Rows.laid_caesura_api_ErrTwice), ("caesura/api.ErrLost", Rows.laid_caesura_api_ErrLost), ("caesura/api.ErrOrder", Rows.laid_caesura_api_ErrOrder), ("caesura/api.ErrCycle", Rows.laid_caesura_api_ErrCycle), ("caesura/api.ErrSum", Rows.laid_caesura_api_ErrSum), ("caesura/api.ErrForm", Rows.laid_caesura_api_ErrForm), ("caesura/api.ErrEnd", Rows.laid_caesura_api_ErrEnd)] [.data, .sentinel, .sentinel, .sentinel, .sentinel, .sentinel, .sentinel, .sentinel, .sentinel, .sentinel, .sentinel, .sentinel] true :=
  Program.laidByTextLater.sub seatTie1 ["unicode/utf8.acceptRanges", "caesura/api.ErrArg", "caesura/api.ErrText", "caesura/api.ErrMany", "caesura/api.ErrShort", "caesura/api.ErrTwice", "caesura/api.ErrLost", "caesura/api.ErrOrder", "caesura/api.ErrCycle", "caesura/api.ErrSum", "caesura/api.ErrForm", "caesura/api.ErrEnd"] (by kernel_rfl) (by kernel_rfl)
theorem deskWords_row_tie : Rows.deskWordsRow.laidByTextAt .later Tryd.pinned [.data, .sentinel, .sentinel, .sentinel, .sentinel, .sentinel, .sentinel, .sentinel, .sentinel, .sentinel, .sentinel, .sentinel, .pinned] true :=
  OpenClaim.laidByTextAt_pinned rfl rfl tie rfl rfl rfl rfl (fun y hy _e => by
    simp only [Rows.deskWordsRow, List.zip_cons_cons, List.zip_nil_right, List.mem_cons, List.mem_nil_iff, or_false] at hy
    rcases hy with rfl | rfl | rfl | rfl | rfl | rfl | rfl | rfl | rfl | rfl | rfl | rfl | rfl
    · cases _e
    · cases _e
    · cases _e
    · cases _e
    · cases _e
    · cases _e
    · cases _e
    · cases _e
    · cases _e
    · cases _e
    · cases _e
    · cases _e
    · exact ⟨pin_laid_unicode_utf8_first, by kernel_rfl⟩) fits1
theorem deskWordsUpto_row_tie : Rows.deskWordsUptoRow.laidByTextAt .later Tryd.pinned [.data, .sentinel, .sentinel, .sentinel, .sentinel, .sentinel, .sentinel, .sentinel, .sentinel, .sentinel, .sentinel, .sentinel, .pinned] true :=
  OpenClaim.laidByTextAt_pinned rfl rfl tie rfl rfl rfl rfl (fun y hy _e => by
    simp only [Rows.deskWordsUptoRow, List.zip_cons_cons, List.zip_nil_right, List.mem_cons, List.mem_nil_iff, or_false] at hy
    rcases hy with rfl | rfl | rfl | rfl | rfl | rfl | rfl | rfl | rfl | rfl | rfl | rfl | rfl
    · cases _e
    · cases _e
    · cases _e
    · cases _e
    · cases _e
    · cases _e
    · cases _e
    · cases _e
    · cases _e
    · cases _e
    · cases _e
    · cases _e
    · exact ⟨pin_laid_unicode_utf8_first, by kernel_rfl⟩) fits1
end Go.Proofs.YtpgaimpppehpcaeDoor
