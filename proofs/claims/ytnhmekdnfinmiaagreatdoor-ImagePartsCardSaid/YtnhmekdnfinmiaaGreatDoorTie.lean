/-
  DERIVED. GIVEN WITH THE SEED: THE PROGRAM's TIES (one call each: nine closed facts by the kernel) AND EACH ROW's TIE, after the 31st guide's Derived/Test/Toyas{Tie, Card}.lean. No idea stands in it: it is a product of the set-up. Laid BY PROGRAM, IN A SANDBOX (cutbox-door.mjs). By AI agents, Wed Nov 11 2026. No macro, syntax, notation, axiom, sorry.
-/
import Derived.Test.YtnhmekdnfinmiaaGreatDoorRows
import Derived.LaidByTextLater
import Derived.SevenTiedAt
import Derived.LaidSub
import Derived.LaidOnce
namespace Go.Proofs.YtnhmekdnfinmiaaGreatDoor
open Go
set_option maxRecDepth 100000
theorem seatTie1 : Tryz.prog.laidByTextLater [("unicode/utf8.acceptRanges", Rows.laid_unicode_utf8_acceptRanges), ("barrow/api.ErrArg", Rows.laid_barrow_api_ErrArg), ("barrow/api.ErrRange", Rows.laid_barrow_api_ErrRange), ("barrow/api.ErrText", Rows.laid_barrow_api_ErrText), ("barrow/api.ErrFull", Rows.laid_barrow_api_ErrFull), ("barrow/api.ErrFrozen", Rows.laid_barrow_api_ErrFrozen), ("barrow/api.ErrForm", Rows.laid_barrow_api_ErrForm), ("barrow/api.ErrShort", Rows.laid_barrow_api_ErrShort), ("barrow/api.ErrOrder", Rows.laid_barrow_api_ErrOrder), ("barrow/api.ErrTwice", Rows.laid_barrow_api_ErrTwice), ("barrow/api.ErrEpoch", Rows.laid_barrow_api_ErrEpoch), ("barrow/api.ErrBusy", Rows.laid_barrow_api_ErrBusy), ("barrow/api.ErrNone", Rows.laid_barrow_api_ErrNone), ("barrow/api.ErrRoom", Rows.laid_barrow_api_ErrRoom), ("barrow/api.ErrOther", Rows.laid_barrow_api_ErrOther)] [.data, .sentinel, .sentinel, .sentinel, .sentinel, .sentinel, .sentinel, .sentinel, .sentinel, .sentinel, .sentinel, .sentinel, .sentinel, .sentinel, .sentinel] true :=
  Program.laidByTextLater_by_one 285 8 33 (by kernel_rfl) (by kernel_rfl) (by kernel_rfl) (by kernel_rfl) (by kernel_rfl) (by kernel_rfl) (fun _ _ => by kernel_rfl)
theorem pin_laid_unicode_utf8_first : Tryz.pinned.checked.prog.pinnedFits "unicode/utf8.first" = true := by kernel_rfl
theorem noOwnUnsafe : Tryz.pinned.checked.prog.headLifts.contains "ownunsafe" = false := by kernel_rfl
theorem fits1 : Tryz.pinned.checked.prog.listedFits [("unicode/utf8.acceptRanges", Rows.laid_unicode_utf8_acceptRanges), ("barrow/api.ErrArg", Rows.laid_barrow_api_ErrArg), ("barrow/api.ErrRange", Rows.laid_barrow_api_ErrRange), ("barrow/api.ErrText", Rows.laid_barrow_api_ErrText), ("barrow/api.ErrFull", Rows.laid_barrow_api_ErrFull), ("barrow/api.ErrFrozen", Rows.laid_barrow_api_ErrFrozen), ("barrow/api.ErrForm", Rows.laid_barrow_api_ErrForm), ("barrow/api.ErrShort", Rows.laid_barrow_api_ErrShort), ("barrow/api.ErrOrder", Rows.laid_barrow_api_ErrOrder), ("barrow/api.ErrTwice", Rows.laid_barrow_api_ErrTwice), ("barrow/api.ErrEpoch", Rows.laid_barrow_api_ErrEpoch), ("barrow/api.ErrBusy", Rows.laid_barrow_api_ErrBusy), ("barrow/api.ErrNone", Rows.laid_barrow_api_ErrNone), ("barrow/api.ErrRoom", Rows.laid_barrow_api_ErrRoom), ("barrow/api.ErrOther", Rows.laid_barrow_api_ErrOther), ("unicode/utf8.first", Rows.laid_unicode_utf8_first)] = true := by
  unfold Program.listedFits
  rw [noOwnUnsafe]
  kernel_rfl
theorem tie : Tryz.prog.laidByTextLater [("unicode/utf8.acceptRanges", Rows.laid_unicode_utf8_acceptRanges), ("barrow/api.ErrArg", Rows.laid_barrow_api_ErrArg), ("barrow/api.ErrRange", Rows.laid_barrow_api_ErrRange), ("barrow/api.ErrText", Rows.laid_barrow_api_ErrText), ("barrow/api.ErrFull", Rows.laid_barrow_api_ErrFull), ("barrow/api.ErrFrozen", Rows.laid_barrow_api_ErrFrozen), ("barrow/api.ErrForm", Rows.laid_barrow_api_ErrForm), ("barrow/api.ErrShort", Rows.laid_barrow_api_ErrShort), ("barrow/api.ErrOrder", Rows.laid_barrow_api_ErrOrder), ("barrow/api.ErrTwice", Rows.laid_barrow_api_ErrTwice), ("barrow/api.ErrEpoch", Rows.laid_barrow_api_ErrEpoch), ("barrow/api.ErrBusy", Rows.laid_barrow_api_ErrBusy), ("barrow/api.ErrNone", Rows.laid_barrow_api_ErrNone), ("barrow/api.ErrRoom", Rows.laid_barrow_api_ErrRoom), ("barrow/api.ErrOther", Rows.laid_barrow_api_ErrOther)] [.data, .sentinel, .sentinel, .sentinel, .sentinel, .sentinel, .sentinel, .sentinel, .sentinel, .sentinel, .sentinel, .sentinel, .sentinel, .sentinel, .sentinel] true :=
  Program.laidByTextLater.sub seatTie1 ["unicode/utf8.acceptRanges", "barrow/api.ErrArg", "barrow/api.ErrRange", "barrow/api.ErrText", "barrow/api.ErrFull", "barrow/api.ErrFrozen", "barrow/api.ErrForm", "barrow/api.ErrShort", "barrow/api.ErrOrder", "barrow/api.ErrTwice", "barrow/api.ErrEpoch", "barrow/api.ErrBusy", "barrow/api.ErrNone", "barrow/api.ErrRoom", "barrow/api.ErrOther"] (by kernel_rfl) (by kernel_rfl)
theorem imageParts_row_tie : Rows.imagePartsRow.laidByTextAt .later Tryz.pinned [.data, .sentinel, .sentinel, .sentinel, .sentinel, .sentinel, .sentinel, .sentinel, .sentinel, .sentinel, .sentinel, .sentinel, .sentinel, .sentinel, .sentinel, .pinned] true :=
  OpenClaim.laidByTextAt_pinned rfl rfl tie rfl rfl rfl rfl (fun y hy _e => by
    simp only [Rows.imagePartsRow, List.zip_cons_cons, List.zip_nil_right, List.mem_cons, List.mem_nil_iff, or_false] at hy
    rcases hy with rfl | rfl | rfl | rfl | rfl | rfl | rfl | rfl | rfl | rfl | rfl | rfl | rfl | rfl | rfl | rfl
    · cases _e
    · cases _e
    · cases _e
    · cases _e
    · cases _e
    · cases _e
    · cases _e
    · cases _e
    · cases _e
    · cases _e
    · cases _e
    · cases _e
    · cases _e
    · cases _e
    · cases _e
    · exact ⟨pin_laid_unicode_utf8_first, by kernel_rfl⟩) fits1
theorem imagePartsUpto_row_tie : Rows.imagePartsUptoRow.laidByTextAt .later Tryz.pinned [.data, .sentinel, .sentinel, .sentinel, .sentinel, .sentinel, .sentinel, .sentinel, .sentinel, .sentinel, .sentinel, .sentinel, .sentinel, .sentinel, .sentinel, .pinned] true :=
  OpenClaim.laidByTextAt_pinned rfl rfl tie rfl rfl rfl rfl (fun y hy _e => by
    simp only [Rows.imagePartsUptoRow, List.zip_cons_cons, List.zip_nil_right, List.mem_cons, List.mem_nil_iff, or_false] at hy
    rcases hy with rfl | rfl | rfl | rfl | rfl | rfl | rfl | rfl | rfl | rfl | rfl | rfl | rfl | rfl | rfl | rfl
    · cases _e
    · cases _e
    · cases _e
    · cases _e
    · cases _e
    · cases _e
    · cases _e
    · cases _e
    · cases _e
    · cases _e
    · cases _e
    · cases _e
    · cases _e
    · cases _e
    · cases _e
    · exact ⟨pin_laid_unicode_utf8_first, by kernel_rfl⟩) fits1
end Go.Proofs.YtnhmekdnfinmiaaGreatDoor
