/-
  DERIVED. GIVEN WITH THE SEED: THE PROGRAM's TIES (one call each: nine closed facts by the kernel) AND EACH ROW's TIE, after the 31st guide's Derived/Test/Toyas{Tie, Card}.lean. No idea stands in it: it is a product of the set-up. Laid BY PROGRAM, IN A SANDBOX (cutbox-door.mjs). By AI agents, Wed Nov 11 2026. No macro, syntax, notation, axiom, sorry.
-/
import Derived.Test.YtmmgbgekcpbelaaDoorRows
import Derived.LaidByTextLater
import Derived.SevenTiedAt
import Derived.LaidSub
import Derived.LaidOnce
namespace Go.Proofs.YtmmgbgekcpbelaaDoor
open Go
set_option maxRecDepth 100000
theorem seatTie1 : Tryd.prog.laidByTextLater [("math/bits.deBruijn32tab", Rows.laid_math_bits_deBruijn32tab), ("math/bits.deBruijn64tab", Rows.laid_math_bits_deBruijn64tab), ("internal/strconv.uint64pow10", Rows.laid_internal_strconv_uint64pow10), ("unicode/utf8.acceptRanges", Rows.laid_unicode_utf8_acceptRanges), ("errors.errorType", Rows.laid_errors_errorType), ("kilnfield/api.ErrText", Rows.laid_kilnfield_api_ErrText), ("kilnfield/api.ErrBound", Rows.laid_kilnfield_api_ErrBound), ("kilnfield/api.ErrShape", Rows.laid_kilnfield_api_ErrShape), ("kilnfield/api.ErrName", Rows.laid_kilnfield_api_ErrName), ("kilnfield/api.ErrKind", Rows.laid_kilnfield_api_ErrKind), ("kilnfield/api.ErrNone", Rows.laid_kilnfield_api_ErrNone), ("kilnfield/api.ErrExist", Rows.laid_kilnfield_api_ErrExist), ("kilnfield/api.ErrFull", Rows.laid_kilnfield_api_ErrFull), ("kilnfield/api.ErrCycle", Rows.laid_kilnfield_api_ErrCycle), ("kilnfield/api.ErrLong", Rows.laid_kilnfield_api_ErrLong), ("kilnfield/api.ErrTurn", Rows.laid_kilnfield_api_ErrTurn), ("kilnfield/api.ErrDone", Rows.laid_kilnfield_api_ErrDone)] [.data, .data, .data, .data, .handle, .sentinel, .sentinel, .sentinel, .sentinel, .sentinel, .sentinel, .sentinel, .sentinel, .sentinel, .sentinel, .sentinel, .sentinel] true :=
  Program.laidByTextLater_by_one 269 8 65 (by kernel_rfl) (by kernel_rfl) (by kernel_rfl) (by kernel_rfl) (by kernel_rfl) (by kernel_rfl) (fun _ _ => by kernel_rfl)
theorem pin_laid_unicode_utf8_first : Tryd.pinned.checked.prog.pinnedFits "unicode/utf8.first" = true := by kernel_rfl
theorem noOwnUnsafe : Tryd.pinned.checked.prog.headLifts.contains "ownunsafe" = false := by kernel_rfl
theorem tie : Tryd.prog.laidByTextLater [("kilnfield/api.ErrBound", Rows.laid_kilnfield_api_ErrBound)] [.sentinel] true :=
  Program.laidByTextLater.sub seatTie1 ["kilnfield/api.ErrBound"] (by kernel_rfl) (by kernel_rfl)
theorem cacheNew_row_tie : Rows.cacheNewRow.laidByTextAt .later Tryd.pinned [.sentinel] true :=
  OpenClaim.laidByTextAt_later rfl rfl tie noOwnUnsafe
theorem tie2 : Tryd.prog.laidByTextLater [("errors.errorType", Rows.laid_errors_errorType), ("kilnfield/api.ErrText", Rows.laid_kilnfield_api_ErrText), ("kilnfield/api.ErrBound", Rows.laid_kilnfield_api_ErrBound), ("kilnfield/api.ErrShape", Rows.laid_kilnfield_api_ErrShape), ("kilnfield/api.ErrName", Rows.laid_kilnfield_api_ErrName), ("kilnfield/api.ErrKind", Rows.laid_kilnfield_api_ErrKind), ("kilnfield/api.ErrNone", Rows.laid_kilnfield_api_ErrNone), ("kilnfield/api.ErrExist", Rows.laid_kilnfield_api_ErrExist), ("kilnfield/api.ErrFull", Rows.laid_kilnfield_api_ErrFull), ("kilnfield/api.ErrCycle", Rows.laid_kilnfield_api_ErrCycle), ("kilnfield/api.ErrLong", Rows.laid_kilnfield_api_ErrLong), ("kilnfield/api.ErrTurn", Rows.laid_kilnfield_api_ErrTurn), ("kilnfield/api.ErrDone", Rows.laid_kilnfield_api_ErrDone)] [.handle, .sentinel, .sentinel, .sentinel, .sentinel, .sentinel, .sentinel, .sentinel, .sentinel, .sentinel, .sentinel, .sentinel, .sentinel] true :=
  Program.laidByTextLater.sub seatTie1 ["errors.errorType", "kilnfield/api.ErrText", "kilnfield/api.ErrBound", "kilnfield/api.ErrShape", "kilnfield/api.ErrName", "kilnfield/api.ErrKind", "kilnfield/api.ErrNone", "kilnfield/api.ErrExist", "kilnfield/api.ErrFull", "kilnfield/api.ErrCycle", "kilnfield/api.ErrLong", "kilnfield/api.ErrTurn", "kilnfield/api.ErrDone"] (by kernel_rfl) (by kernel_rfl)
theorem names_row_tie : Rows.namesRow.laidByTextAt .later Tryd.pinned [.handle, .sentinel, .sentinel, .sentinel, .sentinel, .sentinel, .sentinel, .sentinel, .sentinel, .sentinel, .sentinel, .sentinel, .sentinel] true :=
  OpenClaim.laidByTextAt_later rfl rfl tie2 noOwnUnsafe
theorem cacheActs_row_tie : Rows.cacheActsRow.laidByTextAt .later Tryd.pinned [.handle, .sentinel, .sentinel, .sentinel, .sentinel, .sentinel, .sentinel, .sentinel, .sentinel, .sentinel, .sentinel, .sentinel, .sentinel] true :=
  OpenClaim.laidByTextAt_later rfl rfl tie2 noOwnUnsafe
theorem tie3 : Tryd.prog.laidByTextLater [("math/bits.deBruijn32tab", Rows.laid_math_bits_deBruijn32tab), ("math/bits.deBruijn64tab", Rows.laid_math_bits_deBruijn64tab), ("internal/strconv.uint64pow10", Rows.laid_internal_strconv_uint64pow10), ("kilnfield/api.ErrBound", Rows.laid_kilnfield_api_ErrBound)] [.data, .data, .data, .sentinel] true :=
  Program.laidByTextLater.sub seatTie1 ["math/bits.deBruijn32tab", "math/bits.deBruijn64tab", "internal/strconv.uint64pow10", "kilnfield/api.ErrBound"] (by kernel_rfl) (by kernel_rfl)
theorem cacheKeys_row_tie : Rows.cacheKeysRow.laidByTextAt .later Tryd.pinned [.data, .data, .data, .sentinel] true :=
  OpenClaim.laidByTextAt_later rfl rfl tie3 noOwnUnsafe
theorem fits4 : Tryd.pinned.checked.prog.listedFits [("unicode/utf8.acceptRanges", Rows.laid_unicode_utf8_acceptRanges), ("kilnfield/api.ErrBound", Rows.laid_kilnfield_api_ErrBound), ("kilnfield/api.ErrShape", Rows.laid_kilnfield_api_ErrShape), ("kilnfield/api.ErrName", Rows.laid_kilnfield_api_ErrName), ("kilnfield/api.ErrNone", Rows.laid_kilnfield_api_ErrNone), ("unicode/utf8.first", Rows.laid_unicode_utf8_first)] = true := by
  unfold Program.listedFits
  rw [noOwnUnsafe]
  kernel_rfl
theorem tie4 : Tryd.prog.laidByTextLater [("unicode/utf8.acceptRanges", Rows.laid_unicode_utf8_acceptRanges), ("kilnfield/api.ErrBound", Rows.laid_kilnfield_api_ErrBound), ("kilnfield/api.ErrShape", Rows.laid_kilnfield_api_ErrShape), ("kilnfield/api.ErrName", Rows.laid_kilnfield_api_ErrName), ("kilnfield/api.ErrNone", Rows.laid_kilnfield_api_ErrNone)] [.data, .sentinel, .sentinel, .sentinel, .sentinel] true :=
  Program.laidByTextLater.sub seatTie1 ["unicode/utf8.acceptRanges", "kilnfield/api.ErrBound", "kilnfield/api.ErrShape", "kilnfield/api.ErrName", "kilnfield/api.ErrNone"] (by kernel_rfl) (by kernel_rfl)
theorem pathStays_row_tie : Rows.pathStaysRow.laidByTextAt .later Tryd.pinned [.data, .sentinel, .sentinel, .sentinel, .sentinel, .pinned] true :=
  OpenClaim.laidByTextAt_pinned rfl rfl tie4 rfl rfl rfl rfl (fun y hy _e => by
    simp only [Rows.pathStaysRow, List.zip_cons_cons, List.zip_nil_right, List.mem_cons, List.mem_nil_iff, or_false] at hy
    rcases hy with rfl | rfl | rfl | rfl | rfl | rfl
    · cases _e
    · cases _e
    · cases _e
    · cases _e
    · cases _e
    · exact ⟨pin_laid_unicode_utf8_first, by kernel_rfl⟩) fits4
theorem pathStars_row_tie : Rows.pathStarsRow.laidByTextAt .later Tryd.pinned [.data, .sentinel, .sentinel, .sentinel, .sentinel, .pinned] true :=
  OpenClaim.laidByTextAt_pinned rfl rfl tie4 rfl rfl rfl rfl (fun y hy _e => by
    simp only [Rows.pathStarsRow, List.zip_cons_cons, List.zip_nil_right, List.mem_cons, List.mem_nil_iff, or_false] at hy
    rcases hy with rfl | rfl | rfl | rfl | rfl | rfl
    · cases _e
    · cases _e
    · cases _e
    · cases _e
    · cases _e
    · exact ⟨pin_laid_unicode_utf8_first, by kernel_rfl⟩) fits4
theorem fits5 : Tryd.pinned.checked.prog.listedFits [("unicode/utf8.acceptRanges", Rows.laid_unicode_utf8_acceptRanges), ("errors.errorType", Rows.laid_errors_errorType), ("kilnfield/api.ErrText", Rows.laid_kilnfield_api_ErrText), ("kilnfield/api.ErrBound", Rows.laid_kilnfield_api_ErrBound), ("kilnfield/api.ErrShape", Rows.laid_kilnfield_api_ErrShape), ("kilnfield/api.ErrName", Rows.laid_kilnfield_api_ErrName), ("kilnfield/api.ErrKind", Rows.laid_kilnfield_api_ErrKind), ("kilnfield/api.ErrNone", Rows.laid_kilnfield_api_ErrNone), ("kilnfield/api.ErrExist", Rows.laid_kilnfield_api_ErrExist), ("kilnfield/api.ErrFull", Rows.laid_kilnfield_api_ErrFull), ("kilnfield/api.ErrCycle", Rows.laid_kilnfield_api_ErrCycle), ("kilnfield/api.ErrLong", Rows.laid_kilnfield_api_ErrLong), ("kilnfield/api.ErrTurn", Rows.laid_kilnfield_api_ErrTurn), ("kilnfield/api.ErrDone", Rows.laid_kilnfield_api_ErrDone), ("unicode/utf8.first", Rows.laid_unicode_utf8_first)] = true := by
  unfold Program.listedFits
  rw [noOwnUnsafe]
  kernel_rfl
theorem tie5 : Tryd.prog.laidByTextLater [("unicode/utf8.acceptRanges", Rows.laid_unicode_utf8_acceptRanges), ("errors.errorType", Rows.laid_errors_errorType), ("kilnfield/api.ErrText", Rows.laid_kilnfield_api_ErrText), ("kilnfield/api.ErrBound", Rows.laid_kilnfield_api_ErrBound), ("kilnfield/api.ErrShape", Rows.laid_kilnfield_api_ErrShape), ("kilnfield/api.ErrName", Rows.laid_kilnfield_api_ErrName), ("kilnfield/api.ErrKind", Rows.laid_kilnfield_api_ErrKind), ("kilnfield/api.ErrNone", Rows.laid_kilnfield_api_ErrNone), ("kilnfield/api.ErrExist", Rows.laid_kilnfield_api_ErrExist), ("kilnfield/api.ErrFull", Rows.laid_kilnfield_api_ErrFull), ("kilnfield/api.ErrCycle", Rows.laid_kilnfield_api_ErrCycle), ("kilnfield/api.ErrLong", Rows.laid_kilnfield_api_ErrLong), ("kilnfield/api.ErrTurn", Rows.laid_kilnfield_api_ErrTurn), ("kilnfield/api.ErrDone", Rows.laid_kilnfield_api_ErrDone)] [.data, .handle, .sentinel, .sentinel, .sentinel, .sentinel, .sentinel, .sentinel, .sentinel, .sentinel, .sentinel, .sentinel, .sentinel, .sentinel] true :=
  Program.laidByTextLater.sub seatTie1 ["unicode/utf8.acceptRanges", "errors.errorType", "kilnfield/api.ErrText", "kilnfield/api.ErrBound", "kilnfield/api.ErrShape", "kilnfield/api.ErrName", "kilnfield/api.ErrKind", "kilnfield/api.ErrNone", "kilnfield/api.ErrExist", "kilnfield/api.ErrFull", "kilnfield/api.ErrCycle", "kilnfield/api.ErrLong", "kilnfield/api.ErrTurn", "kilnfield/api.ErrDone"] (by kernel_rfl) (by kernel_rfl)
theorem pathCleans_row_tie : Rows.pathCleansRow.laidByTextAt .later Tryd.pinned [.data, .handle, .sentinel, .sentinel, .sentinel, .sentinel, .sentinel, .sentinel, .sentinel, .sentinel, .sentinel, .sentinel, .sentinel, .sentinel, .pinned] true :=
  OpenClaim.laidByTextAt_pinned rfl rfl tie5 rfl rfl rfl rfl (fun y hy _e => by
    simp only [Rows.pathCleansRow, List.zip_cons_cons, List.zip_nil_right, List.mem_cons, List.mem_nil_iff, or_false] at hy
    rcases hy with rfl | rfl | rfl | rfl | rfl | rfl | rfl | rfl | rfl | rfl | rfl | rfl | rfl | rfl | rfl
    · cases _e
    · cases _e
    · cases _e
    · cases _e
    · cases _e
    · cases _e
    · cases _e
    · cases _e
    · cases _e
    · cases _e
    · cases _e
    · cases _e
    · cases _e
    · cases _e
    · exact ⟨pin_laid_unicode_utf8_first, by kernel_rfl⟩) fits5
theorem pathMatches_row_tie : Rows.pathMatchesRow.laidByTextAt .later Tryd.pinned [.data, .handle, .sentinel, .sentinel, .sentinel, .sentinel, .sentinel, .sentinel, .sentinel, .sentinel, .sentinel, .sentinel, .sentinel, .sentinel, .pinned] true :=
  OpenClaim.laidByTextAt_pinned rfl rfl tie5 rfl rfl rfl rfl (fun y hy _e => by
    simp only [Rows.pathMatchesRow, List.zip_cons_cons, List.zip_nil_right, List.mem_cons, List.mem_nil_iff, or_false] at hy
    rcases hy with rfl | rfl | rfl | rfl | rfl | rfl | rfl | rfl | rfl | rfl | rfl | rfl | rfl | rfl | rfl
    · cases _e
    · cases _e
    · cases _e
    · cases _e
    · cases _e
    · cases _e
    · cases _e
    · cases _e
    · cases _e
    · cases _e
    · cases _e
    · cases _e
    · cases _e
    · cases _e
    · exact ⟨pin_laid_unicode_utf8_first, by kernel_rfl⟩) fits5
theorem cacheNewUpto_row_tie : Rows.cacheNewUptoRow.laidByTextAt .later Tryd.pinned [.sentinel] true :=
  OpenClaim.laidByTextAt_later rfl rfl tie noOwnUnsafe
theorem namesUpto_row_tie : Rows.namesUptoRow.laidByTextAt .later Tryd.pinned [.handle, .sentinel, .sentinel, .sentinel, .sentinel, .sentinel, .sentinel, .sentinel, .sentinel, .sentinel, .sentinel, .sentinel, .sentinel] true :=
  OpenClaim.laidByTextAt_later rfl rfl tie2 noOwnUnsafe
theorem cacheActsUpto_row_tie : Rows.cacheActsUptoRow.laidByTextAt .later Tryd.pinned [.handle, .sentinel, .sentinel, .sentinel, .sentinel, .sentinel, .sentinel, .sentinel, .sentinel, .sentinel, .sentinel, .sentinel, .sentinel] true :=
  OpenClaim.laidByTextAt_later rfl rfl tie2 noOwnUnsafe
theorem cacheKeysUpto_row_tie : Rows.cacheKeysUptoRow.laidByTextAt .later Tryd.pinned [.data, .data, .data, .sentinel] true :=
  OpenClaim.laidByTextAt_later rfl rfl tie3 noOwnUnsafe
theorem pathStaysUpto_row_tie : Rows.pathStaysUptoRow.laidByTextAt .later Tryd.pinned [.data, .sentinel, .sentinel, .sentinel, .sentinel, .pinned] true :=
  OpenClaim.laidByTextAt_pinned rfl rfl tie4 rfl rfl rfl rfl (fun y hy _e => by
    simp only [Rows.pathStaysUptoRow, List.zip_cons_cons, List.zip_nil_right, List.mem_cons, List.mem_nil_iff, or_false] at hy
    rcases hy with rfl | rfl | rfl | rfl | rfl | rfl
    · cases _e
    · cases _e
    · cases _e
    · cases _e
    · cases _e
    · exact ⟨pin_laid_unicode_utf8_first, by kernel_rfl⟩) fits4
theorem pathStarsUpto_row_tie : Rows.pathStarsUptoRow.laidByTextAt .later Tryd.pinned [.data, .sentinel, .sentinel, .sentinel, .sentinel, .pinned] true :=
  OpenClaim.laidByTextAt_pinned rfl rfl tie4 rfl rfl rfl rfl (fun y hy _e => by
    simp only [Rows.pathStarsUptoRow, List.zip_cons_cons, List.zip_nil_right, List.mem_cons, List.mem_nil_iff, or_false] at hy
    rcases hy with rfl | rfl | rfl | rfl | rfl | rfl
    · cases _e
    · cases _e
    · cases _e
    · cases _e
    · cases _e
    · exact ⟨pin_laid_unicode_utf8_first, by kernel_rfl⟩) fits4
theorem pathCleansUpto_row_tie : Rows.pathCleansUptoRow.laidByTextAt .later Tryd.pinned [.data, .handle, .sentinel, .sentinel, .sentinel, .sentinel, .sentinel, .sentinel, .sentinel, .sentinel, .sentinel, .sentinel, .sentinel, .sentinel, .pinned] true :=
  OpenClaim.laidByTextAt_pinned rfl rfl tie5 rfl rfl rfl rfl (fun y hy _e => by
    simp only [Rows.pathCleansUptoRow, List.zip_cons_cons, List.zip_nil_right, List.mem_cons, List.mem_nil_iff, or_false] at hy
    rcases hy with rfl | rfl | rfl | rfl | rfl | rfl | rfl | rfl | rfl | rfl | rfl | rfl | rfl | rfl | rfl
    · cases _e
    · cases _e
    · cases _e
    · cases _e
    · cases _e
    · cases _e
    · cases _e
    · cases _e
    · cases _e
    · cases _e
    · cases _e
    · cases _e
    · cases _e
    · cases _e
    · exact ⟨pin_laid_unicode_utf8_first, by kernel_rfl⟩) fits5
theorem pathMatchesUpto_row_tie : Rows.pathMatchesUptoRow.laidByTextAt .later Tryd.pinned [.data, .handle, .sentinel, .sentinel, .sentinel, .sentinel, .sentinel, .sentinel, .sentinel, .sentinel, .sentinel, .sentinel, .sentinel, .sentinel, .pinned] true :=
  OpenClaim.laidByTextAt_pinned rfl rfl tie5 rfl rfl rfl rfl (fun y hy _e => by
    simp only [Rows.pathMatchesUptoRow, List.zip_cons_cons, List.zip_nil_right, List.mem_cons, List.mem_nil_iff, or_false] at hy
    rcases hy with rfl | rfl | rfl | rfl | rfl | rfl | rfl | rfl | rfl | rfl | rfl | rfl | rfl | rfl | rfl
    · cases _e
    · cases _e
    · cases _e
    · cases _e
    · cases _e
    · cases _e
    · cases _e
    · cases _e
    · cases _e
    · cases _e
    · cases _e
    · cases _e
    · cases _e
    · cases _e
    · exact ⟨pin_laid_unicode_utf8_first, by kernel_rfl⟩) fits5
end Go.Proofs.YtmmgbgekcpbelaaDoor
