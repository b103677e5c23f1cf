/-
  A world that meets a list of four tables, the twelve errors and a pinned table, and the handle of errors.errorType, bears the program's errors.
-/
import Derived.Test.YtmkpeopebddnjaaGreatDoorPathRow5
namespace Go.Proofs.YtmkpeopebddnjaaGreatDoor
open Go Go.RowKit Go.Kf

theorem laidMet_tail {P : Program} {W : World} {x : String × DataW Unit} {l : List (String × DataW Unit)} (h : laidMet P (x :: l) W) : laidMet P l W := by
  obtain ⟨x1, x2⟩ := x
  obtain ⟨ps, ⟨g, t, cs, fu, p, q, -, -, -, -, hv, rfl⟩, hnd, hrows⟩ := h
  exact ⟨q, hv, (List.nodup_append.1 hnd).2.1, fun b off hb => hrows b off (List.mem_append_right _ hb)⟩
theorem errW_of_laid4 {W : World} {x y z u : String × DataW Unit} {rest hs : List (String × DataW Unit)} (h : laidMet Tryz.prog (x :: y :: z :: u :: (sentRows ++ rest)) W) (hh : handlesMet Tryz.prog hs W) (hin : ("errors.errorType", Rows.laid_errors_errorType) ∈ hs) : ∃ S, ErrW W S :=
  errW_of_laid1 (laidMet_tail (laidMet_tail (laidMet_tail h))) hh hin
/-- The blocks of the start that the pinned table does not take. -/
def blocks6 : List Nat := [0, 1, 2, 3, 4, 5, 6, 7, 8, 9, 10, 11, 12, 13, 14, 15, 16, 17, 18, 20, 21, 22, 23, 24, 25, 26, 27, 28, 29, 30, 31, 32, 33, 34, 35, 36, 37, 38, 39]
end Go.Proofs.YtmkpeopebddnjaaGreatDoor
