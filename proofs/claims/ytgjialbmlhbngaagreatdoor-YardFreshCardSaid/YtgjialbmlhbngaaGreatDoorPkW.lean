/-
  A world that meets a row's list (errors.errorType and the twelve sentinels, then whatever) bears the program's errors.
-/
import Derived.Test.YtgjialbmlhbngaaGreatDoorPkK
import Derived.Test.YtgjialbmlhbngaaGreatDoorRows
import Derived.LaidMore
import Derived.Test.YtgjialbmlhbngaaGreatDoorPkB

namespace Go.Proofs.YtgjialbmlhbngaaGreatDoor
open Go Go.RowKit Go.Kf

theorem eStar : "*" ++ "errors.errorString" = "*errors.errorString" := by decide
theorem eRow (u : TypeId) (h : Tryz.prog.typeName? 3 u = some "*errors.errorString") : u = 380 :=
  typeName_ptr_named (nm := "errors.errorString") (by rw [eStar]; kernel_rfl) (by kernel_rfl) (by decide) u (by rw [eStar]; exact h)
end Go.Proofs.YtgjialbmlhbngaaGreatDoor

/-
  A world that meets the list of a law on paths (a table, four errors, a pinned table) bears the four errors.
-/
namespace Go.Proofs.YtgjialbmlhbngaaGreatDoor
open Go Go.RowKit Go.Kf

end Go.Proofs.YtgjialbmlhbngaaGreatDoor

/-
  A world that meets a list of a table, the twelve errors and a pinned table, and the handle of errors.errorType, bears the program's errors.
-/
namespace Go.Proofs.YtgjialbmlhbngaaGreatDoor
open Go Go.RowKit Go.Kf

end Go.Proofs.YtgjialbmlhbngaaGreatDoor

/-
  A world that meets a list of four tables, the twelve errors and a pinned table, and the handle of errors.errorType, bears the program's errors.
-/
namespace Go.Proofs.YtgjialbmlhbngaaGreatDoor
open Go Go.RowKit Go.Kf

theorem laidMet_tail {P : Program} {W : World} {x : String × DataW Unit} {l : List (String × DataW Unit)} (h : laidMet P (x :: l) W) : laidMet P l W := by
  obtain ⟨x1, x2⟩ := x
  obtain ⟨ps, ⟨g, t, cs, fu, p, q, -, -, -, -, hv, rfl⟩, hnd, hrows⟩ := h
  exact ⟨q, hv, (List.nodup_append.1 hnd).2.1, fun b off hb => hrows b off (List.mem_append_right _ hb)⟩
end Go.Proofs.YtgjialbmlhbngaaGreatDoor
