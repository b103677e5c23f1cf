/-
  plain.Code by its contracts: at nil, at a sentinel (one of the twelve or another one), at a fault round one of the twelve. The walk of the law Names: it answers true in every world that bears the program's errors. coded, at an error by its number.
-/
import Derived.Test.YtgjialbmlhbngaaGreatDoorPkV
import Derived.Test.YtgjialbmlhbngaaGreatDoorPkJ
import Derived.Test.YtgjialbmlhbngaaGreatDoorPkA

namespace Go.Proofs.YtgjialbmlhbngaaGreatDoor
open Go Go.RowKit Go.Kf

abbrev errV (a : Addr) : Value := .iface 380 (.pointer (some a))
/-- The variable of sentinel k. -/
def sentG : Nat → Nat
  | 0 => 9
  | 1 => 1
  | 2 => 4
  | 3 => 8
  | 4 => 10
  | 5 => 0
  | 6 => 2
  | 7 => 3
  | 8 => 7
  | 9 => 11
  | 10 => 6
  | 11 => 5
  | _ => 0
end Go.Proofs.YtgjialbmlhbngaaGreatDoor

/-
  errors.As by its contract, at a fault and the address of a *api.Fault variable: true, and the variable holds the fault.
-/
namespace Go.Proofs.YtgjialbmlhbngaaGreatDoor
open Go Go.RowKit Go.Kf Go.Extern.Stop Go.Stop Go.Extern

end Go.Proofs.YtgjialbmlhbngaaGreatDoor

/-
  plain.Code by its contract at a fault round one of the twelve sentinels.
-/
namespace Go.Proofs.YtgjialbmlhbngaaGreatDoor
open Go Go.RowKit Go.Kf

end Go.Proofs.YtgjialbmlhbngaaGreatDoor

namespace Go.Proofs.YtgjialbmlhbngaaGreatDoor
open Go Go.RowKit Go.Kf

end Go.Proofs.YtgjialbmlhbngaaGreatDoor

namespace Go.Proofs.YtgjialbmlhbngaaGreatDoor
open Go Go.RowKit Go.Kf

end Go.Proofs.YtgjialbmlhbngaaGreatDoor
