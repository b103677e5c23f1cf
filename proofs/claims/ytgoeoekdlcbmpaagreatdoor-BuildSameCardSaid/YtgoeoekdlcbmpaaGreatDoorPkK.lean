/-
  plain.Code by its contracts: at nil, at a sentinel (one of the twelve or another one), at a fault round one of the twelve. The walk of the law Names: it answers true in every world that bears the program's errors. coded, at an error by its number.
-/
import Derived.Test.YtgoeoekdlcbmpaaGreatDoorPkV
import Derived.Test.YtgoeoekdlcbmpaaGreatDoorPkJ
import Derived.Test.YtgoeoekdlcbmpaaGreatDoorPkA

namespace Go.Proofs.YtgoeoekdlcbmpaaGreatDoor
open Go Go.RowKit Go.Kf

abbrev errV (a : Addr) : Value := .iface 319 (.pointer (some a))
/-- The variable of sentinel k. -/
def sentG : Nat → Nat
  | 0 => 9
  | 1 => 4
  | 2 => 0
  | 3 => 10
  | 4 => 11
  | 5 => 1
  | 6 => 5
  | 7 => 6
  | 8 => 7
  | 9 => 8
  | 10 => 3
  | 11 => 2
  | _ => 0
end Go.Proofs.YtgoeoekdlcbmpaaGreatDoor

/-
  errors.As by its contract, at a fault and the address of a *api.Fault variable: true, and the variable holds the fault.
-/
namespace Go.Proofs.YtgoeoekdlcbmpaaGreatDoor
open Go Go.RowKit Go.Kf Go.Extern.Stop Go.Stop Go.Extern

end Go.Proofs.YtgoeoekdlcbmpaaGreatDoor

/-
  plain.Code by its contract at a fault round one of the twelve sentinels.
-/
namespace Go.Proofs.YtgoeoekdlcbmpaaGreatDoor
open Go Go.RowKit Go.Kf

end Go.Proofs.YtgoeoekdlcbmpaaGreatDoor

namespace Go.Proofs.YtgoeoekdlcbmpaaGreatDoor
open Go Go.RowKit Go.Kf

end Go.Proofs.YtgoeoekdlcbmpaaGreatDoor

namespace Go.Proofs.YtgoeoekdlcbmpaaGreatDoor
open Go Go.RowKit Go.Kf

end Go.Proofs.YtgoeoekdlcbmpaaGreatDoor
