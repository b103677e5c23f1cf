/-
  The reference's tree: Put. The plain law of the trees: a map of files and the reference's rising list are one; both between two steps of a law. Package kilnfieldlaw2: longFiles and fileTree at any files.
-/
import Derived.Test.YtgoeoekdlcbmpaaGreatDoorPkP
import Derived.Sort.Walk0
import Derived.Test.YtgoeoekdlcbmpaaGreatDoorPkF
import Derived.Deep.RegionHeld3

namespace Go.Proofs.YtgoeoekdlcbmpaaGreatDoor
open Go Go.RowKit Go.Kf

end Go.Proofs.YtgoeoekdlcbmpaaGreatDoor

namespace Go.Proofs.YtgoeoekdlcbmpaaGreatDoor
open Go Go.RowKit Go.Kf Go.Sort

section
variable {m L : List Ent} {p b : List UInt8}
end

section
variable {B : Nat} {w0 w w' : World} {tb mb rb : Nat} {lv lv' : Value} {m m' L L' : List Ent}
end
end Go.Proofs.YtgoeoekdlcbmpaaGreatDoor

namespace Go.Proofs.YtgoeoekdlcbmpaaGreatDoor
open Go Go.RowKit Go.Kf Go.Sort Go.Proofs

end Go.Proofs.YtgoeoekdlcbmpaaGreatDoor
