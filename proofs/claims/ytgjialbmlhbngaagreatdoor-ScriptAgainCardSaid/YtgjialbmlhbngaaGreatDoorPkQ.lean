/-
  The reference's tree: Put. The plain law of the trees: a map of files and the reference's rising list are one; both between two steps of a law. Package kilnfieldlaw2: longFiles and fileTree at any files.
-/
import Derived.Test.YtgjialbmlhbngaaGreatDoorPkP
import Derived.Sort.Walk0
import Derived.Test.YtgjialbmlhbngaaGreatDoorPkF
import Derived.Deep.RegionHeld3

namespace Go.Proofs.YtgjialbmlhbngaaGreatDoor
open Go Go.RowKit Go.Kf
open Go.Sort
open Go.Proofs
end Go.Proofs.YtgjialbmlhbngaaGreatDoor
