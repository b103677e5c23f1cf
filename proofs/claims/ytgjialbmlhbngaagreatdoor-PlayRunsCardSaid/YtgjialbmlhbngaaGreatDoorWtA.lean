/-
  The walk of the law WantTells, at any files, rules and out.   Steps: wanted, longFiles, LongRules, len(out); fileTree; OwnRules, want.Of; WantFault; (faulted | WantOf, coded); OwnRules, want.All; SheetFault, (AllOf, OrderOf, Bare); (faulted); CopyTree, loop (WantOf, Put); Text, Text, Text, Text.
-/
import Derived.Test.YtgjialbmlhbngaaGreatDoorPkO
import Derived.Test.YtgjialbmlhbngaaGreatDoorPkQ
import Derived.Test.YtgjialbmlhbngaaGreatDoorPkR
import Derived.Test.YtgjialbmlhbngaaGreatDoorPkS
import Derived.Test.YtgjialbmlhbngaaGreatDoorPkT

namespace Go.Proofs.YtgjialbmlhbngaaGreatDoor
open Go Go.RowKit Go.Kf Go.Sort Go.Proofs
end Go.Proofs.YtgjialbmlhbngaaGreatDoor
