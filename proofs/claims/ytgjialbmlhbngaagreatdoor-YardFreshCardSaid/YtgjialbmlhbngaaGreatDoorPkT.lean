/-
  The reference's BuildFault at any rules and outs. The reference's WantFault at any rules and out; CopyTree. The reference's CopyTree.
-/
import Derived.Test.YtgjialbmlhbngaaGreatDoorPkI
import Derived.Test.YtgjialbmlhbngaaGreatDoorPkM
import Derived.Test.YtgjialbmlhbngaaGreatDoorPkH
import Derived.Laws.CopyOwn
import Derived.Test.YtgjialbmlhbngaaGreatDoorPkQ
import Derived.Test.YtgjialbmlhbngaaGreatDoorPkF
import Derived.Deep.RegionLaw
import Derived.Laws.AppendOwnNone

namespace Go.Proofs.YtgjialbmlhbngaaGreatDoor
open Go Go.RowKit Go.Kf Go.Sort Go.Proofs

end Go.Proofs.YtgjialbmlhbngaaGreatDoor

namespace Go.Proofs.YtgjialbmlhbngaaGreatDoor
open Go Go.RowKit Go.Kf Go.Sort Go.Proofs

end Go.Proofs.YtgjialbmlhbngaaGreatDoor

namespace Go.Proofs.YtgjialbmlhbngaaGreatDoor
open Go Go.RowKit Go.Kf Go.Sort Go.Proofs

end Go.Proofs.YtgjialbmlhbngaaGreatDoor
