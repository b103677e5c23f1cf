/-
  The reference's acts: what is made by count and swap. The reference's ActOf of any command. The reference's WantOf at any rules that have an order.
-/
import Derived.Test.YtgjialbmlhbngaaGreatDoorPkL
import Derived.Test.YtgjialbmlhbngaaGreatDoorPkM
import Derived.Test.YtgjialbmlhbngaaGreatDoorPkI
import Derived.Test.YtgjialbmlhbngaaGreatDoorPkQ
import Derived.Test.YtgjialbmlhbngaaGreatDoorPkH

namespace Go.Proofs.YtgjialbmlhbngaaGreatDoor
open Go Go.RowKit Go.Kf Go.Sort Go.Proofs
end Go.Proofs.YtgjialbmlhbngaaGreatDoor
