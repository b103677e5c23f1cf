/-
  The reference's acts: what is made by count and swap. The reference's ActOf of any command. The reference's WantOf at any rules that have an order.
-/
import Derived.Test.YtgoeoekdlcbmpaaGreatDoorPkL
import Derived.Test.YtgoeoekdlcbmpaaGreatDoorPkM
import Derived.Test.YtgoeoekdlcbmpaaGreatDoorPkI
import Derived.Test.YtgoeoekdlcbmpaaGreatDoorPkQ
import Derived.Test.YtgoeoekdlcbmpaaGreatDoorPkH

namespace Go.Proofs.YtgoeoekdlcbmpaaGreatDoor
open Go Go.RowKit Go.Kf Go.Sort Go.Proofs

end Go.Proofs.YtgoeoekdlcbmpaaGreatDoor

/-
  The reference's acts: lay's walk.
-/
namespace Go.Proofs.YtgoeoekdlcbmpaaGreatDoor
open Go Go.RowKit Go.Kf Go.Sort Go.Proofs

end Go.Proofs.YtgoeoekdlcbmpaaGreatDoor

/-
  The reference's acts: lay at any slice of the call's own; what is made by sort.
-/
namespace Go.Proofs.YtgoeoekdlcbmpaaGreatDoor
open Go Go.RowKit Go.Kf Go.Sort Go.Proofs

end Go.Proofs.YtgoeoekdlcbmpaaGreatDoor

namespace Go.Proofs.YtgoeoekdlcbmpaaGreatDoor
open Go Go.RowKit Go.Kf Go.Sort Go.Proofs

end Go.Proofs.YtgoeoekdlcbmpaaGreatDoor

namespace Go.Proofs.YtgoeoekdlcbmpaaGreatDoor
open Go Go.RowKit Go.Kf Go.Sort Go.Proofs

end Go.Proofs.YtgoeoekdlcbmpaaGreatDoor
