/-
  The walk of the law PickSame.
-/
import Derived.Test.YtgoeoekdlcbmpaaGreatDoorBdM
import Derived.Test.YtgoeoekdlcbmpaaGreatDoorBdK
import Derived.Test.YtgoeoekdlcbmpaaGreatDoorBdL
import Derived.Test.YtgoeoekdlcbmpaaGreatDoorBdF

namespace Go.Proofs.YtgoeoekdlcbmpaaGreatDoor
open Go Go.RowKit Go.Kf Go.Sort Go.Proofs

end Go.Proofs.YtgoeoekdlcbmpaaGreatDoor
