/-
  The reference's ActError of any command. The reference: RuleError, SheetFault.
-/
import Derived.Test.YtgoeoekdlcbmpaaGreatDoorPkL
import Derived.Test.YtgoeoekdlcbmpaaGreatDoorPkG
import Derived.Laws.CopyOwn

namespace Go.Proofs.YtgoeoekdlcbmpaaGreatDoor
open Go Go.RowKit Go.Kf Go.Sort Go.Proofs

end Go.Proofs.YtgoeoekdlcbmpaaGreatDoor

namespace Go.Proofs.YtgoeoekdlcbmpaaGreatDoor
open Go Go.RowKit Go.Kf Go.Sort Go.Proofs

end Go.Proofs.YtgoeoekdlcbmpaaGreatDoor
