/-
  The reference's build: All, with no cache. The reference: PickOf, with no cache.
-/
import Derived.Test.YtgjialbmlhbngaaGreatDoorRbC
import Derived.Test.YtgjialbmlhbngaaGreatDoorBdK

namespace Go.Proofs.YtgjialbmlhbngaaGreatDoor
open Go Go.RowKit Go.Kf Go.Sort Go.Proofs


end Go.Proofs.YtgjialbmlhbngaaGreatDoor

namespace Go.Proofs.YtgjialbmlhbngaaGreatDoor
open Go Go.RowKit Go.Kf Go.Sort Go.Proofs

end Go.Proofs.YtgjialbmlhbngaaGreatDoor
