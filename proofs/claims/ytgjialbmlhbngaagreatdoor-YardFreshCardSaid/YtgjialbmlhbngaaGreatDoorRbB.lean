/-
  The reference's build: fail. The reference's build: fail, the walk.
-/
import Derived.Test.YtgjialbmlhbngaaGreatDoorRbA
import Derived.Test.YtgjialbmlhbngaaGreatDoorBdC

namespace Go.Proofs.YtgjialbmlhbngaaGreatDoor
open Go Go.RowKit Go.Kf Go.Sort Go.Proofs

end Go.Proofs.YtgjialbmlhbngaaGreatDoor

namespace Go.Proofs.YtgjialbmlhbngaaGreatDoor
open Go Go.RowKit Go.Kf Go.Sort Go.Proofs

end Go.Proofs.YtgjialbmlhbngaaGreatDoor
