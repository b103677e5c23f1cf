/-
  Package pick: size, Run. The laws' picked, in plain Lean: two rules that write, the second one first; one level.
-/
import Derived.Test.YtgjialbmlhbngaaGreatDoorBdH
import Derived.Test.YtgjialbmlhbngaaGreatDoorBdA
import Derived.Test.YtgjialbmlhbngaaGreatDoorBdJ
import Derived.Test.YtgjialbmlhbngaaGreatDoorBdE

namespace Go.Proofs.YtgjialbmlhbngaaGreatDoor
open Go Go.RowKit Go.Kf Go.Sort Go.Proofs


end Go.Proofs.YtgjialbmlhbngaaGreatDoor

namespace Go.Proofs.YtgjialbmlhbngaaGreatDoor
open Go Go.RowKit Go.Kf Go.Sort Go.Proofs

end Go.Proofs.YtgjialbmlhbngaaGreatDoor
