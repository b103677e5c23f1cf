/-
  The laws' built, in plain Lean: one rule, one file: it runs, and is had again. The laws' built: a rule runs, and is had again. BuildOnce, in plain Lean: all rules are made; each runs once.
-/
import Derived.Test.YtgjialbmlhbngaaGreatDoorBdA
import Derived.Test.YtgjialbmlhbngaaGreatDoorBdB
import Derived.Test.YtgjialbmlhbngaaGreatDoorPkO
import Derived.Test.YtgjialbmlhbngaaGreatDoorBdD
import Derived.Test.YtgjialbmlhbngaaGreatDoorPkG
import Derived.Test.YtgjialbmlhbngaaGreatDoorPkH

namespace Go.Proofs.YtgjialbmlhbngaaGreatDoor
open Go Go.RowKit Go.Kf Go.Sort Go.Proofs
end Go.Proofs.YtgjialbmlhbngaaGreatDoor
