/-
  The reference's RuleOf at a line that is a rule with no escapes: it reads the rule. The reference's SheetOf at a text whose lines are right rules with no escapes: it reads them. The sheet to play with: the program's, and the reference's. The reference's SameRules at rules that are alike.
-/
import Derived.Test.YtgjialbmlhbngaaGreatDoorPkL
import Derived.Test.YtgjialbmlhbngaaGreatDoorPkG
import Derived.Test.YtgjialbmlhbngaaGreatDoorPkC
import Derived.Test.YtgjialbmlhbngaaGreatDoorYdB
import Derived.Deep.RegionLaw
import Derived.Test.YtgjialbmlhbngaaGreatDoorPkI
import Derived.Test.YtgjialbmlhbngaaGreatDoorPkH
import Derived.Test.YtgjialbmlhbngaaGreatDoorMid
import Derived.Test.YtgjialbmlhbngaaGreatDoorYdC
import Derived.Test.YtgjialbmlhbngaaGreatDoorPkA
import Derived.Deep.RegionHeld3

namespace Go.Proofs.YtgjialbmlhbngaaGreatDoor
open Go Go.RowKit Go.Kf Go.Sort Go.Proofs
end Go.Proofs.YtgjialbmlhbngaaGreatDoor
