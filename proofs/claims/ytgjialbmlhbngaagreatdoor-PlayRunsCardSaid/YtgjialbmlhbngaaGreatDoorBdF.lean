/-
  The walk of the law BuildOnce.   Steps: built, longFiles, LongRules, len(runs); fileTree; loop (append the outs); OwnRules, build.New; make; loop (Ready, loop (State, loop (NeedsRule, State)), Run, store); loop (State, loop (NeedsRule, State)); Over.
-/
import Derived.Test.YtgjialbmlhbngaaGreatDoorBdE
import Derived.Test.YtgjialbmlhbngaaGreatDoorPkQ
import Derived.Test.YtgjialbmlhbngaaGreatDoorPkI
import Derived.Test.YtgjialbmlhbngaaGreatDoorPkG
import Derived.Test.YtgjialbmlhbngaaGreatDoorWtA

namespace Go.Proofs.YtgjialbmlhbngaaGreatDoor
open Go Go.RowKit Go.Kf Go.Sort Go.Proofs
end Go.Proofs.YtgjialbmlhbngaaGreatDoor
