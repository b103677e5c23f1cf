/-
  The walks of the model cache (kilnfieldref2.Cache): Find, Keys. The walks of the model cache (kilnfieldref2.Cache): Put, Get. The plain law of CacheActs: the cache and the model's list of entries stay twins under Put and Get. The walk of the model cache's Get.
-/
import Derived.Test.YtgjialbmlhbngaaGreatDoorPkC
import Derived.Test.YtgjialbmlhbngaaGreatDoorPkZ

namespace Go.Proofs.YtgjialbmlhbngaaGreatDoor
open Go Go.RowKit Go.Kf

end Go.Proofs.YtgjialbmlhbngaaGreatDoor

namespace Go.Proofs.YtgjialbmlhbngaaGreatDoor
open Go Go.RowKit Go.Kf

end Go.Proofs.YtgjialbmlhbngaaGreatDoor

namespace Go.Proofs.YtgjialbmlhbngaaGreatDoor
open Go Go.RowKit Go.Kf

end Go.Proofs.YtgjialbmlhbngaaGreatDoor

namespace Go.Proofs.YtgjialbmlhbngaaGreatDoor
open Go Go.RowKit Go.Kf

end Go.Proofs.YtgjialbmlhbngaaGreatDoor
