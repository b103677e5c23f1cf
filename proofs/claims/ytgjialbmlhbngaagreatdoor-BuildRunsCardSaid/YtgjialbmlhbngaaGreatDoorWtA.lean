/-
  The walk of the law WantTells, at any files, rules and out.   Steps: wanted, longFiles, LongRules, len(out); fileTree; OwnRules, want.Of; WantFault; (faulted | WantOf, coded); OwnRules, want.All; SheetFault, (AllOf, OrderOf, Bare); (faulted); CopyTree, loop (WantOf, Put); Text, Text, Text, Text.
-/
import Derived.Test.YtgjialbmlhbngaaGreatDoorPkO
import Derived.Test.YtgjialbmlhbngaaGreatDoorPkQ
import Derived.Test.YtgjialbmlhbngaaGreatDoorPkR
import Derived.Test.YtgjialbmlhbngaaGreatDoorPkS
import Derived.Test.YtgjialbmlhbngaaGreatDoorPkT

namespace Go.Proofs.YtgjialbmlhbngaaGreatDoor
open Go Go.RowKit Go.Kf Go.Sort Go.Proofs
theorem tw_bound {m L : List Ent} (h : Tw m L) : ∀ p b, mlook p m = some b → b.length ≤ 2000 := fun q b hq => by
  rw [h.look] at hq
  exact (h.path _ ((mlook_iff h.nodup).1 hq)).2.2
end Go.Proofs.YtgjialbmlhbngaaGreatDoor
