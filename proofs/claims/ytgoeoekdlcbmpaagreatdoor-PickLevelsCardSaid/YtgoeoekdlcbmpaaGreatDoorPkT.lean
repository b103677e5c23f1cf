/-
  The reference's BuildFault at any rules and outs. The reference's WantFault at any rules and out; CopyTree. The reference's CopyTree.
-/
import Derived.Test.YtgoeoekdlcbmpaaGreatDoorPkI
import Derived.Test.YtgoeoekdlcbmpaaGreatDoorPkM
import Derived.Test.YtgoeoekdlcbmpaaGreatDoorPkH
import Derived.Laws.CopyOwn
import Derived.Test.YtgoeoekdlcbmpaaGreatDoorPkQ
import Derived.Test.YtgoeoekdlcbmpaaGreatDoorPkF
import Derived.Deep.RegionLaw
import Derived.Laws.AppendOwnNone

namespace Go.Proofs.YtgoeoekdlcbmpaaGreatDoor
open Go Go.RowKit Go.Kf Go.Sort Go.Proofs

theorem below_put {B : Nat} {w w' : World} (h : Below B w w') {r : Nat} (hr : B ≤ r) (a b : Value) : Below B w ((w'.setCell ⟨r, 0, none⟩ a).setCell ⟨r, 1, none⟩ b) :=
  (h.setCell (p := ⟨r, 0, none⟩) hr a).setCell (p := ⟨r, 1, none⟩) hr b

end Go.Proofs.YtgoeoekdlcbmpaaGreatDoor

namespace Go.Proofs.YtgoeoekdlcbmpaaGreatDoor
open Go Go.RowKit Go.Kf Go.Sort Go.Proofs

end Go.Proofs.YtgoeoekdlcbmpaaGreatDoor

namespace Go.Proofs.YtgoeoekdlcbmpaaGreatDoor
open Go Go.RowKit Go.Kf Go.Sort Go.Proofs

end Go.Proofs.YtgoeoekdlcbmpaaGreatDoor
