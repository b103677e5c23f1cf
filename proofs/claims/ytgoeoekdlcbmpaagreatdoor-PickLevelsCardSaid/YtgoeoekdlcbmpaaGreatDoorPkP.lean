/-
  The reference's tree (kilnfieldref1.Tree): Find, Paths. The program's tree: Paths, Text. The reference's tree: Text, Remove, Put. The reference's tree: Remove, Put.
-/
import Derived.Test.YtgoeoekdlcbmpaaGreatDoorPkL
import Derived.Test.YtgoeoekdlcbmpaaGreatDoorPkD
import Derived.Test.YtgoeoekdlcbmpaaGreatDoorPkC
import Derived.Test.YtgoeoekdlcbmpaaGreatDoorPkH0
import Derived.BigQuiet
import Derived.Deep.RegionHeld3
import Derived.Laws.AppendOwnNone

namespace Go.Proofs.YtgoeoekdlcbmpaaGreatDoor
open Go Go.RowKit Go.Kf

end Go.Proofs.YtgoeoekdlcbmpaaGreatDoor

namespace Go.Proofs.YtgoeoekdlcbmpaaGreatDoor
open Go Go.RowKit Go.Kf Go.Sort

end Go.Proofs.YtgoeoekdlcbmpaaGreatDoor

namespace Go.Proofs.YtgoeoekdlcbmpaaGreatDoor
open Go Go.RowKit Go.Kf Go.Sort

end Go.Proofs.YtgoeoekdlcbmpaaGreatDoor

namespace Go.Kf
open Go Go.RowKit

theorem ReadsK.nil (s : Nat) (w : World) (ad : Option Addr) (c : Nat) : ReadsK s w (.slice ad 0 c) [] := ⟨ad, c, rfl, by simp, fun i r hi => by simp at hi⟩

end Go.Kf
namespace Go.Proofs.YtgoeoekdlcbmpaaGreatDoor
open Go Go.RowKit Go.Kf

end Go.Proofs.YtgoeoekdlcbmpaaGreatDoor
