/-
  The reference's BuildFault at any rules and outs. The reference's WantFault at any rules and out; CopyTree. The reference's CopyTree.
-/
import Derived.Test.YtgjialbmlhbngaaGreatDoorPkI
import Derived.Test.YtgjialbmlhbngaaGreatDoorPkM
import Derived.Test.YtgjialbmlhbngaaGreatDoorPkH
import Derived.Laws.CopyOwn
import Derived.Test.YtgjialbmlhbngaaGreatDoorPkQ
import Derived.Test.YtgjialbmlhbngaaGreatDoorPkF
import Derived.Deep.RegionLaw
import Derived.Laws.AppendOwnNone

namespace Go.Proofs.YtgjialbmlhbngaaGreatDoor
open Go Go.RowKit Go.Kf Go.Sort Go.Proofs

theorem fault_zero {l : List RuleL} {p : Int} (h : FaultIs l 0 p) : RightS l ∧ p = -1 := by
  rcases h with ⟨h1, h2, -, h3⟩ | ⟨-, h, -⟩ | ⟨-, i, r, m, -, -, -, h, -⟩
  · exact ⟨⟨h1, h2⟩, h3⟩
  · omega
  · omega
theorem fault_pos {l : List RuleL} {c : Nat} {p : Int} (h : FaultIs l c p) (hc : 0 < c) : ¬ RightS l := fun hr => by
  rcases h with ⟨-, -, h, -⟩ | ⟨h, -, -⟩ | ⟨-, i, r, m, -, h2, h3, -, -⟩
  · omega
  · have := hr.1; omega
  · have := hr.2 i r h2; omega

end Go.Proofs.YtgjialbmlhbngaaGreatDoor

namespace Go.Proofs.YtgjialbmlhbngaaGreatDoor
open Go Go.RowKit Go.Kf Go.Sort Go.Proofs

end Go.Proofs.YtgjialbmlhbngaaGreatDoor

namespace Go.Proofs.YtgjialbmlhbngaaGreatDoor
open Go Go.RowKit Go.Kf Go.Sort Go.Proofs

end Go.Proofs.YtgjialbmlhbngaaGreatDoor
