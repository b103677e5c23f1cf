/-
  The laws' built, in plain Lean: one rule, one file: it runs, and is had again. The laws' built: a rule runs, and is had again. BuildOnce, in plain Lean: all rules are made; each runs once.
-/
import Derived.Test.YtgjialbmlhbngaaGreatDoorBdA
import Derived.Test.YtgjialbmlhbngaaGreatDoorBdB
import Derived.Test.YtgjialbmlhbngaaGreatDoorPkO
import Derived.Test.YtgjialbmlhbngaaGreatDoorBdD
import Derived.Test.YtgjialbmlhbngaaGreatDoorPkG
import Derived.Test.YtgjialbmlhbngaaGreatDoorPkH

namespace Go.Proofs.YtgjialbmlhbngaaGreatDoor
open Go Go.RowKit Go.Kf Go.Sort Go.Proofs

end Go.Proofs.YtgjialbmlhbngaaGreatDoor

namespace Go.Proofs.YtgjialbmlhbngaaGreatDoor
open Go Go.RowKit Go.Kf Go.Sort Go.Proofs

end Go.Proofs.YtgjialbmlhbngaaGreatDoor

namespace Go.Proofs.YtgjialbmlhbngaaGreatDoor
open Go Go.RowKit Go.Kf Go.Sort Go.Proofs

/-- Where all outs are asked for, all rules are needed. -/
theorem all_needed {l : List RuleL} {ks N : List Nat} (hr : RightS l) (h : PlacesAt l (l.map RuleL.out) ks) (hN : ∀ k, k ∈ N ↔ Reach (edgesB l) ks k) : needL l.length N = List.range l.length := by
  have hk : ∀ k, k < l.length → k ∈ N := fun k hk => (hN k).2 (.base ((h.mem hr.2 hk).2 (List.mem_map.2 ⟨_, List.getElem_mem hk, rfl⟩)))
  unfold needL
  rw [List.filter_eq_self]
  intro k hkr
  exact List.contains_iff_mem.2 (hk k (List.mem_range.1 hkr))
end Go.Proofs.YtgjialbmlhbngaaGreatDoor
