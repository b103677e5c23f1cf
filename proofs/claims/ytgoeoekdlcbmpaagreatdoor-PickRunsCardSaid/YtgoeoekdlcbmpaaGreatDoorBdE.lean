/-
  The laws' built, in plain Lean: one rule, one file: it runs, and is had again. The laws' built: a rule runs, and is had again. BuildOnce, in plain Lean: all rules are made; each runs once.
-/
import Derived.Test.YtgoeoekdlcbmpaaGreatDoorBdA
import Derived.Test.YtgoeoekdlcbmpaaGreatDoorBdB
import Derived.Test.YtgoeoekdlcbmpaaGreatDoorPkO
import Derived.Test.YtgoeoekdlcbmpaaGreatDoorBdD
import Derived.Test.YtgoeoekdlcbmpaaGreatDoorPkG
import Derived.Test.YtgoeoekdlcbmpaaGreatDoorPkH

namespace Go.Proofs.YtgoeoekdlcbmpaaGreatDoor
open Go Go.RowKit Go.Kf Go.Sort Go.Proofs

end Go.Proofs.YtgoeoekdlcbmpaaGreatDoor

namespace Go.Proofs.YtgoeoekdlcbmpaaGreatDoor
open Go Go.RowKit Go.Kf Go.Sort Go.Proofs

end Go.Proofs.YtgoeoekdlcbmpaaGreatDoor

namespace Go.Proofs.YtgoeoekdlcbmpaaGreatDoor
open Go Go.RowKit Go.Kf Go.Sort Go.Proofs

/-- Where all outs are asked for, all rules are needed. -/
theorem all_needed {l : List RuleL} {ks N : List Nat} (hr : RightS l) (h : PlacesAt l (l.map RuleL.out) ks) (hN : ∀ k, k ∈ N ↔ Reach (edgesB l) ks k) : needL l.length N = List.range l.length := by
  have hk : ∀ k, k < l.length → k ∈ N := fun k hk => (hN k).2 (.base ((h.mem hr.2 hk).2 (List.mem_map.2 ⟨_, List.getElem_mem hk, rfl⟩)))
  unfold needL
  rw [List.filter_eq_self]
  intro k hkr
  exact List.contains_iff_mem.2 (hk k (List.mem_range.1 hkr))
theorem over_true {P : List Nat} {st : Nat → St} (hw : ∀ k ∈ P, (st k).state ≠ 1) : overB P st = true := overB_iff.2 hw
end Go.Proofs.YtgoeoekdlcbmpaaGreatDoor
