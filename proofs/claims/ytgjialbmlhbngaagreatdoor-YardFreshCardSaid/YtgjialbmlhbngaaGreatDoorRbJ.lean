/-
  The reference's build: Run, with a cache or with none. The reference's build: All, with a cache or with none.
-/
import Derived.Test.YtgjialbmlhbngaaGreatDoorRbC
import Derived.Test.YtgjialbmlhbngaaGreatDoorRbI
import Derived.Test.YtgjialbmlhbngaaGreatDoorRbD

namespace Go.Proofs.YtgjialbmlhbngaaGreatDoor
open Go Go.RowKit Go.Kf Go.Sort Go.Proofs

theorem readsK_fr {s : Nat} {w w' : World} {v : Value} {xs : List (List Value)} {N : Nat} {Q : Nat → Prop} (h : ReadsK s w v xs) (hf : Fr N Q w w') (ho : ∀ k, v.ownBlock = some k → k < N ∧ ¬ Q k) : ReadsK s w' v xs := by
  obtain ⟨a, cap, rfl, hle, h⟩ := h
  refine ⟨a, cap, rfl, hle, fun i row hi => ?_⟩
  obtain ⟨b, o, rfl, hcell⟩ := h i row hi
  exact ⟨b, o, rfl, fun j x hj => (hf.cell (p := ⟨b, o + i * s + j, none⟩) (ho b rfl).1 (ho b rfl).2).trans (hcell j x hj)⟩
end Go.Proofs.YtgjialbmlhbngaaGreatDoor

namespace Go.Proofs.YtgjialbmlhbngaaGreatDoor
open Go Go.RowKit Go.Kf Go.Sort Go.Proofs


end Go.Proofs.YtgjialbmlhbngaaGreatDoor
