/-
  The reference: LeavesOf. What is wanted hangs on the leaves alone: in plain words.
-/
import Derived.Test.YtgjialbmlhbngaaGreatDoorPkS
import Derived.Test.YtgjialbmlhbngaaGreatDoorPkH
import Derived.Test.YtgjialbmlhbngaaGreatDoorPkI

namespace Go.Proofs.YtgjialbmlhbngaaGreatDoor
open Go Go.RowKit Go.Kf Go.Sort Go.Proofs
theorem findIdx_at {o : List Nat} (hd : o.Nodup) {t : Nat} (ht : t < o.length) : o.findIdx (fun x => x == o[t]) = t := by
  rw [List.findIdx_eq ht]
  refine ⟨by simp, fun j hj => ?_⟩
  have : o[j] ≠ o[t] := fun e => by
    have := nodup_at hd e
    omega
  simpa using this
theorem rank_of_orderB {E : Nat → List Nat} {isB : Nat → Bool} {n : Nat} {o : List Nat} (h : orderB E isB n = some o) : ∃ r : Nat → Nat, ∀ i, i < n → isB i = true → ∀ j ∈ E i, j < n ∧ isB j = true ∧ r j < r i := by
  obtain ⟨h1, h2⟩ := order_mem h
  refine ⟨fun i => o.findIdx (fun x => x == i), fun i hi hb j hj => ?_⟩
  obtain ⟨t, ht, e⟩ := List.mem_iff_getElem.1 (h2 i hi hb)
  subst e
  obtain ⟨t', ht', e⟩ := List.mem_iff_getElem.1 (h1.back t ht j hj)
  rw [List.length_take] at ht'
  rw [List.getElem_take] at e
  subst e
  have h3 := h1.lt o[t'] (List.getElem_mem (by omega))
  refine ⟨h3.1, h3.2, ?_⟩
  show o.findIdx (fun x => x == o[t']) < o.findIdx (fun x => x == o[t])
  rw [findIdx_at h1.nd, findIdx_at h1.nd]
  omega
theorem needL_lt {n : Nat} {N : List Nat} : ∀ k ∈ needL n N, k < n := fun _ hk => List.mem_range.1 (List.mem_filter.1 hk).1
end Go.Proofs.YtgjialbmlhbngaaGreatDoor
