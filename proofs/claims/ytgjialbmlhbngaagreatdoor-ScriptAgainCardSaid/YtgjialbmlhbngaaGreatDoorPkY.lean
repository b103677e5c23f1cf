/-
  The reference: LeavesOf. What is wanted hangs on the leaves alone: in plain words.
-/
import Derived.Test.YtgjialbmlhbngaaGreatDoorPkS
import Derived.Test.YtgjialbmlhbngaaGreatDoorPkH
import Derived.Test.YtgjialbmlhbngaaGreatDoorPkI

namespace Go.Proofs.YtgjialbmlhbngaaGreatDoor
open Go Go.RowKit Go.Kf Go.Sort Go.Proofs
theorem orderB_of_rank {E : Nat → List Nat} {isB : Nat → Bool} {n : Nat} (r : Nat → Nat) (h : ∀ i, i < n → isB i = true → ∀ j ∈ E i, j < n ∧ isB j = true ∧ r j < r i) : ∃ o, orderB E isB n = some o := by
  cases ho : orderB E isB n with
  | some o => exact ⟨o, rfl⟩
  | none =>
    exfalso
    unfold orderB at ho
    obtain ⟨o, h1, h2, h3⟩ := (orderGo_outs (manyB isB n) [] (outs_nil E isB n)).2 ho
    have key : ∀ k i, r i = k → i < n → isB i = true → i ∈ o := by
      intro k
      induction k using Nat.strongRecOn with
      | ind k ih =>
        intro i hk hi hb
        refine Classical.byContradiction (fun hm => ?_)
        have hc := h3 i hi
        rw [candB_iff.2 ⟨hb, hm, fun j hj => by
          obtain ⟨a, b, c⟩ := h i hi hb j hj
          exact ih (r j) (by omega) j rfl a b⟩] at hc
        cases hc
    have hs := nodup_sub ((List.range n).filter isB) o (List.Pairwise.filter _ List.nodup_range) (fun k hk => by
      obtain ⟨a, b⟩ := List.mem_filter.1 hk
      exact key _ k rfl (List.mem_range.1 a) b)
    have hm : ((List.range n).filter isB).length = manyB isB n := rfl
    simp only [List.length_nil, Nat.zero_add] at h2
    omega
theorem findIdx_at {o : List Nat} (hd : o.Nodup) {t : Nat} (ht : t < o.length) : o.findIdx (fun x => x == o[t]) = t := by
  rw [List.findIdx_eq ht]
  refine ⟨by simp, fun j hj => ?_⟩
  have : o[j] ≠ o[t] := fun e => by
    have := nodup_at hd e
    omega
  simpa using this
theorem rank_of_orderB {E : Nat → List Nat} {isB : Nat → Bool} {n : Nat} {o : List Nat} (h : orderB E isB n = some o) : ∃ r : Nat → Nat, ∀ i, i < n → isB i = true → ∀ j ∈ E i, j < n ∧ isB j = true ∧ r j < r i := by
  obtain ⟨h1, h2⟩ := order_mem h
  refine ⟨fun i => o.findIdx (fun x => x == i), fun i hi hb j hj => ?_⟩
  obtain ⟨t, ht, e⟩ := List.mem_iff_getElem.1 (h2 i hi hb)
  subst e
  obtain ⟨t', ht', e⟩ := List.mem_iff_getElem.1 (h1.back t ht j hj)
  rw [List.length_take] at ht'
  rw [List.getElem_take] at e
  subst e
  have h3 := h1.lt o[t'] (List.getElem_mem (by omega))
  refine ⟨h3.1, h3.2, ?_⟩
  show o.findIdx (fun x => x == o[t']) < o.findIdx (fun x => x == o[t])
  rw [findIdx_at h1.nd, findIdx_at h1.nd]
  omega
theorem needL_lt {n : Nat} {N : List Nat} : ∀ k ∈ needL n N, k < n := fun _ hk => List.mem_range.1 (List.mem_filter.1 hk).1
end Go.Proofs.YtgjialbmlhbngaaGreatDoor
