/-
  A drawn region of which five operations make memory: in whatever order they come. The reference's build: what it holds; NewBuild. The reference's build: IsReady, Ready. The reference's build: fail. The reference's build: fail, the walk.
-/
import Derived.Test.YtgjialbmlhbngaaGreatDoorBdM
import Derived.Deep.RegionLaw
import Derived.Test.YtgjialbmlhbngaaGreatDoorPkT
import Derived.Test.YtgjialbmlhbngaaGreatDoorPkI
import Derived.Test.YtgjialbmlhbngaaGreatDoorBdB
import Derived.Test.YtgjialbmlhbngaaGreatDoorBdC

namespace Go.Proofs.YtgjialbmlhbngaaGreatDoor
open Go Go.RowKit Go.Kf Go.Sort Go.Proofs

end Go.Proofs.YtgjialbmlhbngaaGreatDoor

namespace Go.Proofs.YtgjialbmlhbngaaGreatDoor
open Go Go.RowKit Go.Kf Go.Sort Go.Proofs

def rSt (P : List Nat) (st : Nat → St) (k : Nat) : List UInt8 := if P.contains k then stName (st k).state else []
theorem VRow.below {t : TypeId} {w w' : World} {g : Nat} {vs : List Value} (h : VRow t w g vs) (hb : Below w.heap.size w w') : VRow t w' g vs := (hb.block g h.lt).trans h
end Go.Proofs.YtgjialbmlhbngaaGreatDoor

namespace Go.Proofs.YtgjialbmlhbngaaGreatDoor
open Go Go.RowKit Go.Kf Go.Sort Go.Proofs

theorem rSt_at {P : List Nat} {st : Nat → St} {i n : Nat} (hn : 1 ≤ n ∧ n ≤ 4) (hs : i ∈ P → 1 ≤ (st i).state ∧ (st i).state ≤ 4) : rSt P st i = stName n ↔ i ∈ P ∧ (st i).state = n := by
  unfold rSt
  by_cases hP : i ∈ P
  · have h := hs hP
    simp only [List.contains_iff_mem, hP, if_true, true_and]
    generalize (st i).state = q at h
    obtain rfl | rfl | rfl | rfl : q = 1 ∨ q = 2 ∨ q = 3 ∨ q = 4 := by omega
    all_goals
      obtain rfl | rfl | rfl | rfl : n = 1 ∨ n = 2 ∨ n = 3 ∨ n = 4 := by omega
      all_goals decide
  · simp only [List.contains_iff_mem, hP, if_false, false_and, iff_false]
    obtain rfl | rfl | rfl | rfl : n = 1 ∨ n = 2 ∨ n = 3 ∨ n = 4 := by omega
    all_goals decide
theorem row_below {w w' : World} {base : Nat} {e : TypeId} {z : Nat} {v : Value} {n : Nat} {xs : List Value} (h : w.ownsRow base e z v n xs) (hb : Below w.heap.size w w') : w'.ownsRow base e z v n xs :=
  ownsRow_fr h (Fr.of_below (S := fun _ => False) hb) (fun k hk => ⟨(h.lt k hk).2, id⟩)

end Go.Proofs.YtgjialbmlhbngaaGreatDoor

namespace Go.Proofs.YtgjialbmlhbngaaGreatDoor
open Go Go.RowKit Go.Kf Go.Sort Go.Proofs

section
variable {l : List RuleL} {P : List Nat} {n : Nat} {c0 cur : Nat → St} {k j : Nat}
theorem FailMid.one {st : Nat → St} {i e : Nat} (h : FailMid l P st cur i e) (hone : ∀ i ∈ P, 1 ≤ (st i).state ∧ (st i).state ≤ 4) : ∀ i ∈ P, 1 ≤ (cur i).state ∧ (cur i).state ≤ 4 := by
  intro j hj
  by_cases hji : j = i
  · subst hji; rw [h.at_]; exact ⟨by simp, by simp⟩
  · rcases h.rest j hj hji with h1 | ⟨-, h1, -⟩
    · rw [h1]; exact hone j hj
    · rw [h1]; exact ⟨by simp, by simp⟩
end
end Go.Proofs.YtgjialbmlhbngaaGreatDoor

namespace Go.Proofs.YtgjialbmlhbngaaGreatDoor
open Go Go.RowKit Go.Kf Go.Sort Go.Proofs

end Go.Proofs.YtgjialbmlhbngaaGreatDoor
