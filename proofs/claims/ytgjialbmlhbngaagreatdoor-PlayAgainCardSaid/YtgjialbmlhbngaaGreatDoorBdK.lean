/-
  Package pick: size, Run. The laws' picked, in plain Lean: two rules that write, the second one first; one level.
-/
import Derived.Test.YtgjialbmlhbngaaGreatDoorBdH
import Derived.Test.YtgjialbmlhbngaaGreatDoorBdA
import Derived.Test.YtgjialbmlhbngaaGreatDoorBdJ
import Derived.Test.YtgjialbmlhbngaaGreatDoorBdE

namespace Go.Proofs.YtgjialbmlhbngaaGreatDoor
open Go Go.RowKit Go.Kf Go.Sort Go.Proofs

section
variable {S : Nat → Addr} {l : List RuleL} {P : List Nat} {m : List Ent} {D : BPl} {pb mb B : Nat} {lv lv' : Value} {c c' : Option CS} {st : Nat → St} {w w' w2 : World}
/-- None of a build's blocks holds ints. -/
theorem BO.notInt (h : BO S l P m D pb mb B lv c st w) {q : Nat} (hq : D.has P q ∨ cfoot pb mb lv c q) (hi : ∃ cs, w.heap[q]? = some (.cells cs 3 (0, 0))) : False := by
  obtain ⟨cs, hi⟩ := hi
  rcases hq with (hk | ⟨j, hj, rfl⟩) | hq
  · rcases hk with rfl | rfl | rfl | rfl | rfl | ⟨i, hip, hk⟩
    · rw [h.at_.stat.blk] at hi
      simp at hi
    · obtain ⟨es, clock, hb, -⟩ := h.at_.stat.lm
      rw [hb] at hi; cases hi
    · obtain ⟨es, clock, hb, -⟩ := h.at_.stat.bm
      rw [hb] at hi; cases hi
    · rw [h.at_.stat.tree.blk] at hi
      simp at hi
    · obtain ⟨es, clock, hb, -⟩ := h.at_.stat.tree.map
      rw [hb] at hi; cases hi
    · obtain ⟨cs2, hb⟩ := own_typed (h.at_.stat.ins i hip) hk
      rw [hb] at hi
      simp at hi
  · rw [h.at_.step j hj] at hi
    simp at hi
  · cases c with
    | none => exact hq
    | some c =>
      rcases hq with rfl | rfl | hq
      · have := h.cache.2.blk
        rw [this] at hi
        simp at hi
      · obtain ⟨es, clock, hb, -⟩ := h.cache.2.map
        rw [hb] at hi; cases hi
      · obtain ⟨cs2, hb⟩ := own_typed h.cache.2.row hq
        rw [hb] at hi
        simp at hi
theorem BO.grown (h : BO S l P m D pb mb B lv c st w) {N n : Nat} {u : Value} {xs : List Value} (ho : w.ownsRow N 3 1 u n xs) (hf : Fr w.heap.size (fun q => u.ownBlock = some q) w w') : BO S l P m D pb mb B lv c st w' :=
  h.fr hf (fun _ hq => ⟨h.lt hq, fun hs => h.notInt hq (own_typed ho hs)⟩)
end

end Go.Proofs.YtgjialbmlhbngaaGreatDoor

namespace Go.Proofs.YtgjialbmlhbngaaGreatDoor
open Go Go.RowKit Go.Kf Go.Sort Go.Proofs

end Go.Proofs.YtgjialbmlhbngaaGreatDoor
