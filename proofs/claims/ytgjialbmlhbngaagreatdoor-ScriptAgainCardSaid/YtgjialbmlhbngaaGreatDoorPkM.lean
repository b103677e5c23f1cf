/-
  The reference's ActError of any command. The reference: RuleError, SheetFault.
-/
import Derived.Test.YtgjialbmlhbngaaGreatDoorPkL
import Derived.Test.YtgjialbmlhbngaaGreatDoorPkG
import Derived.Laws.CopyOwn

namespace Go.Proofs.YtgjialbmlhbngaaGreatDoor
open Go Go.RowKit Go.Kf Go.Sort Go.Proofs
def FaultIs (l : List RuleL) (c : Nat) (at' : Int) : Prop :=
  (l.length ≤ 40 ∧ (∀ i r, l[i]? = some r → errAt l i r = 0) ∧ c = 0 ∧ at' = -1) ∨
  (40 < l.length ∧ c = 2 ∧ at' = -1) ∨
  (l.length ≤ 40 ∧ ∃ i r m, (∀ j q, j < i → l[j]? = some q → errAt l j q = 0) ∧ l[i]? = some r ∧ errAt l i r = m + 1 ∧ c = m + 1 ∧ at' = (i : Int))
theorem two_free {w : World} {g : Nat} {a b : Value} {t : TypeId} (h : w.heap[g]? = some (.cells #[a, b] t (0, 0))) : (∀ k, w.cell? ⟨g, k, none⟩ = (#[a, b] : Array Value)[k]?) ∧ w.frozen? ⟨g, 0, none⟩ = false ∧ w.frozen? ⟨g, 1, none⟩ = false :=
  ⟨fun k => cell_of_heap h k, free_of_heap h 0, free_of_heap h 1⟩
theorem two_put {w : World} {g : Nat} {a b : Value} {t : TypeId} (h : w.heap[g]? = some (.cells #[a, b] t (0, 0))) (c d : Value) : ((w.setCell ⟨g, 0, none⟩ c).setCell ⟨g, 1, none⟩ d).heap[g]? = some (.cells #[c, d] t (0, 0)) :=
  (Kf.heap_setCell_same (Kf.heap_setCell_same h c) d).trans rfl
end Go.Proofs.YtgjialbmlhbngaaGreatDoor
