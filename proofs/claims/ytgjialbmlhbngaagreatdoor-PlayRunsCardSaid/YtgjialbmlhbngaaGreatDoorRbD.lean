/-
  The reference's build: All, with no cache. The reference: PickOf, with no cache.
-/
import Derived.Test.YtgjialbmlhbngaaGreatDoorRbC
import Derived.Test.YtgjialbmlhbngaaGreatDoorBdK

namespace Go.Proofs.YtgjialbmlhbngaaGreatDoor
open Go Go.RowKit Go.Kf Go.Sort Go.Proofs
def lenR:Value→Nat
 | .slice _ n _=>n
 | _=>0
theorem zr2 {w:World} {base:Nat} {e:TypeId} {z:Nat} {v:Value} {n:Nat} {xs:List Value} (h:w.ownsRow base e z v n xs):lenR v=n:=by
 rcases h.2 with ⟨rfl,h0⟩ |⟨g,cap,cur,rfl,-⟩
 ·exact h0.symm
 ·rfl
end Go.Proofs.YtgjialbmlhbngaaGreatDoor
