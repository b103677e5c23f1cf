/-
  Levels of rules in plain words; rows of slices of ints, each of the call's own. Package pick: Levels and Deep at any rules.
-/
import Derived.Test.YtgjialbmlhbngaaGreatDoorPkG
import Derived.Test.YtgjialbmlhbngaaGreatDoorBdA
import Derived.Test.YtgjialbmlhbngaaGreatDoorPkR
import Derived.Test.YtgjialbmlhbngaaGreatDoorPkI

namespace Go.Proofs.YtgjialbmlhbngaaGreatDoor
open Go Go.RowKit Go.Kf Go.Sort Go.Proofs
section
variable {B : Nat} {w w' w1 : World} {v v' : Value} {vs : List Value} {X : List (List Int)}
theorem zuu {e:TypeId} {n g cap:Nat} {xs:List Value} (h:w.ownsRow B e 1 (.slice (some ⟨g,0,none⟩) n cap) n xs) (i:Nat) (u:Value):(w.setCell ⟨g,i,none⟩ u).ownsRow B e 1 (.slice (some ⟨g,0,none⟩) n cap) n (xs.set i u):=by
 refine⟨by rw[List.length_set]; exact h.1,?_⟩
 rcases h.2 with ⟨h0,-⟩ |⟨g',cap',cur,h0,hg,hh,hn,hcap,hsz,htake⟩
 ·cases h0
 ·cases h0
  refine Or.inr ⟨g,cap,cur.setIfInBounds i u,rfl,hg,Kf.heap_setCell_same hh u,hn,hcap,by simpa using hsz,?_⟩
  rw[← htake,Array.toList_setIfInBounds,List.take_set]
end
end Go.Proofs.YtgjialbmlhbngaaGreatDoor
