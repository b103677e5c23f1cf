/-
  Builds with no cache: what runs make of them is one thing; New's error and the reference's fault. OwnTexts: what it gives is roomy. A slice that is nil, or has an address, as an argument.
-/
import Derived.Test.YtgjialbmlhbngaaGreatDoorRbD
import Derived.Test.YtgjialbmlhbngaaGreatDoorBdK
import Derived.Test.YtgjialbmlhbngaaGreatDoorBdD
import Derived.Test.YtgjialbmlhbngaaGreatDoorPkT
import Derived.Test.YtgjialbmlhbngaaGreatDoorPkI
import Derived.Test.YtgjialbmlhbngaaGreatDoorBdB
import Derived.Test.YtgjialbmlhbngaaGreatDoorPkE
import Derived.Test.YtgjialbmlhbngaaGreatDoorPkC
import Derived.Test.YtgjialbmlhbngaaGreatDoorPkB
import Derived.Test.YtgjialbmlhbngaaGreatDoorPkU
import Derived.ChangeSlices

namespace Go.Proofs.YtgjialbmlhbngaaGreatDoor
open Go Go.RowKit Go.Kf Go.Sort Go.Proofs

section
variable {S : Nat → Addr} {l : List RuleL} {P : List Nat} {m : List Ent} {D : BPl} {w : World} {st : Nat → St}
theorem bstR_any (h : BAt S l P m D w st) (hi : BInv l P (fun p => mlook p m) st) (i : Nat) :
    Calls Tryz.prog 73 #[ptrV D.b, .int .i64 (i : Int)] w fun e w' => e = .returned (str (rSt P st i)) ∧ Below w.heap.size w w' := by
  by_cases hP : i ∈ P
  · have h1 := bState_any w h hP (hi.one i hP)
    rwa [show rSt P st i = stName (st i).state by simp [rSt, hP]]
  · have h1 := bStateNo_any w h (i := (i : Int)) (fun k hk e => hP (by
      have : i = k := by omega
      exact this ▸ hk))
    rwa [show rSt P st i = [] by simp [rSt, hP]]
end
end Go.Proofs.YtgjialbmlhbngaaGreatDoor

namespace Go.Proofs.YtgjialbmlhbngaaGreatDoor
open Go Go.RowKit Go.Kf Go.Sort Go.Proofs

end Go.Proofs.YtgjialbmlhbngaaGreatDoor

namespace Go.Proofs.YtgjialbmlhbngaaGreatDoor
open Go Go.ChangeShapes Go.WideShapes Go.ChangeAt Go.RowKit Go.Kf

end Go.Proofs.YtgjialbmlhbngaaGreatDoor
