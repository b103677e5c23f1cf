/-
  The reference's build: Run, with a cache or with none. The reference's build: All, with a cache or with none.
-/
import Derived.Test.YtgjialbmlhbngaaGreatDoorRbC
import Derived.Test.YtgjialbmlhbngaaGreatDoorRbI
import Derived.Test.YtgjialbmlhbngaaGreatDoorRbD

namespace Go.Proofs.YtgjialbmlhbngaaGreatDoor
open Go Go.RowKit Go.Kf Go.Sort Go.Proofs

end Go.Proofs.YtgjialbmlhbngaaGreatDoor

namespace Go.Proofs.YtgjialbmlhbngaaGreatDoor
open Go Go.RowKit Go.Kf Go.Sort Go.Proofs

theorem RunRel.some_ {l : List RuleL} {P : List Nat} {T : Look} {c c' : Option CS} {st st' : Nat → St} {i : Int} {hit : Bool} {code : Nat} (h : RunRel l P T c st i hit code c' st') : c'.isSome = c.isSome := by
  cases h with
  | none _ => rfl
  | done _ _ => rfl
  | turn _ _ _ => rfl
  | go _ _ h => exact h.some_

end Go.Proofs.YtgjialbmlhbngaaGreatDoor
