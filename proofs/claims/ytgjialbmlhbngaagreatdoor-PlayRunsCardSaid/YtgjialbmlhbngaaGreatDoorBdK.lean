/-
  Package pick: size, Run. The laws' picked, in plain Lean: two rules that write, the second one first; one level.
-/
import Derived.Test.YtgjialbmlhbngaaGreatDoorBdH
import Derived.Test.YtgjialbmlhbngaaGreatDoorBdA
import Derived.Test.YtgjialbmlhbngaaGreatDoorBdJ
import Derived.Test.YtgjialbmlhbngaaGreatDoorBdE

namespace Go.Proofs.YtgjialbmlhbngaaGreatDoor
open Go Go.RowKit Go.Kf Go.Sort Go.Proofs
theorem zuv {l:List RuleL} {P:List Nat} {T:Look} {c c':Option CS} {st st':Nat→St} {k:Nat} {hit:Bool} {code:Nat} (h:RunRel l P T c st (k:Int) hit code c' st') (hk:k∈P∧zc2 l st k):GoRel l P T c st k hit c' st':=by
 generalize hz:((k:Nat):Int)=z at h;cases h with
 | none h=>exact absurd hz.symm (h k hk.1)
 | done h1 h2 =>
  obtain rfl:k=_:=by exact_mod_cast hz
  exact absurd hk.2.1 h2
 | turn h1 h2 h3 =>
  obtain rfl:k=_:=by exact_mod_cast hz
  exact absurd hk.2 h3
 | go h1 h2 h3 =>
  obtain rfl:k=_:=by exact_mod_cast hz
  exact h3
theorem zx5 {P:List Nat} (st:Nat→St):(zdg P st).length≤P.length:=List.length_filter_le _ _
end Go.Proofs.YtgjialbmlhbngaaGreatDoor
