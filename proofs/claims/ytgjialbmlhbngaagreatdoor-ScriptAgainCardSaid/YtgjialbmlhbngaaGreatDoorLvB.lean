/-
  coded and faulted of package kilnfieldlaw3.
-/
import Derived.Test.YtgjialbmlhbngaaGreatDoorPkO

set_option maxRecDepth 100000
namespace Go.Proofs.YtgjialbmlhbngaaGreatDoor
open Go Go.RowKit Go.Kf Go.Sort Go.Proofs
theorem coded3_any (err : Value) (c : Nat) (w : World) (h : Calls Tryz.prog 86 #[err] w fun e w' => e = .returned (.tuple #[.int .i64 (c : Int), .int .i64 (-1)]) ∧ Below w.heap.size w w') :
    Calls Tryz.prog 62 #[err, .int .i64 (c : Int)] w fun e w' => e = .returned (.bool true) ∧ Below w.heap.size w w' := by
  have H := Hd h
  clear h
  go_enter Tryz.func62, Tryz.ntmps62
  go_wp2_with fail
  go_at_call 86
  refine H.out.mono ?_
  rintro e w' ⟨rfl, hb⟩
  go_wp2
  go_ret
  exact ⟨rfl, hb⟩
end Go.Proofs.YtgjialbmlhbngaaGreatDoor
