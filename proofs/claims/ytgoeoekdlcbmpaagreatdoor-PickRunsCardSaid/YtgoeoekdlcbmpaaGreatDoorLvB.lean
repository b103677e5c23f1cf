/-
  coded and faulted of package kilnfieldlaw3.
-/
import Derived.Test.YtgoeoekdlcbmpaaGreatDoorPkO

namespace Go.Proofs.YtgoeoekdlcbmpaaGreatDoor
open Go Go.RowKit Go.Kf Go.Sort Go.Proofs

set_option maxRecDepth 100000 in
theorem coded3_any (err : Value) (c : Nat) (w : World) (h : Calls Tryz.prog 73 #[err] w fun e w' => e = .returned (.tuple #[.int .i64 (c : Int), .int .i64 (-1)]) ∧ Below w.heap.size w w') :
    Calls Tryz.prog 46 #[err, .int .i64 (c : Int)] w fun e w' => e = .returned (.bool true) ∧ Below w.heap.size w w' := by
  have H := Lib.hid h
  clear h
  go_enter Tryz.func46, Tryz.ntmps46
  go_wp2_with fail
  go_at_call 73
  refine H.out.mono ?_
  rintro e w' ⟨rfl, hb⟩
  go_wp2
  go_ret
  exact ⟨rfl, hb⟩
end Go.Proofs.YtgoeoekdlcbmpaaGreatDoor
