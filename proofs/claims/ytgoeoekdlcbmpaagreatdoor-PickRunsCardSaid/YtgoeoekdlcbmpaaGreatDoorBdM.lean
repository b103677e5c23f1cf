/-
  PickSame, in plain Lean: whatever the picks, the same rules run, and all is the same in the end.
-/
import Derived.Test.YtgoeoekdlcbmpaaGreatDoorBdK

namespace Go.Proofs.YtgoeoekdlcbmpaaGreatDoor
open Go Go.RowKit Go.Kf Go.Sort Go.Proofs

theorem ints_info : (Tryz.prog.info? 3).map (fun i => (i.zero, i.size, i.bytes)) = some (some (.int .i64 0), 1, 8) := by kernel_rfl
end Go.Proofs.YtgoeoekdlcbmpaaGreatDoor
