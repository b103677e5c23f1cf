/-
  Proved here: whatever the rules and whatever the files that change between, YardFresh returns true and leaves its arguments as they were (the card of the law YardFresh; the listed variables, eleven errors of package api, two errors of strconv and five tables, hold what the program lays).
-/
import Derived.Test.YtgjialbmlhbngaaGreatDoorFrB

namespace Go.Proofs.YtgjialbmlhbngaaGreatDoor.lawYardFresh
open Go Go.ChangeShapes Go.WideShapes Go.ChangeAt Go.RowKit Go.Kf

set_option maxRecDepth 1000000 in
theorem said : Rows.YardFreshSaid :=
  OpenClaim.holds_of_cond 3 Tryz.f3 rfl rfl rfl rfl rfl rfl rfl ⟨rfl, rfl, rfl, rfl, rfl⟩ rfl rfl rfl rfl rfl (by kernel_rfl) Tryz.func3 closedB
    (of_decide_eq_true (by kernel_rfl)) (by unfold Func.isWrapper; first | (rw [if_pos (by decide +kernel)]; kernel_rfl) | (rw [if_neg (by decide +kernel)]; exact ⟨rfl, rfl⟩))
    (fun os started H enc _ F => by rw [OpenClaim.pre_eq_preRow]; exact lifted os started H enc F)

/-- THE CARD. -/
theorem card : Rows.YardFreshCardSaid :=
  Claim7.holds_tied_plain_at .later [] _ _ _ _ said (fun _ h => by cases h) textB (fun _ h => by cases h) yardFresh_row_tie rfl ⟨rfl, rfl⟩ (by kernel_rfl) rfl plain goesB
end Go.Proofs.YtgjialbmlhbngaaGreatDoor.lawYardFresh
