/-
  Proved here: whatever the lines and the cut, ScriptAgain returns true and leaves its arguments as they were (the card of the law ScriptAgain; the listed variables, twelve errors of package api, two errors of strconv and five tables, hold what the program lays).
-/
import Derived.Test.YtgjialbmlhbngaaGreatDoorScN

namespace Go.Proofs.YtgjialbmlhbngaaGreatDoor.lawScriptAgain
open Go Go.ChangeShapes Go.WideShapes Go.ChangeAt Go.RowKit Go.Kf

set_option maxRecDepth 1000000 in
theorem said : Rows.ScriptAgainSaid :=
  OpenClaim.holds_of_cond 8 Tryz.f8 rfl rfl rfl rfl rfl rfl rfl ⟨rfl, rfl, rfl, rfl, rfl⟩ rfl rfl rfl rfl rfl (by kernel_rfl) Tryz.func8 closedB
    (of_decide_eq_true (by kernel_rfl)) (by unfold Func.isWrapper; first | (rw [if_pos (by decide +kernel)]; kernel_rfl) | (rw [if_neg (by decide +kernel)]; exact ⟨rfl, rfl⟩))
    (fun os started H enc _ F => by rw [OpenClaim.pre_eq_preRow]; exact lifted os started H enc F)

/-- THE CARD. -/
theorem card : Rows.ScriptAgainCardSaid :=
  Claim7.holds_tied_plain_at .later [] _ _ _ _ said (fun _ h => by cases h) textB (fun _ h => by cases h) scriptAgain_row_tie rfl ⟨rfl, rfl⟩ (by kernel_rfl) rfl plain goesB
end Go.Proofs.YtgjialbmlhbngaaGreatDoor.lawScriptAgain
