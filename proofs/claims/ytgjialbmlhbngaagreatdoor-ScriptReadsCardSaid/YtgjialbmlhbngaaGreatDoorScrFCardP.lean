/-
  Proved here: whatever the lines, ScriptReads returns true and leaves its arguments as they were (the card of the law ScriptReads; the listed variables, twelve errors of package api, two errors of strconv and five tables, hold what the program lays).
-/
import Derived.Test.YtgjialbmlhbngaaGreatDoorScJ

namespace Go.Proofs.YtgjialbmlhbngaaGreatDoor.lawScriptReads
open Go Go.ChangeShapes Go.WideShapes Go.ChangeAt Go.RowKit Go.Kf

set_option maxRecDepth 1000000 in
theorem said : Rows.ScriptReadsSaid :=
  OpenClaim.holds_of_cond 10 Tryz.f10 rfl rfl rfl rfl rfl rfl rfl ⟨rfl, rfl, rfl, rfl, rfl⟩ rfl rfl rfl rfl rfl (by kernel_rfl) Tryz.func10 closedB
    (of_decide_eq_true (by kernel_rfl)) (by unfold Func.isWrapper; first | (rw [if_pos (by decide +kernel)]; kernel_rfl) | (rw [if_neg (by decide +kernel)]; exact ⟨rfl, rfl⟩))
    (fun os started H enc _ F => by rw [OpenClaim.pre_eq_preRow]; exact lifted os started H enc F)

/-- THE CARD. -/
theorem card : Rows.ScriptReadsCardSaid :=
  Claim7.holds_tied_plain_at .later [] _ _ _ _ said (fun _ h => by cases h) textB (fun _ h => by cases h) scriptReads_row_tie rfl ⟨rfl, rfl⟩ (by kernel_rfl) rfl plain goesB
end Go.Proofs.YtgjialbmlhbngaaGreatDoor.lawScriptReads
