/-
  coded, at an error by its number.
-/
import Derived.Test.YtmkpeopebddnjaaGreatDoorNames
import Derived.Test.YtmkpeopebddnjaaGreatDoorCleanPure
namespace Go.Proofs.YtmkpeopebddnjaaGreatDoor
open Go Go.RowKit Go.Kf

theorem pErr_of_errW {w : World} {S : Nat → Addr} (h : ErrW w S) : PErr w S := ⟨h.var 1 (by decide), h.var 2 (by decide), h.var 3 (by decide), h.var 5 (by decide)⟩
theorem coded_c (c : Nat) (hc : c ≤ 12) {w : World} {S : Nat → Addr} (hE : ErrW w S) :
    Calls Tryz.prog 11 #[codeV S c, .int .i64 c] w fun e w' => e = .returned (.bool true) ∧ Below w.heap.size w w' := by
  cases c with
  | zero => exact coded_yes .nilIface 0 w ((code_nil w).mono fun e w' ⟨h1, h2⟩ => ⟨h1, by rw [h2]; exact Below.refl _ _⟩)
  | succ c =>
    have e : codeV S (c + 1) = errV (S c) := rfl
    rw [e]
    exact coded_yes (errV (S c)) _ w (code_sent w S hE c (by omega))
theorem cleanR_code (s : List UInt8) : (cleanR s).2 ≤ 12 := by
  unfold cleanR
  split
  · decide
  · cases cleanFold (spl 47 s) with
    | none => decide
    | some out =>
      cases out with
      | nil => decide
      | cons x r =>
        simp only [finR]
        split
        · exact (by decide : 4 ≤ 12)
        · exact Nat.zero_le _
end Go.Proofs.YtmkpeopebddnjaaGreatDoor
