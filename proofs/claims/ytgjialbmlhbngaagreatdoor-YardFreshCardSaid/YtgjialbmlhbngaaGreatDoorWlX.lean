/-
  A world that meets the list of a law on leaves (four tables, nine errors and strconv's two, then whatever), or on builds (eleven errors and strconv's two), bears the errors.
-/
import Derived.Test.YtgjialbmlhbngaaGreatDoorPkW
import Derived.Test.YtgjialbmlhbngaaGreatDoorPkL
import Derived.Test.YtgjialbmlhbngaaGreatDoorPkO
import Derived.Test.YtgjialbmlhbngaaGreatDoorPkD

namespace Go.Proofs.YtgjialbmlhbngaaGreatDoor
open Go Go.RowKit Go.Kf

/-- The errors: name, text, number of the variable. -/
def sentsL11 : List (String × List UInt8 × Nat) := [
  ("kilnfield/api.ErrBound", [107, 105, 108, 110, 102, 105, 101, 108, 100, 58, 32, 98, 111, 117, 110, 100], 1),
  ("kilnfield/api.ErrShape", [107, 105, 108, 110, 102, 105, 101, 108, 100, 58, 32, 115, 104, 97, 112, 101], 4),
  ("kilnfield/api.ErrName", [107, 105, 108, 110, 102, 105, 101, 108, 100, 58, 32, 110, 97, 109, 101], 8),
  ("kilnfield/api.ErrKind", [107, 105, 108, 110, 102, 105, 101, 108, 100, 58, 32, 107, 105, 110, 100], 10),
  ("kilnfield/api.ErrNone", [107, 105, 108, 110, 102, 105, 101, 108, 100, 58, 32, 110, 111, 110, 101], 0),
  ("kilnfield/api.ErrExist", [107, 105, 108, 110, 102, 105, 101, 108, 100, 58, 32, 101, 120, 105, 115, 116], 2),
  ("kilnfield/api.ErrFull", [107, 105, 108, 110, 102, 105, 101, 108, 100, 58, 32, 102, 117, 108, 108], 3),
  ("kilnfield/api.ErrCycle", [107, 105, 108, 110, 102, 105, 101, 108, 100, 58, 32, 99, 121, 99, 108, 101], 7),
  ("kilnfield/api.ErrLong", [107, 105, 108, 110, 102, 105, 101, 108, 100, 58, 32, 108, 111, 110, 103], 11),
  ("kilnfield/api.ErrTurn", [107, 105, 108, 110, 102, 105, 101, 108, 100, 58, 32, 116, 117, 114, 110], 6),
  ("kilnfield/api.ErrDone", [107, 105, 108, 110, 102, 105, 101, 108, 100, 58, 32, 100, 111, 110, 101], 5),
  ("strconv.ErrRange", [118, 97, 108, 117, 101, 32, 111, 117, 116, 32, 111, 102, 32, 114, 97, 110, 103, 101], 18),
  ("strconv.ErrSyntax", [105, 110, 118, 97, 108, 105, 100, 32, 115, 121, 110, 116, 97, 120], 17)]
theorem sentsL11_named : ∀ s ∈ sentsL11, Tryz.prog.globalNamed s.1 = some s.2.2 ∧ (Tryz.prog.globals[s.2.2]?).map (·.type) = some 28 := by
  have h : (sentsL11.all fun s => Tryz.prog.globalNamed s.1 == some s.2.2 && (Tryz.prog.globals[s.2.2]?).map (·.type) == some 28) = true := by kernel_rfl
  intro s hs
  have := List.all_eq_true.1 h s hs
  simpa using this
def sentRowsL11 : List (String × DataW Unit) := sentsL11.map fun s => (s.1, .iface "*errors.errorString" (.ptr (.agg [.lit (.string s.2.1)])))

theorem errs_of_laidL11 {W : World} {x y z u : String × DataW Unit} {rest : List (String × DataW Unit)} (h : laidMet Tryz.prog (x :: y :: z :: u :: (sentRowsL11 ++ rest)) W) : ∃ S : Nat → Addr, KErr W S ∧ LErr W S ∧ TErr W S ∧ NErr W ∧ W.cell? ⟨6, 0, none⟩ = some (errV (S 10)) ∧ W.cell? ⟨5, 0, none⟩ = some (errV (S 11)) := by
  obtain ⟨q, hv, hnd, hrows⟩ := laidMet_tail (laidMet_tail (laidMet_tail (laidMet_tail h)))
  obtain ⟨az, hlen, hnod, hin, hall⟩ := laid_sentinels Tryz.underlying28 eRow Tryz.underlying380 Tryz.underlying382 rfl rfl Tryz.underlying9 (by kernel_rfl) (by kernel_rfl) rest sentsL11 q hv sentsL11_named hnd hrows
  have hl : az.length = 13 := hlen
  have hat : ∀ k, k < 13 → az[k]? = some (az.getD k ⟨0, 0, none⟩) := fun k hk => by
    rw [List.getD_eq_getElem?_getD, List.getElem?_eq_getElem (by omega)]
    rfl
  refine ⟨fun k => az.getD (k - 1) ⟨0, 0, none⟩, ⟨hall 0 _ _ rfl (hat 0 (by decide)), hall 1 _ _ rfl (hat 1 (by decide)), hall 2 _ _ rfl (hat 2 (by decide)), hall 3 _ _ rfl (hat 3 (by decide)), hall 5 _ _ rfl (hat 5 (by decide)), hall 7 _ _ rfl (hat 7 (by decide)), hall 8 _ _ rfl (hat 8 (by decide))⟩, hall 4 _ _ rfl (hat 4 (by decide)), ⟨fun k hk => ?_⟩, ⟨⟨_, _, hall 12 _ _ rfl (hat 12 (by decide))⟩, ⟨_, _, hall 11 _ _ rfl (hat 11 (by decide))⟩⟩, hall 9 _ _ rfl (hat 9 (by decide)), hall 10 _ _ rfl (hat 10 (by decide))⟩
  simp only [List.mem_cons, List.not_mem_nil, or_false] at hk
  rcases hk with rfl | rfl | rfl | rfl | rfl | rfl
  · exact hall 0 _ _ rfl (hat 0 (by decide))
  · exact hall 1 _ _ rfl (hat 1 (by decide))
  · exact hall 2 _ _ rfl (hat 2 (by decide))
  · exact hall 4 _ _ rfl (hat 4 (by decide))
  · exact hall 5 _ _ rfl (hat 5 (by decide))
  · exact hall 6 _ _ rfl (hat 6 (by decide))
end Go.Proofs.YtgjialbmlhbngaaGreatDoor
