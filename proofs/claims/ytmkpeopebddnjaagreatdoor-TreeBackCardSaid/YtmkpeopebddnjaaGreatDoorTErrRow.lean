/-
  A world that meets the list of a law on trees (four tables, seven errors, then whatever) bears the seven errors.
-/
import Derived.Test.YtmkpeopebddnjaaGreatDoorPathRow6
import Derived.Test.YtmkpeopebddnjaaGreatDoorTree
namespace Go.Proofs.YtmkpeopebddnjaaGreatDoor
open Go Go.RowKit Go.Kf

/-- The seven errors: name, text, number of the variable. -/
def sents7 : List (String × List UInt8 × Nat) := [
  ("kilnfield/api.ErrText", [107, 105, 108, 110, 102, 105, 101, 108, 100, 58, 32, 116, 101, 120, 116], 4),
  ("kilnfield/api.ErrBound", [107, 105, 108, 110, 102, 105, 101, 108, 100, 58, 32, 98, 111, 117, 110, 100], 0),
  ("kilnfield/api.ErrShape", [107, 105, 108, 110, 102, 105, 101, 108, 100, 58, 32, 115, 104, 97, 112, 101], 5),
  ("kilnfield/api.ErrName", [107, 105, 108, 110, 102, 105, 101, 108, 100, 58, 32, 110, 97, 109, 101], 8),
  ("kilnfield/api.ErrNone", [107, 105, 108, 110, 102, 105, 101, 108, 100, 58, 32, 110, 111, 110, 101], 3),
  ("kilnfield/api.ErrExist", [107, 105, 108, 110, 102, 105, 101, 108, 100, 58, 32, 101, 120, 105, 115, 116], 1),
  ("kilnfield/api.ErrFull", [107, 105, 108, 110, 102, 105, 101, 108, 100, 58, 32, 102, 117, 108, 108], 2)]
theorem sents7_named : ∀ s ∈ sents7, Tryz.prog.globalNamed s.1 = some s.2.2 ∧ (Tryz.prog.globals[s.2.2]?).map (·.type) = some 34 := by
  have h : (sents7.all fun s => Tryz.prog.globalNamed s.1 == some s.2.2 && (Tryz.prog.globals[s.2.2]?).map (·.type) == some 34) = true := by kernel_rfl
  intro s hs
  have := List.all_eq_true.1 h s hs
  simpa using this
def sentRows7 : List (String × DataW Unit) := sents7.map fun s => (s.1, .iface "*errors.errorString" (.ptr (.agg [.lit (.string s.2.1)])))

theorem tErr_of_laid {W : World} {x y z u : String × DataW Unit} {rest : List (String × DataW Unit)} (h : laidMet Tryz.prog (x :: y :: z :: u :: (sentRows7 ++ rest)) W) : ∃ S, TErr W S := by
  obtain ⟨q, hv, hnd, hrows⟩ := laidMet_tail (laidMet_tail (laidMet_tail (laidMet_tail h)))
  obtain ⟨az, hlen, hnod, hin, hall⟩ := laid_sentinels Tryz.underlying34 eRow Tryz.underlying218 Tryz.underlying220 rfl rfl Tryz.underlying9 (by kernel_rfl) (by kernel_rfl) rest sents7 q hv sents7_named hnd hrows
  have hl : az.length = 7 := hlen
  have hat : ∀ k, k < 7 → az[k]? = some (az.getD k ⟨0, 0, none⟩) := fun k hk => by
    rw [List.getD_eq_getElem?_getD, List.getElem?_eq_getElem (by omega)]
    rfl
  refine ⟨fun k => if k ≤ 3 then az.getD k ⟨0, 0, none⟩ else az.getD (k - 1) ⟨0, 0, none⟩, ⟨fun k hk => ?_⟩⟩
  simp only [List.mem_cons, List.not_mem_nil, or_false] at hk
  rcases hk with rfl | rfl | rfl | rfl | rfl | rfl | rfl
  · exact hall 0 _ _ rfl (hat 0 (by decide))
  · exact hall 1 _ _ rfl (hat 1 (by decide))
  · exact hall 2 _ _ rfl (hat 2 (by decide))
  · exact hall 3 _ _ rfl (hat 3 (by decide))
  · exact hall 4 _ _ rfl (hat 4 (by decide))
  · exact hall 5 _ _ rfl (hat 5 (by decide))
  · exact hall 6 _ _ rfl (hat 6 (by decide))
end Go.Proofs.YtmkpeopebddnjaaGreatDoor
