/-
  A world that meets the list of a law on paths (a table, four errors, a pinned table) bears the four errors.
-/
import Derived.Test.YtmkpeopebddnjaaGreatDoorErrRow
import Derived.Test.YtmkpeopebddnjaaGreatDoorPathP
namespace Go.Proofs.YtmkpeopebddnjaaGreatDoor
open Go Go.RowKit Go.Kf

/-- The four errors: name, text, number of the variable. -/
def sents4 : List (String × List UInt8 × Nat) := [
  ("kilnfield/api.ErrBound", [107, 105, 108, 110, 102, 105, 101, 108, 100, 58, 32, 98, 111, 117, 110, 100], 0),
  ("kilnfield/api.ErrShape", [107, 105, 108, 110, 102, 105, 101, 108, 100, 58, 32, 115, 104, 97, 112, 101], 5),
  ("kilnfield/api.ErrName", [107, 105, 108, 110, 102, 105, 101, 108, 100, 58, 32, 110, 97, 109, 101], 8),
  ("kilnfield/api.ErrNone", [107, 105, 108, 110, 102, 105, 101, 108, 100, 58, 32, 110, 111, 110, 101], 3)]
theorem sents4_named : ∀ s ∈ sents4, Tryz.prog.globalNamed s.1 = some s.2.2 ∧ (Tryz.prog.globals[s.2.2]?).map (·.type) = some 34 := by
  have h : (sents4.all fun s => Tryz.prog.globalNamed s.1 == some s.2.2 && (Tryz.prog.globals[s.2.2]?).map (·.type) == some 34) = true := by kernel_rfl
  intro s hs
  have := List.all_eq_true.1 h s hs
  simpa using this
def sentRows4 : List (String × DataW Unit) := sents4.map fun s => (s.1, .iface "*errors.errorString" (.ptr (.agg [.lit (.string s.2.1)])))

theorem pErr_of_laid {W : World} {x : String × DataW Unit} {rest : List (String × DataW Unit)} (h : laidMet Tryz.prog (x :: (sentRows4 ++ rest)) W) : ∃ S, PErr W S := by
  obtain ⟨x1, x2⟩ := x
  obtain ⟨ps, ⟨g, t, cs, fu, p, q, -, -, -, -, hv, rfl⟩, hnd, hrows⟩ := h
  obtain ⟨az, hlen, hnod, hin, hall⟩ := laid_sentinels Tryz.underlying34 eRow Tryz.underlying218 Tryz.underlying220 rfl rfl Tryz.underlying9 (by kernel_rfl) (by kernel_rfl) rest sents4 q hv sents4_named (List.nodup_append.1 hnd).2.1 (fun b off hb => hrows b off (List.mem_append_right _ hb))
  have hl : az.length = 4 := hlen
  have hat : ∀ k, k < 4 → az[k]? = some (az.getD k ⟨0, 0, none⟩) := fun k hk => by
    rw [List.getD_eq_getElem?_getD, List.getElem?_eq_getElem (by omega)]
    rfl
  refine ⟨fun k => if k = 5 then az.getD 3 ⟨0, 0, none⟩ else az.getD (k - 1) ⟨0, 0, none⟩, ?_, ?_, ?_, ?_⟩
  · exact hall 0 _ _ rfl (hat 0 (by decide))
  · exact hall 1 _ _ rfl (hat 1 (by decide))
  · exact hall 2 _ _ rfl (hat 2 (by decide))
  · exact hall 3 _ _ rfl (hat 3 (by decide))
/-- MaxLen, of a world of the program's shape. -/
theorem ml_of_shape {W : World} (h : World.ShapedOpen Tryz.prog W) : Ml W := Tryz.laysM146.s1_3 W h
end Go.Proofs.YtmkpeopebddnjaaGreatDoor
