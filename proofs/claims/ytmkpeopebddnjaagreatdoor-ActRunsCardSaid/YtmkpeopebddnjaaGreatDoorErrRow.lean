/-
  A world that meets a row's list (errors.errorType and the twelve sentinels, then whatever) bears the program's errors.
-/
import Derived.Test.YtmkpeopebddnjaaGreatDoorCode
import Derived.Test.YtmkpeopebddnjaaGreatDoorRows
import Derived.LaidMore
namespace Go.Proofs.YtmkpeopebddnjaaGreatDoor
open Go Go.RowKit Go.Kf

theorem eStar : "*" ++ "errors.errorString" = "*errors.errorString" := by decide
theorem eRow (u : TypeId) (h : Tryz.prog.typeName? 3 u = some "*errors.errorString") : u = 218 :=
  typeName_ptr_named (nm := "errors.errorString") (by rw [eStar]; kernel_rfl) (by kernel_rfl) (by decide) u (by rw [eStar]; exact h)
theorem eVar : Tryz.prog.globalNamed "errors.errorType" = some 12 := by kernel_rfl
theorem eRtype : (Tryz.prog.cutTypes.find? (·.1 == "internal/reflectlite.rtype")).map (·.2) = some 148 := by kernel_rfl
theorem eOneRow : ((List.range 252).filter fun t => Tryz.prog.rowNamed t [101, 114, 114, 111, 114]) = [34] := by kernel_rfl
theorem eTypes : Tryz.prog.types.size = 252 := by kernel_rfl
theorem eHandle : typeHandle Tryz.prog 34 = .pointer (some ⟨21, 34, none⟩) := by kernel_rfl

/-- The sentinels of the program: name, text, number. -/
def sents : List (String × List UInt8 × Nat) := [
  ("kilnfield/api.ErrText", [107, 105, 108, 110, 102, 105, 101, 108, 100, 58, 32, 116, 101, 120, 116], 4),
  ("kilnfield/api.ErrBound", [107, 105, 108, 110, 102, 105, 101, 108, 100, 58, 32, 98, 111, 117, 110, 100], 0),
  ("kilnfield/api.ErrShape", [107, 105, 108, 110, 102, 105, 101, 108, 100, 58, 32, 115, 104, 97, 112, 101], 5),
  ("kilnfield/api.ErrName", [107, 105, 108, 110, 102, 105, 101, 108, 100, 58, 32, 110, 97, 109, 101], 8),
  ("kilnfield/api.ErrKind", [107, 105, 108, 110, 102, 105, 101, 108, 100, 58, 32, 107, 105, 110, 100], 7),
  ("kilnfield/api.ErrNone", [107, 105, 108, 110, 102, 105, 101, 108, 100, 58, 32, 110, 111, 110, 101], 3),
  ("kilnfield/api.ErrExist", [107, 105, 108, 110, 102, 105, 101, 108, 100, 58, 32, 101, 120, 105, 115, 116], 1),
  ("kilnfield/api.ErrFull", [107, 105, 108, 110, 102, 105, 101, 108, 100, 58, 32, 102, 117, 108, 108], 2),
  ("kilnfield/api.ErrCycle", [107, 105, 108, 110, 102, 105, 101, 108, 100, 58, 32, 99, 121, 99, 108, 101], 9),
  ("kilnfield/api.ErrLong", [107, 105, 108, 110, 102, 105, 101, 108, 100, 58, 32, 108, 111, 110, 103], 6),
  ("kilnfield/api.ErrTurn", [107, 105, 108, 110, 102, 105, 101, 108, 100, 58, 32, 116, 117, 114, 110], 10),
  ("kilnfield/api.ErrDone", [107, 105, 108, 110, 102, 105, 101, 108, 100, 58, 32, 100, 111, 110, 101], 11)]
theorem sents_at : ∀ k, k < 12 → ∃ s, sents[k]? = some s ∧ s.2.2 = sentG k
  | 0, _ => ⟨_, rfl, rfl⟩ | 1, _ => ⟨_, rfl, rfl⟩ | 2, _ => ⟨_, rfl, rfl⟩ | 3, _ => ⟨_, rfl, rfl⟩ | 4, _ => ⟨_, rfl, rfl⟩ | 5, _ => ⟨_, rfl, rfl⟩
  | 6, _ => ⟨_, rfl, rfl⟩ | 7, _ => ⟨_, rfl, rfl⟩ | 8, _ => ⟨_, rfl, rfl⟩ | 9, _ => ⟨_, rfl, rfl⟩ | 10, _ => ⟨_, rfl, rfl⟩ | 11, _ => ⟨_, rfl, rfl⟩
  | n + 12, h => by omega
theorem sents_named : ∀ s ∈ sents, Tryz.prog.globalNamed s.1 = some s.2.2 ∧ (Tryz.prog.globals[s.2.2]?).map (·.type) = some 34 := by
  have h : (sents.all fun s => Tryz.prog.globalNamed s.1 == some s.2.2 && (Tryz.prog.globals[s.2.2]?).map (·.type) == some 34) = true := by kernel_rfl
  intro s hs
  have := List.all_eq_true.1 h s hs
  simpa using this
def sentRows : List (String × DataW Unit) := sents.map fun s => (s.1, .iface "*errors.errorString" (.ptr (.agg [.lit (.string s.2.1)])))

theorem errW_of_laid {W : World} {rest hs : List (String × DataW Unit)} (h : laidMet Tryz.prog (sentRows ++ rest) W) (hh : handlesMet Tryz.prog hs W) (hin : ("errors.errorType", Rows.laid_errors_errorType) ∈ hs) : ∃ S, ErrW W S := by
  have ht : ErrType W := by
    obtain ⟨name, u, ty, e1, e2, e3, e4, e5⟩ := hh _ hin
    have en : name = [101, 114, 114, 111, 114] := (Option.some.inj e1).symm
    subst en
    obtain rfl := Option.some.inj (eRtype.symm.trans e2)
    have hm : ty ∈ (List.range 252).filter fun t => Tryz.prog.rowNamed t [101, 114, 114, 111, 114] := List.mem_filter.2 ⟨List.mem_range.2 (by rw [← eTypes]; exact e3), e4⟩
    rw [eOneRow] at hm
    obtain rfl := List.mem_singleton.1 hm
    rw [eHandle] at e5
    unfold ErrType
    simpa using World.var?_cell eVar e5 0
  obtain ⟨ps, hv, hnd, hrows⟩ := h
  obtain ⟨az, hlen, hnod, hin, hall⟩ := laid_sentinels Tryz.underlying34 eRow Tryz.underlying218 Tryz.underlying220 rfl rfl Tryz.underlying9 (by kernel_rfl) (by kernel_rfl) rest sents ps hv sents_named hnd hrows
  have hl : az.length = 12 := hlen
  have hat : ∀ k, k < 12 → az[k]? = some (az.getD k ⟨0, 0, none⟩) := fun k hk => by
    rw [List.getD_eq_getElem?_getD, List.getElem?_eq_getElem (by omega)]
    rfl
  refine ⟨fun k => az.getD k ⟨0, 0, none⟩, ht, lt_of_cell ht, fun k hk => ?_, fun k hk => ?_, fun i j hi hj e => ?_⟩
  · obtain ⟨s, h1, h2⟩ := sents_at k hk
    have := hall k s _ h1 (hat k hk)
    rwa [h2] at this
  · exact (hrows _ _ (hin _ (List.mem_of_getElem? (hat k hk)))).1
  · have h1 := hat i hi
    have h2 := hat j hj
    rw [show az.getD i ⟨0, 0, none⟩ = az.getD j ⟨0, 0, none⟩ from e, ← h2] at h1
    exact (List.getElem?_inj (by omega : i < az.length) hnod).1 h1
end Go.Proofs.YtmkpeopebddnjaaGreatDoor
