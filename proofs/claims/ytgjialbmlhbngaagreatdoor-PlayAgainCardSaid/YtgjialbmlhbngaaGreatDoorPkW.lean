/-
  A world that meets a row's list (errors.errorType and the twelve sentinels, then whatever) bears the program's errors.
-/
import Derived.Test.YtgjialbmlhbngaaGreatDoorPkK
import Derived.Test.YtgjialbmlhbngaaGreatDoorRows
import Derived.LaidMore
import Derived.Test.YtgjialbmlhbngaaGreatDoorPkB

namespace Go.Proofs.YtgjialbmlhbngaaGreatDoor
open Go Go.RowKit Go.Kf

theorem eStar : "*" ++ "errors.errorString" = "*errors.errorString" := by decide
theorem eRow (u : TypeId) (h : Tryz.prog.typeName? 3 u = some "*errors.errorString") : u = 380 :=
  typeName_ptr_named (nm := "errors.errorString") (by rw [eStar]; kernel_rfl) (by kernel_rfl) (by decide) u (by rw [eStar]; exact h)
theorem eVar : Tryz.prog.globalNamed "errors.errorType" = some 12 := by kernel_rfl
theorem eRtype : (Tryz.prog.cutTypes.find? (·.1 == "internal/reflectlite.rtype")).map (·.2) = some 323 := by kernel_rfl
theorem eOneRow : ((List.range 419).filter fun t => Tryz.prog.rowNamed t [101, 114, 114, 111, 114]) = [28] := by kernel_rfl
theorem eTypes : Tryz.prog.types.size = 419 := by kernel_rfl
theorem eHandle : typeHandle Tryz.prog 28 = .pointer (some ⟨26, 28, none⟩) := by kernel_rfl

/-- The sentinels of the program: name, text, number. -/
def sents : List (String × List UInt8 × Nat) := [
  ("kilnfield/api.ErrText", [107, 105, 108, 110, 102, 105, 101, 108, 100, 58, 32, 116, 101, 120, 116], 9),
  ("kilnfield/api.ErrBound", [107, 105, 108, 110, 102, 105, 101, 108, 100, 58, 32, 98, 111, 117, 110, 100], 1),
  ("kilnfield/api.ErrShape", [107, 105, 108, 110, 102, 105, 101, 108, 100, 58, 32, 115, 104, 97, 112, 101], 4),
  ("kilnfield/api.ErrName", [107, 105, 108, 110, 102, 105, 101, 108, 100, 58, 32, 110, 97, 109, 101], 8),
  ("kilnfield/api.ErrKind", [107, 105, 108, 110, 102, 105, 101, 108, 100, 58, 32, 107, 105, 110, 100], 10),
  ("kilnfield/api.ErrNone", [107, 105, 108, 110, 102, 105, 101, 108, 100, 58, 32, 110, 111, 110, 101], 0),
  ("kilnfield/api.ErrExist", [107, 105, 108, 110, 102, 105, 101, 108, 100, 58, 32, 101, 120, 105, 115, 116], 2),
  ("kilnfield/api.ErrFull", [107, 105, 108, 110, 102, 105, 101, 108, 100, 58, 32, 102, 117, 108, 108], 3),
  ("kilnfield/api.ErrCycle", [107, 105, 108, 110, 102, 105, 101, 108, 100, 58, 32, 99, 121, 99, 108, 101], 7),
  ("kilnfield/api.ErrLong", [107, 105, 108, 110, 102, 105, 101, 108, 100, 58, 32, 108, 111, 110, 103], 11),
  ("kilnfield/api.ErrTurn", [107, 105, 108, 110, 102, 105, 101, 108, 100, 58, 32, 116, 117, 114, 110], 6),
  ("kilnfield/api.ErrDone", [107, 105, 108, 110, 102, 105, 101, 108, 100, 58, 32, 100, 111, 110, 101], 5)]
theorem sents_at : ∀ k, k < 12 → ∃ s, sents[k]? = some s ∧ s.2.2 = sentG k
  | 0, _ => ⟨_, rfl, rfl⟩ | 1, _ => ⟨_, rfl, rfl⟩ | 2, _ => ⟨_, rfl, rfl⟩ | 3, _ => ⟨_, rfl, rfl⟩ | 4, _ => ⟨_, rfl, rfl⟩ | 5, _ => ⟨_, rfl, rfl⟩
  | 6, _ => ⟨_, rfl, rfl⟩ | 7, _ => ⟨_, rfl, rfl⟩ | 8, _ => ⟨_, rfl, rfl⟩ | 9, _ => ⟨_, rfl, rfl⟩ | 10, _ => ⟨_, rfl, rfl⟩ | 11, _ => ⟨_, rfl, rfl⟩
  | n + 12, h => by omega
theorem sents_named : ∀ s ∈ sents, Tryz.prog.globalNamed s.1 = some s.2.2 ∧ (Tryz.prog.globals[s.2.2]?).map (·.type) = some 28 := by
  have h : (sents.all fun s => Tryz.prog.globalNamed s.1 == some s.2.2 && (Tryz.prog.globals[s.2.2]?).map (·.type) == some 28) = true := by kernel_rfl
  intro s hs
  have := List.all_eq_true.1 h s hs
  simpa using this
def sentRows : List (String × DataW Unit) := sents.map fun s => (s.1, .iface "*errors.errorString" (.ptr (.agg [.lit (.string s.2.1)])))

theorem errW_of_laid {W : World} {rest hs : List (String × DataW Unit)} (h : laidMet Tryz.prog (sentRows ++ rest) W) (hh : handlesMet Tryz.prog hs W) (hin : ("errors.errorType", Rows.laid_errors_errorType) ∈ hs) : ∃ S, ErrW W S := by
  have ht : ErrType W := by
    obtain ⟨name, u, ty, e1, e2, e3, e4, e5⟩ := hh _ hin
    have en : name = [101, 114, 114, 111, 114] := (Option.some.inj e1).symm
    subst en
    obtain rfl := Option.some.inj (eRtype.symm.trans e2)
    have hm : ty ∈ (List.range 419).filter fun t => Tryz.prog.rowNamed t [101, 114, 114, 111, 114] := List.mem_filter.2 ⟨List.mem_range.2 (by rw [← eTypes]; exact e3), e4⟩
    rw [eOneRow] at hm
    obtain rfl := List.mem_singleton.1 hm
    rw [eHandle] at e5
    unfold ErrType
    simpa using World.var?_cell eVar e5 0
  obtain ⟨ps, hv, hnd, hrows⟩ := h
  obtain ⟨az, hlen, hnod, hin, hall⟩ := laid_sentinels Tryz.underlying28 eRow Tryz.underlying380 Tryz.underlying382 rfl rfl Tryz.underlying9 (by kernel_rfl) (by kernel_rfl) rest sents ps hv sents_named hnd hrows
  have hl : az.length = 12 := hlen
  have hat : ∀ k, k < 12 → az[k]? = some (az.getD k ⟨0, 0, none⟩) := fun k hk => by
    rw [List.getD_eq_getElem?_getD, List.getElem?_eq_getElem (by omega)]
    rfl
  refine ⟨fun k => az.getD k ⟨0, 0, none⟩, ht, lt_of_cell ht, fun k hk => ?_, fun k hk => ?_, fun i j hi hj e => ?_⟩
  · obtain ⟨s, h1, h2⟩ := sents_at k hk
    have := hall k s _ h1 (hat k hk)
    rwa [h2] at this
  · exact (hrows _ _ (hin _ (List.mem_of_getElem? (hat k hk)))).1
  · have h1 := hat i hi
    have h2 := hat j hj
    rw [show az.getD i ⟨0, 0, none⟩ = az.getD j ⟨0, 0, none⟩ from e, ← h2] at h1
    exact (List.getElem?_inj (by omega : i < az.length) hnod).1 h1
end Go.Proofs.YtgjialbmlhbngaaGreatDoor

/-
  A world that meets the list of a law on paths (a table, four errors, a pinned table) bears the four errors.
-/
namespace Go.Proofs.YtgjialbmlhbngaaGreatDoor
open Go Go.RowKit Go.Kf

end Go.Proofs.YtgjialbmlhbngaaGreatDoor

/-
  A world that meets a list of a table, the twelve errors and a pinned table, and the handle of errors.errorType, bears the program's errors.
-/
namespace Go.Proofs.YtgjialbmlhbngaaGreatDoor
open Go Go.RowKit Go.Kf

theorem errW_of_laid1 {W : World} {x : String × DataW Unit} {rest hs : List (String × DataW Unit)} (h : laidMet Tryz.prog (x :: (sentRows ++ rest)) W) (hh : handlesMet Tryz.prog hs W) (hin : ("errors.errorType", Rows.laid_errors_errorType) ∈ hs) : ∃ S, ErrW W S := by
  obtain ⟨x1, x2⟩ := x
  obtain ⟨ps, ⟨g, t, cs, fu, p, q, -, -, -, -, hv, rfl⟩, hnd, hrows⟩ := h
  exact errW_of_laid ⟨q, hv, (List.nodup_append.1 hnd).2.1, fun b off hb => hrows b off (List.mem_append_right _ hb)⟩ hh hin
end Go.Proofs.YtgjialbmlhbngaaGreatDoor

/-
  A world that meets a list of four tables, the twelve errors and a pinned table, and the handle of errors.errorType, bears the program's errors.
-/
namespace Go.Proofs.YtgjialbmlhbngaaGreatDoor
open Go Go.RowKit Go.Kf

theorem laidMet_tail {P : Program} {W : World} {x : String × DataW Unit} {l : List (String × DataW Unit)} (h : laidMet P (x :: l) W) : laidMet P l W := by
  obtain ⟨x1, x2⟩ := x
  obtain ⟨ps, ⟨g, t, cs, fu, p, q, -, -, -, -, hv, rfl⟩, hnd, hrows⟩ := h
  exact ⟨q, hv, (List.nodup_append.1 hnd).2.1, fun b off hb => hrows b off (List.mem_append_right _ hb)⟩
theorem errW_of_laid4 {W : World} {x y z u : String × DataW Unit} {rest hs : List (String × DataW Unit)} (h : laidMet Tryz.prog (x :: y :: z :: u :: (sentRows ++ rest)) W) (hh : handlesMet Tryz.prog hs W) (hin : ("errors.errorType", Rows.laid_errors_errorType) ∈ hs) : ∃ S, ErrW W S :=
  errW_of_laid1 (laidMet_tail (laidMet_tail (laidMet_tail h))) hh hin
/-- The blocks of the start that the pinned table does not take. -/
def blocks6 : List Nat := (List.range 45).filter fun k => k != 19
end Go.Proofs.YtgjialbmlhbngaaGreatDoor
