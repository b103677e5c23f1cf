/-
  A world that meets a row's list (errors.errorType and the twelve sentinels, then whatever) bears the program's errors.
-/
import Derived.Test.YtpihjbfbnoepiaaGreatDoorPkK
import Derived.Test.YtpihjbfbnoepiaaGreatDoorRows
import Derived.LaidMore
import Derived.Test.YtpihjbfbnoepiaaGreatDoorPkB

namespace Go.Proofs.YtpihjbfbnoepiaaGreatDoor
open Go Go.RowKit Go.Kf

theorem eStar : "*" ++ "errors.errorString" = "*errors.errorString" := by decide
theorem eRow (u : TypeId) (h : Tryz.prog.typeName? 3 u = some "*errors.errorString") : u = 368 :=
  typeName_ptr_named (nm := "errors.errorString") (by rw [eStar]; kernel_rfl) (by kernel_rfl) (by decide) u (by rw [eStar]; exact h)
theorem eVar : Tryz.prog.globalNamed "errors.errorType" = some 12 := by kernel_rfl
theorem eRtype : (Tryz.prog.cutTypes.find? (·.1 == "internal/reflectlite.rtype")).map (·.2) = some 315 := by kernel_rfl
theorem eOneRow : ((List.range 398).filter fun t => Tryz.prog.rowNamed t [101, 114, 114, 111, 114]) = [33] := by kernel_rfl
theorem eTypes : Tryz.prog.types.size = 398 := by kernel_rfl
theorem eHandle : typeHandle Tryz.prog 33 = .pointer (some ⟨21, 33, none⟩) := by kernel_rfl

/-- The sentinels of the program: name, text, number. -/
def sents : List (String × List UInt8 × Nat) := [
  ("kilnfield/api.ErrText", [107, 105, 108, 110, 102, 105, 101, 108, 100, 58, 32, 116, 101, 120, 116], 10),
  ("kilnfield/api.ErrBound", [107, 105, 108, 110, 102, 105, 101, 108, 100, 58, 32, 98, 111, 117, 110, 100], 1),
  ("kilnfield/api.ErrShape", [107, 105, 108, 110, 102, 105, 101, 108, 100, 58, 32, 115, 104, 97, 112, 101], 4),
  ("kilnfield/api.ErrName", [107, 105, 108, 110, 102, 105, 101, 108, 100, 58, 32, 110, 97, 109, 101], 7),
  ("kilnfield/api.ErrKind", [107, 105, 108, 110, 102, 105, 101, 108, 100, 58, 32, 107, 105, 110, 100], 11),
  ("kilnfield/api.ErrNone", [107, 105, 108, 110, 102, 105, 101, 108, 100, 58, 32, 110, 111, 110, 101], 0),
  ("kilnfield/api.ErrExist", [107, 105, 108, 110, 102, 105, 101, 108, 100, 58, 32, 101, 120, 105, 115, 116], 2),
  ("kilnfield/api.ErrFull", [107, 105, 108, 110, 102, 105, 101, 108, 100, 58, 32, 102, 117, 108, 108], 3),
  ("kilnfield/api.ErrCycle", [107, 105, 108, 110, 102, 105, 101, 108, 100, 58, 32, 99, 121, 99, 108, 101], 8),
  ("kilnfield/api.ErrLong", [107, 105, 108, 110, 102, 105, 101, 108, 100, 58, 32, 108, 111, 110, 103], 9),
  ("kilnfield/api.ErrTurn", [107, 105, 108, 110, 102, 105, 101, 108, 100, 58, 32, 116, 117, 114, 110], 6),
  ("kilnfield/api.ErrDone", [107, 105, 108, 110, 102, 105, 101, 108, 100, 58, 32, 100, 111, 110, 101], 5)]
theorem sents_at : ∀ k, k < 12 → ∃ s, sents[k]? = some s ∧ s.2.2 = sentG k
  | 0, _ => ⟨_, rfl, rfl⟩ | 1, _ => ⟨_, rfl, rfl⟩ | 2, _ => ⟨_, rfl, rfl⟩ | 3, _ => ⟨_, rfl, rfl⟩ | 4, _ => ⟨_, rfl, rfl⟩ | 5, _ => ⟨_, rfl, rfl⟩
  | 6, _ => ⟨_, rfl, rfl⟩ | 7, _ => ⟨_, rfl, rfl⟩ | 8, _ => ⟨_, rfl, rfl⟩ | 9, _ => ⟨_, rfl, rfl⟩ | 10, _ => ⟨_, rfl, rfl⟩ | 11, _ => ⟨_, rfl, rfl⟩
  | n + 12, h => by omega
theorem sents_named : ∀ s ∈ sents, Tryz.prog.globalNamed s.1 = some s.2.2 ∧ (Tryz.prog.globals[s.2.2]?).map (·.type) = some 33 := by
  have h : (sents.all fun s => Tryz.prog.globalNamed s.1 == some s.2.2 && (Tryz.prog.globals[s.2.2]?).map (·.type) == some 33) = true := by kernel_rfl
  intro s hs
  have := List.all_eq_true.1 h s hs
  simpa using this
def sentRows : List (String × DataW Unit) := sents.map fun s => (s.1, .iface "*errors.errorString" (.ptr (.agg [.lit (.string s.2.1)])))

theorem errW_of_laid {W : World} {rest hs : List (String × DataW Unit)} (h : laidMet Tryz.prog (sentRows ++ rest) W) (hh : handlesMet Tryz.prog hs W) (hin : ("errors.errorType", Rows.laid_errors_errorType) ∈ hs) : ∃ S, ErrW W S := by
  have ht : ErrType W := by
    obtain ⟨name, u, ty, e1, e2, e3, e4, e5⟩ := hh _ hin
    have en : name = [101, 114, 114, 111, 114] := (Option.some.inj e1).symm
    subst en
    obtain rfl := Option.some.inj (eRtype.symm.trans e2)
    have hm : ty ∈ (List.range 398).filter fun t => Tryz.prog.rowNamed t [101, 114, 114, 111, 114] := List.mem_filter.2 ⟨List.mem_range.2 (by rw [← eTypes]; exact e3), e4⟩
    rw [eOneRow] at hm
    obtain rfl := List.mem_singleton.1 hm
    rw [eHandle] at e5
    unfold ErrType
    simpa using World.var?_cell eVar e5 0
  obtain ⟨ps, hv, hnd, hrows⟩ := h
  obtain ⟨az, hlen, hnod, hin, hall⟩ := laid_sentinels Tryz.underlying33 eRow Tryz.underlying368 Tryz.underlying370 rfl rfl Tryz.underlying9 (by kernel_rfl) (by kernel_rfl) rest sents ps hv sents_named hnd hrows
  have hl : az.length = 12 := hlen
  have hat : ∀ k, k < 12 → az[k]? = some (az.getD k ⟨0, 0, none⟩) := fun k hk => by
    rw [List.getD_eq_getElem?_getD, List.getElem?_eq_getElem (by omega)]
    rfl
  refine ⟨fun k => az.getD k ⟨0, 0, none⟩, ht, lt_of_cell ht, fun k hk => ?_, fun k hk => ?_, fun i j hi hj e => ?_⟩
  · obtain ⟨s, h1, h2⟩ := sents_at k hk
    have := hall k s _ h1 (hat k hk)
    rwa [h2] at this
  · exact (hrows _ _ (hin _ (List.mem_of_getElem? (hat k hk)))).1
  · have h1 := hat i hi
    have h2 := hat j hj
    rw [show az.getD i ⟨0, 0, none⟩ = az.getD j ⟨0, 0, none⟩ from e, ← h2] at h1
    exact (List.getElem?_inj (by omega : i < az.length) hnod).1 h1
end Go.Proofs.YtpihjbfbnoepiaaGreatDoor

/-
  A world that meets the list of a law on paths (a table, four errors, a pinned table) bears the four errors.
-/
namespace Go.Proofs.YtpihjbfbnoepiaaGreatDoor
open Go Go.RowKit Go.Kf

/-- The four errors: name, text, number of the variable. -/
def sents4 : List (String × List UInt8 × Nat) := [
  ("kilnfield/api.ErrBound", [107, 105, 108, 110, 102, 105, 101, 108, 100, 58, 32, 98, 111, 117, 110, 100], 1),
  ("kilnfield/api.ErrShape", [107, 105, 108, 110, 102, 105, 101, 108, 100, 58, 32, 115, 104, 97, 112, 101], 4),
  ("kilnfield/api.ErrName", [107, 105, 108, 110, 102, 105, 101, 108, 100, 58, 32, 110, 97, 109, 101], 7),
  ("kilnfield/api.ErrNone", [107, 105, 108, 110, 102, 105, 101, 108, 100, 58, 32, 110, 111, 110, 101], 0)]
theorem sents4_named : ∀ s ∈ sents4, Tryz.prog.globalNamed s.1 = some s.2.2 ∧ (Tryz.prog.globals[s.2.2]?).map (·.type) = some 33 := by
  have h : (sents4.all fun s => Tryz.prog.globalNamed s.1 == some s.2.2 && (Tryz.prog.globals[s.2.2]?).map (·.type) == some 33) = true := by kernel_rfl
  intro s hs
  have := List.all_eq_true.1 h s hs
  simpa using this
def sentRows4 : List (String × DataW Unit) := sents4.map fun s => (s.1, .iface "*errors.errorString" (.ptr (.agg [.lit (.string s.2.1)])))

theorem pErr_of_laid {W : World} {x : String × DataW Unit} {rest : List (String × DataW Unit)} (h : laidMet Tryz.prog (x :: (sentRows4 ++ rest)) W) : ∃ S, PErr W S := by
  obtain ⟨x1, x2⟩ := x
  obtain ⟨ps, ⟨g, t, cs, fu, p, q, -, -, -, -, hv, rfl⟩, hnd, hrows⟩ := h
  obtain ⟨az, hlen, hnod, hin, hall⟩ := laid_sentinels Tryz.underlying33 eRow Tryz.underlying368 Tryz.underlying370 rfl rfl Tryz.underlying9 (by kernel_rfl) (by kernel_rfl) rest sents4 q hv sents4_named (List.nodup_append.1 hnd).2.1 (fun b off hb => hrows b off (List.mem_append_right _ hb))
  have hl : az.length = 4 := hlen
  have hat : ∀ k, k < 4 → az[k]? = some (az.getD k ⟨0, 0, none⟩) := fun k hk => by
    rw [List.getD_eq_getElem?_getD, List.getElem?_eq_getElem (by omega)]
    rfl
  refine ⟨fun k => if k = 5 then az.getD 3 ⟨0, 0, none⟩ else az.getD (k - 1) ⟨0, 0, none⟩, ?_, ?_, ?_, ?_⟩
  · exact hall 0 _ _ rfl (hat 0 (by decide))
  · exact hall 1 _ _ rfl (hat 1 (by decide))
  · exact hall 2 _ _ rfl (hat 2 (by decide))
  · exact hall 3 _ _ rfl (hat 3 (by decide))
/-- MaxLen, of a world of the program's shape. -/
theorem ml_of_shape {W : World} (h : World.ShapedOpen Tryz.prog W) : Ml W := Tryz.laysM146.s1_3 W h
end Go.Proofs.YtpihjbfbnoepiaaGreatDoor

/-
  A world that meets a list of a table, the twelve errors and a pinned table, and the handle of errors.errorType, bears the program's errors.
-/
namespace Go.Proofs.YtpihjbfbnoepiaaGreatDoor
open Go Go.RowKit Go.Kf

theorem errW_of_laid1 {W : World} {x : String × DataW Unit} {rest hs : List (String × DataW Unit)} (h : laidMet Tryz.prog (x :: (sentRows ++ rest)) W) (hh : handlesMet Tryz.prog hs W) (hin : ("errors.errorType", Rows.laid_errors_errorType) ∈ hs) : ∃ S, ErrW W S := by
  obtain ⟨x1, x2⟩ := x
  obtain ⟨ps, ⟨g, t, cs, fu, p, q, -, -, -, -, hv, rfl⟩, hnd, hrows⟩ := h
  exact errW_of_laid ⟨q, hv, (List.nodup_append.1 hnd).2.1, fun b off hb => hrows b off (List.mem_append_right _ hb)⟩ hh hin
/-- The blocks of the start that the pinned table does not take. -/
def blocks5 : List Nat := [0, 1, 2, 3, 4, 5, 6, 7, 8, 9, 10, 11, 12, 14, 15, 16, 17, 18, 19, 20, 21, 22, 23, 24, 25, 26, 27, 28, 29, 30, 31, 32, 33, 34, 35]
end Go.Proofs.YtpihjbfbnoepiaaGreatDoor

/-
  A world that meets a list of four tables, the twelve errors and a pinned table, and the handle of errors.errorType, bears the program's errors.
-/
namespace Go.Proofs.YtpihjbfbnoepiaaGreatDoor
open Go Go.RowKit Go.Kf

theorem laidMet_tail {P : Program} {W : World} {x : String × DataW Unit} {l : List (String × DataW Unit)} (h : laidMet P (x :: l) W) : laidMet P l W := by
  obtain ⟨x1, x2⟩ := x
  obtain ⟨ps, ⟨g, t, cs, fu, p, q, -, -, -, -, hv, rfl⟩, hnd, hrows⟩ := h
  exact ⟨q, hv, (List.nodup_append.1 hnd).2.1, fun b off hb => hrows b off (List.mem_append_right _ hb)⟩
theorem errW_of_laid4 {W : World} {x y z u : String × DataW Unit} {rest hs : List (String × DataW Unit)} (h : laidMet Tryz.prog (x :: y :: z :: u :: (sentRows ++ rest)) W) (hh : handlesMet Tryz.prog hs W) (hin : ("errors.errorType", Rows.laid_errors_errorType) ∈ hs) : ∃ S, ErrW W S :=
  errW_of_laid1 (laidMet_tail (laidMet_tail (laidMet_tail h))) hh hin
/-- The blocks of the start that the pinned table does not take. -/
def blocks6 : List Nat := (List.range 40).filter fun k => k != 19
end Go.Proofs.YtpihjbfbnoepiaaGreatDoor
