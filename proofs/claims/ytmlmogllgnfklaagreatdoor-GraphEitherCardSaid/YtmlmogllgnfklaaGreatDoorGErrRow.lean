/-
  A world that meets the list of a law on rules (four tables, the errors, then whatever) bears the errors.
-/
import Derived.Test.YtmlmogllgnfklaaGreatDoorGAid
import Derived.Test.YtmlmogllgnfklaaGreatDoorErrLaid
import Derived.Test.YtmlmogllgnfklaaGreatDoorRows
import Derived.LaidMore
namespace Go.Proofs.YtmlmogllgnfklaaGreatDoor
open Go Go.RowKit Go.Kf

theorem eRowG (u : TypeId) (h : Tryz.prog.typeName? 3 u = some "*errors.errorString") : u = 252 := by
  have e : "*" ++ "errors.errorString" = "*errors.errorString" := by decide
  exact typeName_ptr_named (nm := "errors.errorString") (by rw [e]; kernel_rfl) (by kernel_rfl) (by decide) u (by rw [e]; exact h)
theorem laidMet_tl {P : Program} {W : World} {x : String × DataW Unit} {l : List (String × DataW Unit)} (h : laidMet P (x :: l) W) : laidMet P l W := by
  obtain ⟨x1, x2⟩ := x
  obtain ⟨ps, ⟨g, t, cs, fu, p, q, -, -, -, -, hv, rfl⟩, hnd, hrows⟩ := h
  exact ⟨q, hv, (List.nodup_append.1 hnd).2.1, fun b off hb => hrows b off (List.mem_append_right _ hb)⟩

/-- The errors: name, text, number of the variable. -/
def sentsG : List (String × List UInt8 × Nat) := [
  ("kilnfield/api.ErrBound", [107, 105, 108, 110, 102, 105, 101, 108, 100, 58, 32, 98, 111, 117, 110, 100], 2),
  ("kilnfield/api.ErrShape", [107, 105, 108, 110, 102, 105, 101, 108, 100, 58, 32, 115, 104, 97, 112, 101], 5),
  ("kilnfield/api.ErrName", [107, 105, 108, 110, 102, 105, 101, 108, 100, 58, 32, 110, 97, 109, 101], 6),
  ("kilnfield/api.ErrKind", [107, 105, 108, 110, 102, 105, 101, 108, 100, 58, 32, 107, 105, 110, 100], 7),
  ("kilnfield/api.ErrNone", [107, 105, 108, 110, 102, 105, 101, 108, 100, 58, 32, 110, 111, 110, 101], 0),
  ("kilnfield/api.ErrExist", [107, 105, 108, 110, 102, 105, 101, 108, 100, 58, 32, 101, 120, 105, 115, 116], 3),
  ("kilnfield/api.ErrCycle", [107, 105, 108, 110, 102, 105, 101, 108, 100, 58, 32, 99, 121, 99, 108, 101], 1),
  ("kilnfield/api.ErrLong", [107, 105, 108, 110, 102, 105, 101, 108, 100, 58, 32, 108, 111, 110, 103], 9),
  ("strconv.ErrRange", [118, 97, 108, 117, 101, 32, 111, 117, 116, 32, 111, 102, 32, 114, 97, 110, 103, 101], 17),
  ("strconv.ErrSyntax", [105, 110, 118, 97, 108, 105, 100, 32, 115, 121, 110, 116, 97, 120], 16)]
theorem sentsG_named : ∀ s ∈ sentsG, Tryz.prog.globalNamed s.1 = some s.2.2 ∧ (Tryz.prog.globals[s.2.2]?).map (·.type) = some 30 := by
  have h : (sentsG.all fun s => Tryz.prog.globalNamed s.1 == some s.2.2 && (Tryz.prog.globals[s.2.2]?).map (·.type) == some 30) = true := by kernel_rfl
  intro s hs
  have := List.all_eq_true.1 h s hs
  simpa using this
def sentRowsG : List (String × DataW Unit) := sentsG.map fun s => (s.1, .iface "*errors.errorString" (.ptr (.agg [.lit (.string s.2.1)])))

theorem errs_of_laidG {W : World} {x y z u : String × DataW Unit} {rest : List (String × DataW Unit)} (h : laidMet Tryz.prog (x :: y :: z :: u :: (sentRowsG ++ rest)) W) : ∃ S, KErr W S ∧ LErr W S ∧ NErr W := by
  obtain ⟨q, hv, hnd, hrows⟩ := laidMet_tl (laidMet_tl (laidMet_tl (laidMet_tl h)))
  obtain ⟨az, hlen, hnod, hin, hall⟩ := laid_sentinels Tryz.underlying30 eRowG Tryz.underlying252 Tryz.underlying254 rfl rfl Tryz.underlying9 (by kernel_rfl) (by kernel_rfl) rest sentsG q hv sentsG_named hnd hrows
  have hl : az.length = 10 := hlen
  have hat : ∀ k, k < 10 → az[k]? = some (az.getD k ⟨0, 0, none⟩) := fun k hk => by
    rw [List.getD_eq_getElem?_getD, List.getElem?_eq_getElem (by omega)]
    rfl
  exact ⟨fun k => if k ≤ 6 then az.getD (k - 1) ⟨0, 0, none⟩ else az.getD (k - 2) ⟨0, 0, none⟩, ⟨hall 0 _ _ rfl (hat 0 (by decide)), hall 1 _ _ rfl (hat 1 (by decide)), hall 2 _ _ rfl (hat 2 (by decide)), hall 3 _ _ rfl (hat 3 (by decide)), hall 5 _ _ rfl (hat 5 (by decide)), hall 6 _ _ rfl (hat 6 (by decide)), hall 7 _ _ rfl (hat 7 (by decide))⟩, hall 4 _ _ rfl (hat 4 (by decide)), ⟨⟨_, _, hall 9 _ _ rfl (hat 9 (by decide))⟩, ⟨_, _, hall 8 _ _ rfl (hat 8 (by decide))⟩⟩⟩

/-- The errors: name, text, number of the variable. -/
def sentsH : List (String × List UInt8 × Nat) := [
  ("kilnfield/api.ErrBound", [107, 105, 108, 110, 102, 105, 101, 108, 100, 58, 32, 98, 111, 117, 110, 100], 2),
  ("kilnfield/api.ErrShape", [107, 105, 108, 110, 102, 105, 101, 108, 100, 58, 32, 115, 104, 97, 112, 101], 5),
  ("kilnfield/api.ErrName", [107, 105, 108, 110, 102, 105, 101, 108, 100, 58, 32, 110, 97, 109, 101], 6),
  ("kilnfield/api.ErrKind", [107, 105, 108, 110, 102, 105, 101, 108, 100, 58, 32, 107, 105, 110, 100], 7),
  ("kilnfield/api.ErrExist", [107, 105, 108, 110, 102, 105, 101, 108, 100, 58, 32, 101, 120, 105, 115, 116], 3),
  ("kilnfield/api.ErrCycle", [107, 105, 108, 110, 102, 105, 101, 108, 100, 58, 32, 99, 121, 99, 108, 101], 1),
  ("kilnfield/api.ErrLong", [107, 105, 108, 110, 102, 105, 101, 108, 100, 58, 32, 108, 111, 110, 103], 9),
  ("strconv.ErrRange", [118, 97, 108, 117, 101, 32, 111, 117, 116, 32, 111, 102, 32, 114, 97, 110, 103, 101], 17),
  ("strconv.ErrSyntax", [105, 110, 118, 97, 108, 105, 100, 32, 115, 121, 110, 116, 97, 120], 16)]
theorem sentsH_named : ∀ s ∈ sentsH, Tryz.prog.globalNamed s.1 = some s.2.2 ∧ (Tryz.prog.globals[s.2.2]?).map (·.type) = some 30 := by
  have h : (sentsH.all fun s => Tryz.prog.globalNamed s.1 == some s.2.2 && (Tryz.prog.globals[s.2.2]?).map (·.type) == some 30) = true := by kernel_rfl
  intro s hs
  have := List.all_eq_true.1 h s hs
  simpa using this
def sentRowsH : List (String × DataW Unit) := sentsH.map fun s => (s.1, .iface "*errors.errorString" (.ptr (.agg [.lit (.string s.2.1)])))

theorem errs_of_laidH {W : World} {x y z u : String × DataW Unit} {rest : List (String × DataW Unit)} (h : laidMet Tryz.prog (x :: y :: z :: u :: (sentRowsH ++ rest)) W) : ∃ S, KErr W S ∧ NErr W := by
  obtain ⟨q, hv, hnd, hrows⟩ := laidMet_tl (laidMet_tl (laidMet_tl (laidMet_tl h)))
  obtain ⟨az, hlen, hnod, hin, hall⟩ := laid_sentinels Tryz.underlying30 eRowG Tryz.underlying252 Tryz.underlying254 rfl rfl Tryz.underlying9 (by kernel_rfl) (by kernel_rfl) rest sentsH q hv sentsH_named hnd hrows
  have hl : az.length = 9 := hlen
  have hat : ∀ k, k < 9 → az[k]? = some (az.getD k ⟨0, 0, none⟩) := fun k hk => by
    rw [List.getD_eq_getElem?_getD, List.getElem?_eq_getElem (by omega)]
    rfl
  exact ⟨fun k => if k ≤ 4 then az.getD (k - 1) ⟨0, 0, none⟩ else if k ≤ 6 then az.getD (k - 2) ⟨0, 0, none⟩ else az.getD (k - 3) ⟨0, 0, none⟩, ⟨hall 0 _ _ rfl (hat 0 (by decide)), hall 1 _ _ rfl (hat 1 (by decide)), hall 2 _ _ rfl (hat 2 (by decide)), hall 3 _ _ rfl (hat 3 (by decide)), hall 4 _ _ rfl (hat 4 (by decide)), hall 5 _ _ rfl (hat 5 (by decide)), hall 6 _ _ rfl (hat 6 (by decide))⟩, ⟨⟨_, _, hall 8 _ _ rfl (hat 8 (by decide))⟩, ⟨_, _, hall 7 _ _ rfl (hat 7 (by decide))⟩⟩⟩
end Go.Proofs.YtmlmogllgnfklaaGreatDoor
