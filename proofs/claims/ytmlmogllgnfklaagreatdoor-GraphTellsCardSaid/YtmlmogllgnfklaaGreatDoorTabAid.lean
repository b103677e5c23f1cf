/-
  A table that stands anywhere on a row's list.
-/
import Derived.Lib.LaidTab
import Derived.LaidMore
namespace Go.Kf
open Go Go.Lib

theorem tabIs_of_vars {P : Program} {W : World} {name : String} {k : IntKind} {zs : List Int} {g : Nat} {t e : TypeId} {n : Nat}
    (hg : P.globalNamed name = some g) (hty : (P.globals[g]?).map (·.type) = some t) (ht : P.underlying t = some (.array n e)) (he : P.underlying e = some (.int k)) (hce : P.cellsOf e = 1) (hct : P.cellsOf t = n) :
    ∀ (l : List (String × DataW Unit)) (ps : List MemPlace), DataW.LaidVars P W l ps → ∀ i : Nat, l[i]? = some (name, tabData k zs) → TabIs P W name k zs
  | [], _, _, i, hi => by simp at hi
  | x :: l, ps, h, i, hi => by
    obtain ⟨x1, x2⟩ := x
    obtain ⟨g', t', cs, fuel, p, q, hg', ht', hvar, hd, hr, rfl⟩ := h
    cases i with
    | zero =>
      simp only [List.getElem?_cons_zero, Option.some.injEq, Prod.mk.injEq] at hi
      obtain ⟨rfl, rfl⟩ := hi
      obtain rfl := Option.some.inj (hg.symm.trans hg')
      obtain rfl := Option.some.inj (hty.symm.trans ht')
      unfold TabIs
      rw [hvar, ← cells_of_tab ht he hce hct hd]
    | succ i => exact tabIs_of_vars hg hty ht he hce hct l q hr i (by simpa using hi)
theorem tabIs_of_laid {P : Program} {W : World} {name : String} {k : IntKind} {zs : List Int} {g : Nat} {t e : TypeId} {n : Nat}
    (hg : P.globalNamed name = some g) (hty : (P.globals[g]?).map (·.type) = some t) (ht : P.underlying t = some (.array n e)) (he : P.underlying e = some (.int k)) (hce : P.cellsOf e = 1) (hct : P.cellsOf t = n)
    {l : List (String × DataW Unit)} (h : laidMet P l W) (i : Nat) (hi : l[i]? = some (name, tabData k zs)) : TabIs P W name k zs := by
  obtain ⟨ps, hv, -⟩ := h
  exact tabIs_of_vars hg hty ht he hce hct l ps hv i hi
end Go.Kf
