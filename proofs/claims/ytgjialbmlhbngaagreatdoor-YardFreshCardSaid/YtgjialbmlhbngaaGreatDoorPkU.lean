/-
  Rules that came in as an argument. Files as an argument. A table that stands anywhere on a row's list. Numbers as an argument.
-/
import Derived.Test.YtgjialbmlhbngaaGreatDoorPkB
import Derived.Test.YtgjialbmlhbngaaGreatDoorPkF
import Derived.ProofKit
import Derived.Test.YtgjialbmlhbngaaGreatDoorPkP
import Derived.Lib.LaidTab
import Derived.LaidMore
import Derived.ChangeSlices

namespace Go.Proofs.YtgjialbmlhbngaaGreatDoor
open Go Go.ChangeShapes Go.WideShapes Go.ChangeAt Go.RowKit Go.Kf

theorem four_of {α : Type} (l : List α) (h : l.length = 4) : ∃ a b c d, l = [a, b, c, d] := by
  match l, h with
  | [a, b, c, d], _ => exact ⟨a, b, c, d, rfl⟩
theorem nil_or {H : Type} {enc : TypeId × Value → H} {w : World} {v : Value} {fuel : Nat} {x : DataW H × List MemPlace} (h : DataW.trod enc Tryz.prog w 0 (fun _ => true) true fuel 33 [v] = some x) : NilOr v := by
  rcases Deep.open_slice Tryz.underlying33 h with ⟨h0, -⟩ | ⟨a, len, cap, m, n, D, Pl, h0, -⟩
  · simp only [List.cons.injEq, and_true] at h0
    exact Or.inl h0
  · simp only [List.cons.injEq, and_true] at h0
    exact Or.inr ⟨_, _, _, h0⟩
/-- A rule that came in. -/
abbrev InR (W : World) : Type := {x : RV // Reads W x.2 (x.1.ins.map str) ∧ NilOr x.2}
instance (W : World) : Inhabited (InR W) := ⟨⟨(⟨[], [], [], []⟩, .slice none 0 0), ⟨none, 0, rfl, by simp, fun i u hi => (by cases hi)⟩, Or.inl rfl⟩⟩
theorem trod_struct4 {H : Type} {enc : TypeId × Value → H} {P : Program} {w : World} {t : TypeId} {f0 f1 f2 f3 : Field} {fuel : Nat} {cs : List Value} {x : DataW H × List MemPlace} (ht : P.underlying t = some (.struct #[f0, f1, f2, f3])) (h : DataW.trod enc P w 0 (fun _ => true) true fuel t cs = some x) :
    ∃ y0 y1 y2 y3 n, cs.length = P.cellsOf t ∧ DataW.trod enc P w 0 (fun _ => true) true n f0.type ((cs.drop f0.offset).take (P.cellsOf f0.type)) = some y0 ∧ DataW.trod enc P w 0 (fun _ => true) true n f1.type ((cs.drop f1.offset).take (P.cellsOf f1.type)) = some y1 ∧
      DataW.trod enc P w 0 (fun _ => true) true n f2.type ((cs.drop f2.offset).take (P.cellsOf f2.type)) = some y2 ∧ DataW.trod enc P w 0 (fun _ => true) true n f3.type ((cs.drop f3.offset).take (P.cellsOf f3.type)) = some y3 := by
  obtain ⟨xs, n, _, rfl, hl, hlen, hf⟩ := DataW.trod_struct ht h
  match xs, hlen with
  | [y0, y1, y2, y3], _ => exact ⟨y0, y1, y2, y3, n, hl, by simpa using hf 0 f0 rfl, by simpa using hf 1 f1 rfl, by simpa using hf 2 f2 rfl, by simpa using hf 3 f3 rfl⟩
theorem ruleOpen {H : Type} (enc : TypeId × Value → H) (W : World) (m : Nat) (cs : List Value) (y : DataW H × List MemPlace) (h : DataW.trod enc Tryz.prog W 0 (fun _ => true) true m 35 cs = some y) : ∃ z : InR W, cs = rvRow z.1 := by
  obtain ⟨y0, y1, y2, y3, n, hl, h0, h1, h2, h3⟩ := trod_struct4 Tryz.underlying35 h
  rw [show Tryz.prog.cellsOf 35 = 4 by kernel_rfl] at hl
  obtain ⟨c0, c1, c2, c3, rfl⟩ := four_of cs hl
  obtain ⟨o, e0, -⟩ := DataW.trod_string Tryz.underlying9 h0
  obtain ⟨k, e1, -⟩ := DataW.trod_string Tryz.underlying9 h1
  obtain ⟨s, e2, -⟩ := DataW.trod_string Tryz.underlying9 h2
  rw [show Tryz.prog.cellsOf 9 = 1 by kernel_rfl] at e0 e1 e2
  simp at e0 e1 e2
  have h3' : DataW.trod enc Tryz.prog W 0 (fun _ => true) true n 33 [c3] = some y3 := by
    have e : ([c0, c1, c2, c3].drop 3).take (Tryz.prog.cellsOf 33) = [c3] := by
      rw [show Tryz.prog.cellsOf 33 = 1 by kernel_rfl]
      rfl
    rw [e] at h3
    exact h3
  obtain ⟨l, hrd⟩ := reads_open Tryz.underlying33 Tryz.underlying9 (by kernel_rfl) h3'
  exact ⟨⟨(⟨o.data.toList, k.data.toList, s.data.toList, l⟩, c3), hrd, nil_or h3'⟩, by simp [rvRow, e0, e1, e2]⟩
/-- A slice of rules that came in. -/
theorem rules_open {H : Type} {enc : TypeId × Value → H} {W : World} {v : Value} {fuel : Nat} {x : DataW H × List MemPlace} (h : DataW.trod enc Tryz.prog W 0 (fun _ => true) true fuel 22 [v] = some x) :
    ∃ R : List RV, ReadsK 4 W v (R.map rvRow) ∧ ∀ y ∈ R, Reads W y.2 (y.1.ins.map str) ∧ NilOr y.2 := by
  obtain ⟨zs, hr⟩ := readsK_open (α := InR W) (s := 4) Tryz.underlying22 (by kernel_rfl) (by decide) h (fun z => rvRow z.1) (ruleOpen enc W)
  refine ⟨zs.map Subtype.val, ?_, fun y hy => ?_⟩
  · rw [List.map_map]
    exact hr
  · obtain ⟨z, -, rfl⟩ := List.mem_map.1 hy
    exact z.2
end Go.Proofs.YtgjialbmlhbngaaGreatDoor

namespace Go.Proofs.YtgjialbmlhbngaaGreatDoor
open Go Go.ChangeShapes Go.WideShapes Go.ChangeAt Go.RowKit Go.Kf

theorem two_of {α : Type} (l : List α) (h : l.length = 2) : ∃ a b, l = [a, b] := by
  match l, h with
  | [a, b], _ => exact ⟨a, b, rfl⟩
set_option maxRecDepth 100000 in
theorem fileOpen {H : Type} (enc : TypeId × Value → H) (W : World) (m : Nat) (cs : List Value) (y : DataW H × List MemPlace) (h : DataW.trod enc Tryz.prog W 0 (fun _ => true) true m 39 cs = some y) : ∃ z : Ent, cs = fileRow z := by
  obtain ⟨y0, y1, n, -, hl, h0, h1⟩ := Go.ChangeShapes.trod_struct2 Tryz.underlying39 h
  rw [show Tryz.prog.cellsOf 39 = 2 by kernel_rfl] at hl
  obtain ⟨c0, c1, rfl⟩ := two_of cs hl
  obtain ⟨b, e0, -⟩ := DataW.trod_string Tryz.underlying9 h0
  obtain ⟨k, e1, -⟩ := DataW.trod_string Tryz.underlying9 h1
  rw [show Tryz.prog.cellsOf 9 = 1 by kernel_rfl] at e0 e1
  simp at e0 e1
  exact ⟨(b.data.toList, k.data.toList), by simp [fileRow, e0, e1]⟩
theorem files_open {H : Type} {enc : TypeId × Value → H} {W : World} {v : Value} {fuel : Nat} {x : DataW H × List MemPlace} (h : DataW.trod enc Tryz.prog W 0 (fun _ => true) true fuel 37 [v] = some x) :
    ∃ fs : List Ent, ReadsK 2 W v (fs.map fileRow) :=
  readsK_open (α := Ent) (s := 2) Tryz.underlying37 (by kernel_rfl) (by decide) h fileRow (fileOpen enc W)
end Go.Proofs.YtgjialbmlhbngaaGreatDoor

namespace Go.Kf
open Go Go.Lib

theorem tabIs_of_vars {P : Program} {W : World} {name : String} {k : IntKind} {zs : List Int} {g : Nat} {t e : TypeId} {n : Nat}
    (hg : P.globalNamed name = some g) (hty : (P.globals[g]?).map (·.type) = some t) (ht : P.underlying t = some (.array n e)) (he : P.underlying e = some (.int k)) (hce : P.cellsOf e = 1) (hct : P.cellsOf t = n) :
    ∀ (l : List (String × DataW Unit)) (ps : List MemPlace), DataW.LaidVars P W l ps → ∀ i : Nat, l[i]? = some (name, tabData k zs) → TabIs P W name k zs
  | [], _, _, i, hi => by simp at hi
  | x :: l, ps, h, i, hi => by
    obtain ⟨x1, x2⟩ := x
    obtain ⟨g', t', cs, fuel, p, q, hg', ht', hvar, hd, hr, rfl⟩ := h
    cases i with
    | zero =>
      simp only [List.getElem?_cons_zero, Option.some.injEq, Prod.mk.injEq] at hi
      obtain ⟨rfl, rfl⟩ := hi
      obtain rfl := Option.some.inj (hg.symm.trans hg')
      obtain rfl := Option.some.inj (hty.symm.trans ht')
      unfold TabIs
      rw [hvar, ← cells_of_tab ht he hce hct hd]
    | succ i => exact tabIs_of_vars hg hty ht he hce hct l q hr i (by simpa using hi)
theorem tabIs_of_laid {P : Program} {W : World} {name : String} {k : IntKind} {zs : List Int} {g : Nat} {t e : TypeId} {n : Nat}
    (hg : P.globalNamed name = some g) (hty : (P.globals[g]?).map (·.type) = some t) (ht : P.underlying t = some (.array n e)) (he : P.underlying e = some (.int k)) (hce : P.cellsOf e = 1) (hct : P.cellsOf t = n)
    {l : List (String × DataW Unit)} (h : laidMet P l W) (i : Nat) (hi : l[i]? = some (name, tabData k zs)) : TabIs P W name k zs := by
  obtain ⟨ps, hv, -⟩ := h
  exact tabIs_of_vars hg hty ht he hce hct l ps hv i hi
end Go.Kf

namespace Go.Proofs.YtgjialbmlhbngaaGreatDoor
open Go Go.ChangeShapes Go.WideShapes Go.ChangeAt Go.RowKit Go.Kf

end Go.Proofs.YtgjialbmlhbngaaGreatDoor
