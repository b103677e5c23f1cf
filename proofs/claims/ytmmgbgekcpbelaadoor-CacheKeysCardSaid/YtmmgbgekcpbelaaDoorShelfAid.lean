/-
  Between the words of the library's contracts (Holds, putRow) and the rows that a call owns.
-/
import Derived.Test.YtmmgbgekcpbelaaDoorBase
import Derived.Sort.Row
namespace Go.Kf
open Go Go.RowKit Go.Sort

theorem holds_own {α : Type} [Inhabited α] {enc : α → Value} {w : World} {base e g n cap : Nat} {zs : List α} (h : w.ownsRow base e 1 (.slice (some ⟨g, 0, none⟩) n cap) n (zs.map enc)) : Holds enc w g 0 zs.toArray := by
  intro j hj
  have hl : zs.length = n := by have := h.1; simpa using this
  have hj' : j < zs.length := by simpa using hj
  refine ⟨?_, by rw [Nat.zero_add]; exact h.frozenAt j⟩
  rw [Nat.zero_add, h.cellAt j (by omega), List.getElem?_map, List.getElem?_eq_getElem hj']
  simp [hj']

theorem own_put {α : Type} [Inhabited α] {enc : α → Value} {w : World} {base e g n cap : Nat} {xs : List Value} (h : w.ownsRow base e 1 (.slice (some ⟨g, 0, none⟩) n cap) n xs) (zs : List α) (hz : zs.length = n) (q : Nat) :
    (putRow enc (Sort.ahead w q) g 0 zs.toArray).ownsRow base e 1 (.slice (some ⟨g, 0, none⟩) n cap) n (zs.map enc) ∧ w.grownBy (putRow enc (Sort.ahead w q) g 0 zs.toArray) (some g) := by
  obtain ⟨hl, h⟩ := h
  rcases h with ⟨h0, _⟩ | ⟨g', cap', cur, hv, hg, hh, hn, hcap, hsz, htake⟩
  · cases h0
  · cases hv
    have hb : (putRow enc (Sort.ahead w q) g 0 zs.toArray).heap[g]? = some (.cells (putCells enc 0 zs.toArray cur) e (0, 0)) := by
      simp only [putRow, mapBlock, Sort.ahead, Array.getElem?_modify, if_true, hh, Option.map_some, onCells]
    refine ⟨⟨by simp [hz], .inr ⟨g, cap, _, rfl, hg, hb, hn, hcap, by simp [putCells]; omega, ?_⟩⟩, ⟨rfl, rfl, rfl, by simp [putRow, mapBlock, Sort.ahead], fun k _ hk => ?_⟩⟩
    · apply List.ext_getElem?
      intro j
      rw [Nat.mul_one, List.getElem?_take, List.getElem?_map]
      by_cases hj : j < n
      · have hjc : j < cur.size := by omega
        simp [hj, putCells, hjc, hz]
      · simp [hj, hz]
    · simp only [putRow, mapBlock, Sort.ahead, Array.getElem?_modify]
      rw [if_neg (fun e => hk (by rw [e]))]
end Go.Kf
