/-
  Cycle or order, in plain words.
-/
import Derived.Test.YtmlmogllgnfklaaGreatDoorGraphP
import Derived.Test.YtmlmogllgnfklaaGreatDoorGAid
namespace Go.Proofs.YtmlmogllgnfklaaGreatDoor
open Go Go.RowKit Go.Kf Go.Sort Go.Proofs

/-- What Cycle answers: the first rule that reaches itself, and the way back. -/
def CycR (l : List RuleL) (c : List Nat) : Prop :=
  (∃ i f, i < l.length ∧ FarAt (edgesB l) l.length i f ∧ 0 < fa f i ∧ (∀ j, j < i → ¬ Plus (edgesB l) j j) ∧ c = cycL (edgesB l) f i) ∨ (c = [] ∧ ∀ j, j < l.length → ¬ Plus (edgesB l) j j)
theorem edges_need {l : List RuleL} {i k : Nat} (h : k ∈ edgesB l i) : k < l.length ∧ needB l i k = true := by
  obtain ⟨h1, h2⟩ := List.mem_filter.1 h
  exact ⟨List.mem_range.1 h1, h2⟩
theorem need_edges {l : List RuleL} {i k : Nat} (hk : k < l.length) (h : needB l i k = true) : k ∈ edgesB l i := List.mem_filter.2 ⟨List.mem_range.2 hk, h⟩
theorem cycL_len (E : Nat → List Nat) (f : List Int) (i : Nat) : (cycL E f i).length = (fa f i).toNat := by simp [cycL]
theorem cycL_at (E : Nat → List Nat) (f : List Int) (i : Nat) {t : Nat} (h : t < (cycL E f i).length) : (cycL E f i)[t] = cycA E f i t := by simp [cycL]
theorem cyc_ok {l : List RuleL} {c : List Nat} (h : CycR l c) {t : Nat} (ht : t < c.length) : ∃ h2 : (t + 1) % c.length < c.length, c[t] < l.length ∧ c[(t + 1) % c.length] < l.length ∧ needB l c[t] c[(t + 1) % c.length] = true := by
  rcases h with ⟨i, f, hi, hf, hp, -, rfl⟩ | ⟨rfl, -⟩
  · have hm : (t + 1) % (cycL (edgesB l) f i).length < (cycL (edgesB l) f i).length := Nat.mod_lt _ (by omega)
    have hl := cycL_len (edgesB l) f i
    have hlt : ∀ t, t < (cycL (edgesB l) f i).length → cycA (edgesB l) f i t < l.length := fun t ht => by
      cases t with
      | zero => exact hi
      | succ t => exact edges_lt l _ _ (hf.cyc_step hp (t := t) (by omega)).2
    have hstep : cycA (edgesB l) f i ((t + 1) % (cycL (edgesB l) f i).length) ∈ edgesB l (cycA (edgesB l) f i t) := by
      by_cases hlast : t + 1 = (cycL (edgesB l) f i).length
      · rw [hlast, Nat.mod_self]
        exact hf.cyc_last (t := t) (by omega)
      · rw [Nat.mod_eq_of_lt (by omega)]
        exact (hf.cyc_step hp (t := t) (by omega)).2
    refine ⟨hm, ?_, ?_, ?_⟩
    · rw [cycL_at]; exact hlt t ht
    · rw [cycL_at]; exact hlt _ hm
    · rw [cycL_at, cycL_at]; exact (edges_need hstep).2
  · simp at ht
theorem cyc_len {l : List RuleL} {c : List Nat} (h : CycR l c) : c.length ≤ l.length := by
  rcases h with ⟨i, f, hi, hf, hp, -, rfl⟩ | ⟨rfl, -⟩
  · rw [cycL_len]
    rcases hf.range i with h1 | h1 <;> omega
  · simp
/-- No order: a cycle. -/
theorem cyc_some {l : List RuleL} {c : List Nat} (h : CycR l c) (ho : orderB (edgesB l) (fun _ => true) l.length = none) : 0 < c.length := by
  obtain ⟨i, hi, hp⟩ := order_none (edges_lt l) ho
  rcases h with ⟨j, f, hj, hf, hpos, -, rfl⟩ | ⟨rfl, hno⟩
  · rw [cycL_len]; omega
  · exact absurd hp (hno i hi)
/-- An order: no cycle. -/
theorem cyc_none {l : List RuleL} {c o : List Nat} (h : CycR l c) (ho : orderB (edgesB l) (fun _ => true) l.length = some o) : c = [] := by
  obtain ⟨h1, h2⟩ := order_some ho
  rcases h with ⟨j, f, hj, hf, hpos, -, rfl⟩ | ⟨rfl, -⟩
  · obtain ⟨d, hd⟩ : ∃ d : Nat, fa f j = (d : Int) + 1 := ⟨(fa f j - 1).toNat, by omega⟩
    exact absurd (hf.plus d j hd) (order_irr h1 h2 hj)
  · rfl
end Go.Proofs.YtmlmogllgnfklaaGreatDoor
