/-
  Plain laws of texts: the first place of a piece, whether a text has it, and one piece put for another all along.
-/
import Derived.Lib.Replace
import Derived.Lib.CountLaws
import Derived.Lib.IndexMore
import Derived.Lib.SplitLaws
namespace Go.Proofs.YtmlmogllgnfklaaGreatDoor
open Go Go.Lib

/-- A piece at a place. -/
def hasB (s : List UInt8) (i : Nat) (p : List UInt8) : Bool := p.isPrefixOf (s.drop i)
theorem hasB_take (s p : List UInt8) (i : Nat) : hasB s i p = (decide (i + p.length ≤ s.length ∨ p = []) && ((s.drop i).take p.length == p)) := by
  rw [Bool.eq_iff_iff]
  unfold hasB
  rw [List.isPrefixOf_iff_prefix, Bool.and_eq_true, decide_eq_true_eq, beq_iff_eq]
  constructor
  · rintro ⟨r, hr⟩
    have hl := congrArg List.length hr
    rw [List.length_append, List.length_drop] at hl
    refine ⟨?_, by rw [← hr, List.take_left]⟩
    by_cases hp : p = []
    · exact Or.inr hp
    · left
      have : 0 < p.length := List.length_pos_iff.2 hp
      omega
  · rintro ⟨-, h⟩
    exact ⟨(s.drop i).drop p.length, by conv => lhs; lhs; rw [← h]
                                        exact List.take_append_drop _ _⟩
theorem hasB_room {s p : List UInt8} {i : Nat} (h : hasB s i p = true) (hi : i ≤ s.length) : i + p.length ≤ s.length := by
  rw [hasB_take, Bool.and_eq_true, decide_eq_true_eq] at h
  rcases h.1 with h | h
  · exact h
  · subst h; simpa using hi
theorem contains_iff (s p : List UInt8) : contains s p = true ↔ ∃ i, i ≤ s.length ∧ hasB s i p = true := by
  unfold contains
  rw [decide_eq_true_eq]
  constructor
  · intro h
    refine Classical.byContradiction fun hn => ?_
    have : index s p = -1 := index_none (fun j hj => by
      cases ho : occAt s p j with
      | false => rfl
      | true => exact absurd ⟨j, hj, ho⟩ hn)
    omega
  · rintro ⟨i, hi, h⟩
    refine Classical.byContradiction fun hn => ?_
    have hge := index_ge s p
    have h1 : index s p = -1 := by omega
    have key : ∀ (s : List UInt8) (i : Nat), i ≤ s.length → occAt s p i = true → index s p ≠ -1 := by
      intro s
      induction s with
      | nil =>
        intro i hi ho
        have : i = 0 := by simpa using hi
        subst this
        cases p with
        | nil => decide
        | cons a t => simp [occAt] at ho
      | cons b l ih =>
        intro i hi ho
        unfold index
        by_cases hp : p.isPrefixOf (b :: l) = true
        · rw [if_pos hp]; decide
        · rw [if_neg hp]
          cases i with
          | zero => exact absurd (by simpa [occAt] using ho) hp
          | succ i =>
            have := ih i (by simpa using hi) (by simpa [occAt] using ho)
            have hne : ¬ (index l p == -1) = true := by simpa using this
            rw [if_neg hne]
            have := index_ge l p
            omega
    exact key s i hi h h1

/-- One piece put for another, from left to right. -/
def swapF (old new : List UInt8) : Nat → List UInt8 → List UInt8
  | 0, s => s
  | _ + 1, [] => []
  | f + 1, b :: s => if old.isPrefixOf (b :: s) then new ++ swapF old new f ((b :: s).drop old.length) else b :: swapF old new f s
def swapG (old new s : List UInt8) : List UInt8 := swapF old new s.length s
theorem swapF_fuel {old new : List UInt8} (ho : old ≠ []) : ∀ (f : Nat) (s : List UInt8), s.length ≤ f → swapF old new f s = swapF old new s.length s := by
  have hp : 0 < old.length := List.length_pos_iff.2 ho
  intro f
  induction f using Nat.strongRecOn with
  | ind f ih =>
    intro s hs
    cases s with
    | nil => cases f <;> rfl
    | cons b s =>
      cases f with
      | zero => simp at hs
      | succ f =>
        simp only [List.length_cons] at hs ⊢
        unfold swapF
        have hd : ((b :: s).drop old.length).length ≤ s.length := by
          rw [List.length_drop, List.length_cons]
          omega
        rw [ih f (by omega) _ (by omega), ih f (by omega) s (by omega), ih s.length (by omega) _ hd]
theorem swapG_nil (old new : List UInt8) : swapG old new [] = [] := rfl
theorem swapG_hit {old new s : List UInt8} (ho : old ≠ []) (h : old.isPrefixOf s = true) : swapG old new s = new ++ swapG old new (s.drop old.length) := by
  have hp : 0 < old.length := List.length_pos_iff.2 ho
  cases s with
  | nil => cases old with
    | nil => exact absurd rfl ho
    | cons a t => simp at h
  | cons b s =>
    unfold swapG
    rw [List.length_cons]
    conv => lhs; unfold swapF
    rw [if_pos h, swapF_fuel ho s.length]
    rw [List.length_drop, List.length_cons]
    omega
theorem swapG_miss {old new s : List UInt8} {b : UInt8} (_ho : old ≠ []) (h : old.isPrefixOf (b :: s) = false) : swapG old new (b :: s) = b :: swapG old new s := by
  unfold swapG
  rw [List.length_cons]
  conv => lhs; unfold swapF
  rw [h]
  simp
theorem swapG_skip {old new : List UInt8} (ho : old ≠ []) : ∀ (i : Nat) (s : List UInt8), i ≤ s.length → (∀ j, j < i → old.isPrefixOf (s.drop j) = false) → swapG old new s = s.take i ++ swapG old new (s.drop i)
  | 0, s, _, _ => by simp
  | i + 1, [], h, _ => by simp at h
  | i + 1, b :: s, h, hn => by
    have h0 := hn 0 (by omega)
    rw [List.drop_zero] at h0
    rw [swapG_miss ho h0, swapG_skip ho i s (by simpa using h) (fun j hj => by simpa using hn (j + 1) (by omega))]
    rfl
theorem swapG_same {old : List UInt8} (ho : old ≠ []) : ∀ (k : Nat) (s : List UInt8), s.length ≤ k → swapG old old s = s := by
  have hp : 0 < old.length := List.length_pos_iff.2 ho
  intro k
  induction k with
  | zero =>
    intro s hs
    obtain rfl : s = [] := List.length_eq_zero_iff.1 (by omega)
    rfl
  | succ k ih =>
    intro s hs
    cases s with
    | nil => rfl
    | cons b s =>
      cases h : old.isPrefixOf (b :: s) with
      | true =>
        rw [swapG_hit ho h, ih _ (by rw [List.length_drop, List.length_cons]; simp at hs; omega)]
        obtain ⟨r, hr⟩ := List.isPrefixOf_iff_prefix.1 h
        rw [← hr, List.drop_left]
      | false => rw [swapG_miss ho h, ih s (by simpa using hs)]
theorem index_hit' {s old : List UInt8} {i : Nat} (h : index s old = i) : i ≤ s.length ∧ occAt s old i = true ∧ ∀ j, j < i → occAt s old j = false := by
  induction s generalizing i with
  | nil =>
    unfold index at h
    split at h
    · rename_i he
      obtain rfl : i = 0 := by omega
      refine ⟨Nat.le_refl _, ?_, fun j hj => by omega⟩
      cases old with
      | nil => rfl
      | cons a t => simp at he
    · omega
  | cons b l ih =>
    unfold index at h
    split at h
    · rename_i he
      obtain rfl : i = 0 := by omega
      exact ⟨by omega, by simpa [occAt] using he, fun j hj => by omega⟩
    · rename_i he
      split at h
      · omega
      · rename_i hm
        have hge := index_ge l old
        have hne : index l old ≠ -1 := by simpa using hm
        obtain ⟨h1, h2, h3⟩ := ih (i := i - 1) (by omega)
        obtain ⟨k, rfl⟩ : ∃ k, i = k + 1 := ⟨i - 1, by omega⟩
        simp only [Nat.add_sub_cancel] at h1 h2 h3
        refine ⟨by simpa using h1, by simpa [occAt] using h2, fun j hj => ?_⟩
        cases j with
        | zero => exact Bool.eq_false_iff.2 (by unfold occAt; rw [List.drop_zero]; exact he)
        | succ j => simpa [occAt] using h3 j (by omega)
theorem replaceK_swap {old new : List UInt8} (ho : old ≠ []) : ∀ (k : Nat) (s : List UInt8), s.length ≤ k → replaceK old new (count s old) s = swapG old new s := by
  have hp : 0 < old.length := List.length_pos_iff.2 ho
  intro k
  induction k using Nat.strongRecOn with
  | ind k ih =>
    intro s hs
    by_cases hm : index s old = -1
    · rw [count_miss hm]
      show s = _
      have hno : ∀ j, j < s.length → old.isPrefixOf (s.drop j) = false := fun j hj => by
        cases hq : old.isPrefixOf (s.drop j) with
        | false => rfl
        | true =>
          have := (contains_iff s old).2 ⟨j, by omega, hq⟩
          unfold contains at this
          rw [decide_eq_true_eq] at this
          omega
      rw [swapG_skip ho s.length s (Nat.le_refl _) hno, List.take_length, List.drop_length, swapG_nil, List.append_nil]
    · have hge := index_ge s old
      obtain ⟨i, hi⟩ : ∃ i : Nat, index s old = i := ⟨(index s old).toNat, by omega⟩
      obtain ⟨h1, h2, h3⟩ := index_hit' hi
      have hroom := hasB_room (s := s) (p := old) (i := i) h2 h1
      rw [count_hit ho hi, Nat.add_comm 1, replaceK_hit _ _ _ _ i hi, swapG_skip ho i s h1 h3, swapG_hit ho h2, List.drop_drop, ih (s.drop (i + old.length)).length (by rw [List.length_drop]; omega) _ (Nat.le_refl _), List.append_assoc]
theorem replaceAll_swap {old new : List UInt8} (ho : old ≠ []) (s : List UInt8) : replaceAll s old new = swapG old new s := by
  unfold replaceAll replace
  by_cases h : old = new
  · subst h
    rw [if_pos (by simp), swapG_same ho s.length s (Nat.le_refl _)]
  · rw [if_neg (by simpa using h)]
    unfold replaceNum
    rw [if_pos (Or.inl (by decide)), replaceK_swap ho s.length s (Nat.le_refl _)]
theorem swapG_len {old new : List UInt8} (ho : old ≠ []) : ∀ (k : Nat) (s : List UInt8), s.length ≤ k → (swapG old new s).length ≤ s.length * (new.length + 1) := by
  have hp : 0 < old.length := List.length_pos_iff.2 ho
  intro k
  induction k with
  | zero =>
    intro s hs
    obtain rfl : s = [] := List.length_eq_zero_iff.1 (by omega)
    simp [swapG_nil]
  | succ k ih =>
    intro s hs
    cases s with
    | nil => simp [swapG_nil]
    | cons b s =>
      have e : (s.length + 1) * (new.length + 1) = s.length * (new.length + 1) + (new.length + 1) := Nat.succ_mul _ _
      cases h : old.isPrefixOf (b :: s) with
      | true =>
        have hd : ((b :: s).drop old.length).length ≤ s.length := by
          rw [List.length_drop, List.length_cons]
          omega
        have := ih ((b :: s).drop old.length) (by simp at hs; omega)
        have hm := Nat.mul_le_mul_right (new.length + 1) hd
        rw [swapG_hit ho h, List.length_append, List.length_cons]
        omega
      | false =>
        have := ih s (by simpa using hs)
        rw [swapG_miss ho h, List.length_cons, List.length_cons]
        omega
end Go.Proofs.YtmlmogllgnfklaaGreatDoor
