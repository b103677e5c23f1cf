/-
  Package act: the plain law of lines.
-/
import Derived.Test.YtmkpeopebddnjaaGreatDoorActS
import Derived.Sort.KeysCollected
namespace Go.Proofs.YtmkpeopebddnjaaGreatDoor
open Go Go.RowKit Go.Kf Go.Sort

theorem spl_ended : ∀ {l : List (List UInt8)}, (∀ s ∈ l, (10 : UInt8) ∉ s) → spl 10 (endedL l) = l ++ [[]]
  | [], _ => rfl
  | s :: l, h => by
    rw [endedL_cons, spl_hit (h s List.mem_cons_self), spl_ended (fun q hq => h q (List.mem_cons_of_mem _ hq))]
    rfl
theorem lines_ended {l : List (List UInt8)} (h : ∀ s ∈ l, (10 : UInt8) ∉ s) : linesB (endedL l) = l := by
  obtain ⟨k, hk, t, ht, he⟩ := linesB_eq (endedL l)
  rw [spl_ended h] at hk ht he
  have hkl : k = l.length := by simpa using hk.symm
  subst hkl
  rw [he]
  have e : t = [] := by simpa using ht.symm
  rw [if_pos e, List.take_left]
theorem ended_spl : ∀ s : List UInt8, endedL (spl 10 s) = s ++ [10]
  | [] => rfl
  | b :: s => by
    have ih := ended_spl s
    unfold spl
    by_cases hb : b = 10
    · rw [if_pos hb, endedL_cons, ih, hb]
      rfl
    · rw [if_neg hb]
      cases hq : spl 10 s with
      | nil => exact absurd hq (spl_ne 10 s)
      | cons x r =>
        rw [hq, endedL_cons] at ih
        show endedL ((b :: x) :: r) = _
        rw [endedL_cons, List.cons_append, ih]
        rfl
theorem ended_lines (s : List UInt8) : (endedL (linesB s)).length ≤ s.length + 1 := by
  obtain ⟨k, hk, t, ht, he⟩ := linesB_eq s
  have h := congrArg List.length (ended_spl s)
  rw [List.length_append] at h
  rw [he]
  split
  · have := endedL_take (spl 10 s) k
    simp only [List.length_cons, List.length_nil] at h
    omega
  · simp only [List.length_cons, List.length_nil] at h
    omega
theorem lines_no {s x : List UInt8} (h : x ∈ linesB s) : (10 : UInt8) ∉ x := by
  obtain ⟨k, hk, t, ht, he⟩ := linesB_eq s
  rw [he] at h
  refine spl_not_mem 10 s x ?_
  split at h
  · exact List.mem_of_mem_take h
  · exact h
theorem all_no {ins : List (List UInt8)} {x : List UInt8} (h : x ∈ allB ins) : (10 : UInt8) ∉ x := by
  obtain ⟨l, hl, hx⟩ := List.mem_flatten.1 h
  obtain ⟨s, -, rfl⟩ := List.mem_map.1 hl
  exact lines_no hx
theorem endedL_app (l r : List (List UInt8)) : endedL (l ++ r) = endedL l ++ endedL r := by simp [endedL]
theorem ended_all : ∀ ins : List (List UInt8), (endedL (allB ins)).length ≤ (ins.map fun s => s.length + 1).sum
  | [] => by simp [allB, endedL]
  | s :: ins => by
    have ih := ended_all ins
    have h1 := ended_lines s
    have e : allB (s :: ins) = linesB s ++ allB ins := by simp [allB]
    rw [e, endedL_app, List.length_append, List.map_cons, List.sum_cons]
    omega
theorem allB_one (s : List UInt8) : allB [s] = linesB s := by simp [allB]

theorem leS_total (a b : List UInt8) : (decide (a ≤ b) || decide (b ≤ a)) = true := by
  rcases List.le_total a b with h | h
  · simp [h]
  · simp [h]
theorem leS_trans (a b c : List UInt8) (h1 : decide (a ≤ b) = true) (h2 : decide (b ≤ c) = true) : decide (a ≤ c) = true := by
  simp only [decide_eq_true_eq] at *
  exact List.le_trans h1 h2
theorem sortB_sorted (l : List (List UInt8)) : (sortB l).Pairwise (fun a b => decide (a ≤ b) = true) := List.pairwise_mergeSort leS_trans leS_total l
theorem sortB_idem (l : List (List UInt8)) : sortB (sortB l) = sortB l := List.mergeSort_of_pairwise (sortB_sorted l)
theorem sortB_eq {l l' : List (List UInt8)} (h : l.Perm l') : sortB l = sortB l' := by
  refine List.Perm.eq_of_pairwise (le := fun a b => decide (a ≤ b) = true) (fun a b _ _ h1 h2 => ?_) (sortB_sorted l) (sortB_sorted l') ((sortB_perm l).trans (h.trans (sortB_perm l').symm))
  simp only [decide_eq_true_eq] at h1 h2
  exact List.le_antisymm h1 h2

/-- The first piece of what count says. -/
theorem count_head (ins : List (List UInt8)) : ∃ r, spl 32 (countB ins) = Lib.decDigits (allB ins).length :: r := by
  have hn : (32 : UInt8) ∉ Lib.decDigits (allB ins).length := fun h => by
    have : ∀ (n : Nat), ∀ d ∈ Lib.decDigits n, 48 ≤ d.toNat := by
      intro n
      induction n using Nat.strongRecOn with
      | ind n ih =>
        intro d hd
        rw [Lib.decDigits] at hd
        split at hd
        · rw [List.mem_singleton] at hd
          subst hd
          rename_i h
          have : (UInt8.ofNat (48 + n)).toNat = 48 + n := by simp [UInt8.toNat_ofNat']; omega
          omega
        · rename_i h
          rcases List.mem_append.1 hd with hd | hd
          · exact ih (n / 10) (by omega) d hd
          · rw [List.mem_singleton] at hd
            subst hd
            have : (UInt8.ofNat (48 + n % 10)).toNat = 48 + n % 10 := by simp [UInt8.toNat_ofNat']; omega
            omega
    exact absurd (this _ _ h) (by decide)
  refine ⟨spl 32 (Lib.decDigits (ins.map List.length).sum ++ [10]), ?_⟩
  have e : countB ins = Lib.decDigits (allB ins).length ++ 32 :: (Lib.decDigits (ins.map List.length).sum ++ [10]) := by simp [countB]
  rw [e, spl_hit hn]
/-- What is kept of the first i + 1. -/
theorem upto_keep {l : List (List UInt8)} {i : Nat} (hi : i < l.length) (hk : i = 0 ∨ ∀ h : i - 1 < l.length, l[i] ≠ l[i - 1]) : Lib.compactUpTo l.toArray (i + 1) = Lib.compactUpTo l.toArray i ++ [l[i]] := by
  have e : l.toArray[i]! = l[i] := by simp [hi]
  have hkk : Lib.keeps l.toArray i = true := by
    unfold Lib.keeps
    rcases hk with h | h
    · simp [h]
    · have h1 : i - 1 < l.length := by omega
      have e2 : l.toArray[i - 1]! = l[i - 1] := by simp [h1]
      rw [e, e2]
      simp [h h1]
  rw [Lib.compactUpTo_succ, hkk, e]
  rfl
theorem upto_skip {l : List (List UInt8)} {i : Nat} (hi : i + 1 < l.length) (h : l[i + 1] = l[i]) : Lib.compactUpTo l.toArray (i + 1 + 1) = Lib.compactUpTo l.toArray (i + 1) := by
  have e : l.toArray[i + 1]! = l[i + 1] := by simp [hi]
  have e2 : l.toArray[i]! = l[i] := by simp [show i < l.length by omega]
  have hkk : Lib.keeps l.toArray (i + 1) = false := by
    unfold Lib.keeps
    rw [e, show i + 1 - 1 = i by omega, e2, h]
    simp
  rw [Lib.compactUpTo_succ, hkk]
  simp
theorem upto_prefix (l : List (List UInt8)) {i : Nat} (hi : i ≤ l.length) : ∃ r, Lib.compact l = Lib.compactUpTo l.toArray i ++ r := by
  have key : ∀ k, ∃ r, Lib.compactUpTo l.toArray (i + k) = Lib.compactUpTo l.toArray i ++ r := by
    intro k
    induction k with
    | zero => exact ⟨[], by simp⟩
    | succ k ih =>
      obtain ⟨r, hr⟩ := ih
      rw [← Nat.add_assoc, Lib.compactUpTo_succ, hr]
      exact ⟨_, by rw [List.append_assoc]⟩
  obtain ⟨r, hr⟩ := key (l.length - i)
  rw [show i + (l.length - i) = l.length by omega] at hr
  exact ⟨r, hr⟩
/-- A place that is kept: there the short list has it. -/
theorem upto_at {l : List (List UInt8)} {i : Nat} (hi : i < l.length) (hk : i = 0 ∨ ∀ h : i - 1 < l.length, l[i] ≠ l[i - 1]) : ∃ h : (Lib.compactUpTo l.toArray i).length < (Lib.compact l).length, (Lib.compact l)[(Lib.compactUpTo l.toArray i).length] = l[i] := by
  obtain ⟨r, hr⟩ := upto_prefix l (i := i + 1) (by omega)
  rw [upto_keep hi hk] at hr
  refine ⟨by rw [hr]; simp, ?_⟩
  simp only [hr]
  simp
end Go.Proofs.YtmkpeopebddnjaaGreatDoor
