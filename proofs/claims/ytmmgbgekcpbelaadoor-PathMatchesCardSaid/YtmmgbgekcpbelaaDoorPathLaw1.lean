/-
  The law PathStays: what is clean stays so (the plain law, and the walk).
-/
import Derived.Test.YtmmgbgekcpbelaaDoorClean
namespace Go.Proofs.YtmmgbgekcpbelaaDoor
open Go Go.RowKit Go.Kf

theorem spl_app (c : UInt8) : ∀ (a b : List UInt8), spl c (a ++ c :: b) = spl c a ++ spl c b
  | [], b => by simp [spl]
  | x :: a, b => by
    have ih := spl_app c a b
    have hne := spl_ne c a
    simp only [List.cons_append, spl]
    by_cases h : x = c
    · rw [if_pos h, if_pos h, ih]; rfl
    · rw [if_neg h, if_neg h, ih]
      cases hs : spl c a with
      | nil => exact absurd hs hne
      | cons y t => rfl
theorem join_snoc {l : List (List UInt8)} (x : List UInt8) (h : l ≠ []) : Lib.join (l ++ [x]) [47] = Lib.join l [47] ++ 47 :: x := by
  cases l with
  | nil => exact absurd rfl h
  | cons y r =>
    rw [List.cons_append, Lib.join_cons, Lib.join_cons]
    simp [Lib.joinTail]
theorem spl_join : ∀ {l : List (List UInt8)}, l ≠ [] → (∀ s ∈ l, 47 ∉ s) → spl 47 (Lib.join l [47]) = l
  | [], h, _ => absurd rfl h
  | [x], _, h => by rw [Lib.join_one]; exact spl_miss (h x List.mem_cons_self)
  | x :: y :: r, _, h => by
    have ih := spl_join (l := y :: r) (by simp) (fun s hs => h s (List.mem_cons_of_mem _ hs))
    have e : Lib.join (x :: y :: r) [47] = x ++ 47 :: Lib.join (y :: r) [47] := by
      rw [Lib.join_cons, Lib.join_cons]
      simp [Lib.joinTail]
    rw [e, spl_app, ih, spl_miss (h x List.mem_cons_self)]
    rfl

/-- What a name is not. -/
theorem nameB_not {s : List UInt8} {b : Bool} (h : nameB s b = true) : s ≠ [] ∧ s ≠ [46] ∧ s ≠ [46, 46] ∧ s.length ≤ 12 := by
  unfold nameB at h
  simp only [Bool.and_eq_true, Bool.not_eq_true', beq_eq_false_iff_ne, decide_eq_true_eq] at h
  exact ⟨h.1, h.2.2.1, h.2.2.2.1, h.2.1⟩
theorem cleanFold_names : ∀ (l pre : List (List UInt8)), (∀ s ∈ l, s ≠ [] ∧ s ≠ [46] ∧ s ≠ [46, 46]) → l.foldl cleanStep (some pre) = some (pre ++ l)
  | [], pre, _ => by simp
  | x :: l, pre, h => by
    obtain ⟨h1, h2, h3⟩ := h x List.mem_cons_self
    rw [List.foldl_cons, cleanStep, if_neg (by simp [h1, h2]), if_neg h3, cleanFold_names l (pre ++ [x]) (fun s hs => h s (List.mem_cons_of_mem _ hs))]
    simp
theorem mem_cleanFold : ∀ (l a out : List (List UInt8)), l.foldl cleanStep (some a) = some out → ∀ s ∈ out, s ∈ a ∨ s ∈ l
  | [], a, out, h, s, hs => by
    simp only [List.foldl_nil, Option.some.injEq] at h
    subst h; exact Or.inl hs
  | x :: l, a, out, h, s, hs => by
    rw [List.foldl_cons] at h
    cases hc : cleanStep (some a) x with
    | none => rw [hc, cleanStep_none] at h; cases h
    | some b =>
      rw [hc] at h
      rcases mem_cleanFold l b out h s hs with h1 | h1
      · simp only [cleanStep] at hc
        split at hc
        · cases hc; exact Or.inl h1
        · split at hc
          · split at hc
            · cases hc
            · cases hc; exact Or.inl (List.dropLast_subset _ h1)
          · cases hc
            rcases List.mem_append.1 h1 with h1 | h1
            · exact Or.inl h1
            · simp only [List.mem_singleton] at h1
              subst h1
              exact Or.inr List.mem_cons_self
      · exact Or.inr (List.mem_cons_of_mem _ h1)

/-- A path: its parts are names, five at most. -/
structure IsClean (t : List UInt8) (out : List (List UInt8)) : Prop where
  ne : out ≠ []
  eq : t = Lib.join out [47]
  spl : spl 47 t = out
  len : out.length ≤ 5
  names : namesB false out = true

theorem isClean_of_parts {t : List UInt8} (h : partsL t false ≠ []) (out : List (List UInt8)) (hs : spl 47 t = out) (he : t = Lib.join out [47]) : IsClean t out := by
  unfold partsL at h
  split at h
  · rename_i hc
    rw [hs] at h hc
    exact ⟨h, he, hs, hc.1, hc.2⟩
  · exact absurd rfl h
theorem clean_is {s t : List UInt8} (h : cleanR s = (t, 0)) : ∃ out, IsClean t out := by
  unfold cleanR at h
  split at h
  · cases h
  · cases hf : cleanFold (Kf.spl 47 s) with
    | none => rw [hf] at h; cases h
    | some out =>
      rw [hf] at h
      cases out with
      | nil => cases h
      | cons x out =>
        simp only [finR] at h
        split at h
        · cases h
        · rename_i hp
          have ht : Lib.join (x :: out) [47] = t := congrArg Prod.fst h
          have hsj : Kf.spl 47 (Lib.join (x :: out) [47]) = x :: out := spl_join (by simp) (fun s' hs' => by
            rcases mem_cleanFold _ _ _ hf s' hs' with h1 | h1
            · simp at h1
            · exact spl_not_mem 47 s s' h1)
          rw [ht] at hp hsj
          exact ⟨x :: out, isClean_of_parts hp _ hsj ht.symm⟩
theorem namesB_mem {b : Bool} {l : List (List UInt8)} (h : namesB b l = true) : ∀ s ∈ l, nameB s b = true := by
  unfold namesB at h
  exact List.all_eq_true.1 h
theorem IsClean.short {t : List UInt8} {out : List (List UInt8)} (h : IsClean t out) : t.length ≤ 65 := by
  have hm : ∀ s ∈ out, s.length ≤ 12 := fun s hs => (nameB_not (namesB_mem h.names s hs)).2.2.2
  have hl := join_len out 12 hm
  rw [← h.eq] at hl
  have := h.len
  omega
theorem IsClean.fold {t : List UInt8} {out : List (List UInt8)} (h : IsClean t out) (pre : List (List UInt8)) : out.foldl cleanStep (some pre) = some (pre ++ out) :=
  cleanFold_names out pre (fun s hs => by have := nameB_not (namesB_mem h.names s hs); exact ⟨this.1, this.2.1, this.2.2.1⟩)
theorem IsClean.parts {t : List UInt8} {out : List (List UInt8)} (h : IsClean t out) : partsL t false = out := by
  unfold partsL
  rw [h.spl, if_pos ⟨h.len, h.names⟩]
theorem IsClean.fin {t : List UInt8} {out : List (List UInt8)} (h : IsClean t out) : finR (some out) = (t, 0) := by
  have hp := h.parts
  have hne := h.ne
  cases out with
  | nil => exact absurd rfl hne
  | cons x r =>
    show (if partsL (Lib.join (x :: r) [47]) false = [] then (([], 4) : List UInt8 × Nat) else (Lib.join (x :: r) [47], 0)) = _
    rw [← h.eq, if_neg (by rw [hp]; simp)]
/-- What is clean stays so. -/
theorem IsClean.clean {t : List UInt8} {out : List (List UInt8)} (h : IsClean t out) : cleanR t = (t, 0) := by
  have := h.short
  unfold cleanR cleanFold
  rw [if_neg (by omega), h.spl, h.fold]
  exact h.fin
/-- Up and down again it is the same. -/
theorem IsClean.up {t : List UInt8} {out : List (List UInt8)} (h : IsClean t out) : cleanR (t ++ [47] ++ [120, 47, 46, 46]) = (t, 0) := by
  have := h.short
  have e : t ++ [47] ++ [120, 47, 46, 46] = t ++ 47 :: [120, 47, 46, 46] := by simp
  unfold cleanR cleanFold
  rw [e, if_neg (by simp; omega), spl_app, h.spl, List.foldl_append, h.fold, List.nil_append]
  have e2 : Kf.spl 47 [120, 47, 46, 46] = [[120], [46, 46]] := by decide
  rw [e2]
  have e3 : [[120], [46, 46]].foldl cleanStep (some out) = some out := by
    simp only [List.foldl_cons, List.foldl_nil]
    have e4 : cleanStep (some out) [120] = some (out ++ [[120]]) := by
      rw [cleanStep, if_neg (by decide), if_neg (by decide)]
    rw [e4, cleanStep, if_neg (by decide), if_pos rfl, if_neg (by simp)]
    simp
  rw [e3]
  exact h.fin
/-- All but the last part, and that. -/
theorem IsClean.split {t : List UInt8} {out : List (List UInt8)} (h : IsClean t out) (hd : dirL t ≠ []) : dirL t ++ [47] ++ lastL t = t := by
  unfold dirL lastL at *
  rw [h.parts] at *
  have hne : out.dropLast ≠ [] := fun e => hd (by rw [e]; rfl)
  have hl : out = out.dropLast ++ [out.getLastD []] := by
    have := List.dropLast_concat_getLast h.ne
    rw [List.getLastD_eq_getLast?, List.getLast?_eq_some_getLast h.ne]
    exact this.symm
  have e := h.eq
  rw [hl, join_snoc _ hne] at e
  rw [e]
  simp

theorem pjoin_any (a b : List UInt8) (w : World) (S : Nat → Addr) (hm : Ml w) (hE : PErr w S) (ha : a.length ≤ 1000) (hb : b.length ≤ 1000) :
    Calls Tryd.prog 36 #[str a, str b] w fun e w' => e = .returned (.tuple #[str (cleanR (a ++ [47] ++ b)).1, codeV S (cleanR (a ++ [47] ++ b)).2]) ∧ Below w.heap.size w w' := by
  have HC := Lib.hid (clean_any (a ++ [47] ++ b) w S hm hE (by simp; omega))
  have e1 : (⟨a.toArray⟩ : ByteArray) ++ (⟨#[47]⟩ : ByteArray) ++ (⟨b.toArray⟩ : ByteArray) = ⟨(a ++ [47] ++ b).toArray⟩ := by
    rw [show (⟨#[47]⟩ : ByteArray) = ⟨([47] : List UInt8).toArray⟩ from rfl, str_app, str_app]
  clear hm hE
  generalize a ++ [47] ++ b = c at *
  go_enter Tryd.func36, Tryd.ntmps36
  go_wp2_with fail
  refine HC.out.mono ?_
  rintro e w1 ⟨rfl, hb1⟩
  go_wp2
  go_ret2
  exact ⟨rfl, hb1⟩

theorem pathed_any (w : World) (S : Nat → Addr) (hm : Ml w) (hE : PErr w S) : Calls Tryd.prog 31 #[] w fun e w' => e = .returned (.bool true) ∧ Below w.heap.size w w' := by
  have h1 := clean_any [97, 47, 46, 47, 98, 47, 46, 46, 47, 99] w S hm hE (by simp)
  have e1 : cleanR [97, 47, 46, 47, 98, 47, 46, 46, 47, 99] = ([97, 47, 99], 0) := by decide +kernel
  have e2 : lastL [97, 47, 99] = [99] := by decide +kernel
  rw [e1] at h1
  have H1 := Lib.hid h1
  have H2 := Lib.hid e2
  have HM := Lib.hid hm
  clear h1 e1 e2 hm
  go_enter Tryd.func31, Tryd.ntmps31
  go_wp2_with fail
  refine H1.out.mono ?_
  have hcv : codeV S 0 = .nilIface := rfl
  rw [hcv]
  rintro e w1 ⟨rfl, hb1⟩
  have h3 := last_part [97, 47, 99] w1 (HM.out.below hb1 (Nat.le_refl _)) (by simp)
  rw [H2.out] at h3
  have H3 := Lib.hid h3
  clear h3 hcv
  go_wp2_with fail
  refine H3.out.mono ?_
  rintro e w2 ⟨rfl, hb2⟩
  go_wp2
  go_ret
  exact ⟨rfl, hb1.trans (hb2.mono hb1.size)⟩
end Go.Proofs.YtmmgbgekcpbelaaDoor
