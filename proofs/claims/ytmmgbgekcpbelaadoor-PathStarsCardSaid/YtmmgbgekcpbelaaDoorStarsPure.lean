/-
  The plain law of PathStars: which patterns a path fits.
-/
import Derived.Test.YtmmgbgekcpbelaaDoorFits
import Derived.Test.YtmmgbgekcpbelaaDoorPathLaw1
namespace Go.Proofs.YtmmgbgekcpbelaaDoor
open Go Go.RowKit Go.Kf

theorem okB_mono {c : UInt8} (h : okB false c = true) : okB true c = true := by
  unfold okB at *
  simp only [Bool.false_and, Bool.or_false] at h
  rw [h]; rfl
theorem okB_star {c : UInt8} (h : okB false c = true) : c ≠ 42 := by
  rintro rfl
  revert h
  decide
theorem name_ok {s : List UInt8} {b : Bool} (h : nameB s b = true) : ∀ c ∈ s, okB b c = true := by
  unfold nameB okAll at h
  simp only [Bool.and_eq_true] at h
  exact List.all_eq_true.1 h.2.2.2.2
theorem nameB_mk {s : List UInt8} {b : Bool} (h1 : s ≠ []) (h2 : s.length ≤ 12) (h3 : s ≠ [46]) (h4 : s ≠ [46, 46]) (h5 : ∀ c ∈ s, okB b c = true) : nameB s b = true := by
  unfold nameB okAll
  rw [show (s == []) = false by simpa using h1, show (s == [46]) = false by simpa using h3, show (s == [46, 46]) = false by simpa using h4, List.all_eq_true.2 h5]
  simp [h2]
theorem nameB_mono {s : List UInt8} (h : nameB s false = true) : nameB s true = true := by
  obtain ⟨h1, h3, h4, h2⟩ := nameB_not h
  exact nameB_mk h1 h2 h3 h4 (fun c hc => okB_mono (name_ok h c hc))
theorem name_nostar {s : List UInt8} (h : nameB s false = true) : ∀ c ∈ s, c ≠ 42 := fun c hc => okB_star (name_ok h c hc)

/-- The parts of a path. -/
structure IsP (s : List UInt8) (out : List (List UInt8)) : Prop where
  spl : Kf.spl 47 s = out
  len : out.length ≤ 5
  names : ∀ t ∈ out, nameB t false = true
theorem isP_of {s : List UInt8} (h : partsL s false ≠ []) : IsP s (Kf.spl 47 s) ∧ partsL s false = Kf.spl 47 s := by
  unfold partsL at h ⊢
  split at h
  · rename_i hc
    rw [if_pos hc]
    exact ⟨⟨rfl, hc.1, namesB_mem hc.2⟩, rfl⟩
  · exact absurd rfl h
theorem partsL_mk {s : List UInt8} {b : Bool} {out : List (List UInt8)} (h : Kf.spl 47 s = out) (hl : out.length ≤ 5) (hn : ∀ t ∈ out, nameB t b = true) : partsL s b = out := by
  unfold partsL
  rw [h, if_pos ⟨hl, List.all_eq_true.2 hn⟩]
theorem star_self {s : List UInt8} (h : ∀ c ∈ s, c ≠ 42) : Fits (fun c : UInt8 => decide (c = 42)) (fun c d : UInt8 => d == c) s s :=
  Fits.self (fun c hc => by simpa using h c hc) (fun c _ => by simp)
theorem not_two {t : List UInt8} (h : ∀ c ∈ t, c ≠ 42) : t ≠ [42, 42] := by
  rintro rfl
  exact h 42 (by simp) rfl
theorem fits_self {l : List (List UInt8)} (h : ∀ t ∈ l, ∀ c ∈ t, c ≠ 42) : Fits (fun c : List UInt8 => decide (c = [42, 42])) starB l l :=
  Fits.self (fun t ht => by simpa using not_two (h t ht)) (fun t ht => glob_of_fits _ _ (star_self (h t ht)))

/-- A pattern is matched. -/
def Hit (p s : List UInt8) : Prop := noMatch p s = false ∧ matchB p s = true
theorem hit_mk {p s : List UInt8} {l out : List (List UInt8)} (hp : partsL p true = l) (hs : partsL s false = out) (hl : l ≠ []) (ho : out ≠ []) (hf : Fits (fun c : List UInt8 => decide (c = [42, 42])) starB l out) : Hit p s := by
  have hn : noMatch p s = false := by unfold noMatch; rw [hp, hs]; simp [hl, ho]
  refine ⟨hn, ?_⟩
  unfold matchB
  rw [hn, hp, hs]
  have : fitsB l out = true := glob_of_fits _ _ hf
  simp [this]

theorem spl_snoc {c x : UInt8} (h : x ≠ c) : ∀ (l : List UInt8) (d : List (List UInt8)) (e : List UInt8), Kf.spl c l = d ++ [e] → Kf.spl c (l ++ [x]) = d ++ [e ++ [x]]
  | [], d, e, hs => by
    simp only [Kf.spl] at hs
    cases d with
    | nil =>
      simp only [List.nil_append, List.cons.injEq, and_true] at hs
      subst hs
      simp [Kf.spl, h]
    | cons a d => simp at hs
  | y :: l, d, e, hs => by
    have hne := spl_ne c l
    obtain ⟨d', e', he⟩ : ∃ d' e', Kf.spl c l = d' ++ [e'] := ⟨_, _, (List.dropLast_concat_getLast hne).symm⟩
    have ih := spl_snoc h l d' e' he
    simp only [List.cons_append, Kf.spl] at hs ⊢
    rw [ih]
    rw [he] at hs
    by_cases hy : y = c
    · rw [if_pos hy] at hs ⊢
      have : ([] :: d') ++ [e'] = d ++ [e] := hs
      obtain ⟨h1, h2⟩ := List.append_inj' this rfl
      simp only [List.cons.injEq, and_true] at h2
      rw [← h1, ← h2]
      rfl
    · rw [if_neg hy] at hs ⊢
      cases d' with
      | nil =>
        simp only [List.nil_append] at hs ⊢
        have : ([] : List (List UInt8)) ++ [y :: e'] = d ++ [e] := hs
        obtain ⟨h1, h2⟩ := List.append_inj' this rfl
        simp only [List.cons.injEq, and_true] at h2
        rw [← h1, ← h2]
        rfl
      | cons a d' =>
        simp only [List.cons_append] at hs ⊢
        have : ((y :: a) :: d') ++ [e'] = d ++ [e] := hs
        obtain ⟨h1, h2⟩ := List.append_inj' this rfl
        simp only [List.cons.injEq, and_true] at h2
        rw [← h1, ← h2]
        rfl

section
variable {s : List UInt8} {out : List (List UInt8)} (h : IsP s out) (hs : partsL s false = out) (ho : out ≠ [])
include h hs ho
theorem hit_self : Hit s s :=
  hit_mk (partsL_mk h.spl h.len (fun t ht => nameB_mono (h.names t ht))) hs ho ho (fits_self (fun t ht => name_nostar (h.names t ht)))
omit h in
theorem hit_two : Hit [42, 42] s :=
  hit_mk (l := [[42, 42]]) (by decide +kernel) hs (by simp) ho (Fits.all (st := fun c : List UInt8 => decide (c = [42, 42])) (m := starB) (c := [42, 42]) (by simp) out)
theorem hit_ahead (h5 : out.length < 5) : Hit ([42, 42, 47] ++ s) s := by
  have e : Kf.spl 47 ([42, 42, 47] ++ s) = [42, 42] :: out := by
    have := spl_hit (c := 47) (p := [42, 42]) (l := s) (by decide)
    rw [h.spl] at this
    exact this
  refine hit_mk (l := [42, 42] :: out) (partsL_mk e (by simp; omega) (fun t ht => ?_)) hs (by simp) ho (Fits.skip (st := fun c : List UInt8 => decide (c = [42, 42])) (m := starB) (c := [42, 42]) (by simp) (fits_self (fun t ht => name_nostar (h.names t ht))))
  rcases List.mem_cons.1 ht with rfl | ht
  · decide
  · exact nameB_mono (h.names t ht)
theorem hit_behind (h5 : out.length < 5) : Hit (s ++ [47, 42, 42]) s := by
  have e : Kf.spl 47 (s ++ [47, 42, 42]) = out ++ [[42, 42]] := by
    have := spl_app 47 s [42, 42]
    rw [h.spl] at this
    exact this
  refine hit_mk (l := out ++ [[42, 42]]) (partsL_mk e (by simp; omega) (fun t ht => ?_)) hs (by simp) ho ?_
  · rcases List.mem_append.1 ht with ht | ht
    · exact nameB_mono (h.names t ht)
    · simp only [List.mem_singleton] at ht
      subst ht; decide
  · have := (fits_self (l := out) (fun t ht => name_nostar (h.names t ht))).append (Fits.all (st := fun c : List UInt8 => decide (c = [42, 42])) (m := starB) (c := [42, 42]) (by simp) ([] : List (List UInt8)))
    simpa using this
theorem hit_star (h12 : (lastL s).length < 12) : Hit (s ++ [42]) s := by
  obtain ⟨d, l, hdl⟩ : ∃ d l, out = d ++ [l] := ⟨_, _, (List.dropLast_concat_getLast ho).symm⟩
  have hll : lastL s = l := by unfold lastL; rw [hs, hdl]; simp
  rw [hll] at h12
  have hln := h.names l (by rw [hdl]; simp)
  have e : Kf.spl 47 (s ++ [42]) = d ++ [l ++ [42]] := spl_snoc (by decide) s d l (by rw [h.spl, hdl])
  obtain ⟨n1, n2, n3, n4⟩ := nameB_not hln
  have hname : nameB (l ++ [42]) true = true := by
    refine nameB_mk (by simp) (by simp; omega) (fun e => ?_) (fun e => ?_) (fun c hc => ?_)
    · have := congrArg List.getLast? e
      simp at this
    · have := congrArg List.getLast? e
      simp at this
    · rcases List.mem_append.1 hc with hc | hc
      · exact okB_mono (name_ok hln c hc)
      · simp only [List.mem_singleton] at hc
        subst hc; decide
  have hnt : l ++ [42] ≠ [42, 42] := fun e => by
    obtain ⟨e1, -⟩ := List.append_inj' (show l ++ [42] = [42] ++ [42] from e) rfl
    exact name_nostar hln 42 (by rw [e1]; simp) rfl
  have hlen := h.len
  rw [hdl] at hlen
  have hsub : ∀ t ∈ d, nameB t false = true := fun t ht => h.names t (by rw [hdl]; exact List.mem_append_left _ ht)
  refine hit_mk (l := d ++ [l ++ [42]]) (partsL_mk e (by simpa using hlen) (fun t ht => ?_)) hs (by simp) ho ?_
  · rcases List.mem_append.1 ht with ht | ht
    · exact nameB_mono (hsub t ht)
    · simp only [List.mem_singleton] at ht
      rw [ht]; exact hname
  · rw [hdl]
    refine (fits_self (l := d) (fun t ht => name_nostar (hsub t ht))).append (.one (by simpa using hnt) ?_ .nil)
    have := (star_self (name_nostar hln)).append (Fits.all (st := fun c : UInt8 => decide (c = 42)) (m := fun c d : UInt8 => d == c) (c := 42) (by simp) ([] : List UInt8))
    rw [List.append_nil] at this
    exact glob_of_fits _ _ this
end
end Go.Proofs.YtmmgbgekcpbelaaDoor
