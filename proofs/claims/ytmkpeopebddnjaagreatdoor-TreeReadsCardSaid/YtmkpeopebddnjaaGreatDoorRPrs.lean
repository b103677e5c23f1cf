/-
  What a reader of a tree's text answers: the plain law.
-/
import Derived.Test.YtmkpeopebddnjaaGreatDoorRdFile
namespace Go.Proofs.YtmkpeopebddnjaaGreatDoor
open Go Go.RowKit Go.Kf Go.Sort

theorem FileIs.one {s p b t p' b' t' : List UInt8} (h : FileIs s p b t) (h' : FileIs s p' b' t') : p = p' ∧ b = b' ∧ t = t' := by
  obtain ⟨h1, h2, h3, h4⟩ := h.parts
  rw [h1] at h'
  obtain ⟨e1, e2, e3, e4⟩ := h'.of h2
  obtain ⟨e5, e6⟩ := split_one e1 h3 e3
  have e7 := dec_inj h4 e4 e6
  obtain ⟨e8, e9⟩ := List.append_inj e2 e7
  exact ⟨e5, e8, (List.cons.inj e9).2⟩

/-- A file that may stand in a text. -/
def Good (x : Ent) : Prop := 10 ∉ x.1 ∧ 32 ∉ x.1 ∧ x.2.length ≤ 9999
/-- A text is the files of L. -/
def Prs (s : List UInt8) (L : List Ent) : Prop := s = linesL L ∧ ∀ x ∈ L, Good x
theorem linesL_cons (x : Ent) (L : List Ent) : linesL (x :: L) = lineL x.1 x.2 ++ linesL L := by simp [linesL]
theorem Prs.cons {s : List UInt8} {x : Ent} {L : List Ent} (h : Prs s (x :: L)) : FileIs s x.1 x.2 (linesL L) ∧ Prs (linesL L) L := by
  obtain ⟨h1, h2⟩ := h
  obtain ⟨g1, g2, g3⟩ := h2 x List.mem_cons_self
  exact ⟨⟨by rw [h1, linesL_cons], g1, g2, g3⟩, rfl, fun y hy => h2 y (List.mem_cons_of_mem _ hy)⟩
theorem lineL_ne (p b t : List UInt8) : lineL p b ++ t ≠ [] := fun e => by
  have := congrArg List.length e
  rw [List.length_append] at this
  have h2 := lineL_pos p b
  rw [List.length_nil] at this
  omega
theorem Prs.one : ∀ {L L' : List Ent} {s : List UInt8}, Prs s L → Prs s L' → L = L'
  | [], [], _, _, _ => rfl
  | [], y :: L', s, h, h' => by
    exfalso
    have e := h.1.symm.trans h'.1
    rw [linesL_cons] at e
    exact lineL_ne _ _ _ e.symm
  | x :: L, [], s, h, h' => by
    exfalso
    have e := h'.1.symm.trans h.1
    rw [linesL_cons] at e
    exact lineL_ne _ _ _ e.symm
  | x :: L, y :: L', s, h, h' => by
    obtain ⟨f, g⟩ := h.cons
    obtain ⟨f', g'⟩ := h'.cons
    obtain ⟨e1, e2, e3⟩ := f.one f'
    rw [e3] at g
    rw [Prs.one g g', Prod.ext e1 e2]

/-- A reader has read the files P, and t comes behind. -/
structure Rd (s : List UInt8) (P : List Ent) (t : List UInt8) : Prop where
  eq : s = linesL P ++ t
  good : ∀ x ∈ P, Good x
  only : ∀ L, Prs s L → ∃ R, Prs t R
theorem Rd.init (s : List UInt8) : Rd s [] s := ⟨rfl, (fun x hx => by cases hx), fun L h => ⟨L, h⟩⟩
theorem Rd.step {s t p b t' : List UInt8} {P : List Ent} (h : Rd s P t) (hf : FileIs t p b t') : Rd s (P ++ [(p, b)]) t' := by
  refine ⟨?_, ?_, ?_⟩
  · rw [linesL_snoc, h.eq, hf.1]
    simp
  · intro x hx
    rcases List.mem_append.1 hx with hx | hx
    · exact h.good x hx
    · rw [List.mem_singleton] at hx
      subst hx
      exact hf.2
  · intro L hL
    obtain ⟨R, hR⟩ := h.only L hL
    cases R with
    | nil =>
      exfalso
      have := hR.1
      rw [hf.1] at this
      exact lineL_ne _ _ _ this
    | cons x R =>
      obtain ⟨f, g⟩ := hR.cons
      obtain ⟨-, -, e⟩ := hf.one f
      exact ⟨R, by rw [e]; exact g⟩
theorem Rd.fin {s : List UInt8} {P : List Ent} (h : Rd s P []) : Prs s P := ⟨by rw [h.eq, List.append_nil], h.good⟩
theorem Rd.fail {s t : List UInt8} {P : List Ent} (h : Rd s P t) (hne : t ≠ []) (hno : ∀ p b t', ¬ FileIs t p b t') : ∀ L, ¬ Prs s L := fun L hL => by
  obtain ⟨R, hR⟩ := h.only L hL
  cases R with
  | nil => exact hne hR.1
  | cons x R => exact hno _ _ _ hR.cons.1
theorem linesL_ge : ∀ L : List Ent, L.length ≤ (linesL L).length
  | [] => by simp
  | x :: L => by
    rw [linesL_cons, List.length_append, List.length_cons]
    have := lineL_pos x.1 x.2
    have := linesL_ge L
    omega
theorem Rd.len {s t : List UInt8} {P : List Ent} (h : Rd s P t) : P.length + t.length ≤ s.length := by
  rw [h.eq, List.length_append]
  have := linesL_ge P
  omega
theorem Rd.path {s t : List UInt8} {P : List Ent} (h : Rd s P t) : ∀ x ∈ P, x.1.length ≤ s.length := fun x hx => by
  rw [h.eq]
  obtain ⟨a, b, rfl⟩ := List.append_of_mem hx
  simp [linesL, lineL]
  omega

/-- The files put one by one: the first error, or what comes of it. -/
def putsR : List Ent → List Ent → Nat × List Ent
  | [], M => (0, M)
  | x :: r, M => if putC x.1 x.2 M = 0 then putsR r (rputM x.1 x.2 M) else (putC x.1 x.2 M, M)
theorem putsR_ok {x : Ent} {r M : List Ent} (h : putC x.1 x.2 M = 0) : putsR (x :: r) M = putsR r (rputM x.1 x.2 M) := by
  rw [putsR, if_pos h]
theorem putsR_bad {x : Ent} {r M : List Ent} (h : putC x.1 x.2 M ≠ 0) : putsR (x :: r) M = (putC x.1 x.2 M, M) := by
  rw [putsR, if_neg h]
def Rises (L : List Ent) : Prop := (ksOf L).Pairwise (· < ·)
theorem Rises.step {L : List Ent} {j : Nat} (hj : j < L.length) (h : Rises (L.take j)) (h2 : ∀ i (h : i + 1 = j), (L[i]'(by omega)).1 < L[j].1) : Rises (L.take (j + 1)) := by
  unfold Rises at *
  rw [List.take_succ_eq_append_getElem hj]
  simp only [ksOf, List.map_append, List.map_cons, List.map_nil] at *
  rw [List.pairwise_append]
  refine ⟨h, by simp, fun a ha b hb => ?_⟩
  rw [List.mem_singleton] at hb
  subst hb
  obtain ⟨x, hx, rfl⟩ := List.mem_map.1 ha
  obtain ⟨i, hi, rfl⟩ := List.getElem_of_mem hx
  rw [List.length_take] at hi
  rw [List.getElem_take]
  by_cases he : i + 1 = j
  · exact h2 i he
  · have h3 := h2 (j - 1) (by omega)
    have := (List.pairwise_iff_getElem.1 h) i (j - 1) (by simp; omega) (by simp; omega) (by omega)
    simp only [List.getElem_map, List.getElem_take] at this
    exact List.lt_trans this h3
theorem Rises.not {L : List Ent} {i : Nat} (hi : i + 1 < L.length) (h : ¬ (L[i]'(by omega)).1 < L[i + 1].1) : ¬ Rises L := fun hr => by
  apply h
  have := (List.pairwise_iff_getElem.1 hr) i (i + 1) (by simp; omega) (by simpa using hi) (by omega)
  simpa using this
theorem insS_last {p b : List UInt8} : ∀ {M : List Ent}, (∀ x ∈ M, x.1 < p) → insS p b M = M ++ [(p, b)]
  | [], _ => rfl
  | x :: M, h => by
    rw [insS_cons, if_pos (by rw [bytesLess_eq]; simpa using h x List.mem_cons_self), insS_last (fun y hy => h y (List.mem_cons_of_mem _ hy))]
    rfl
theorem look_not {p : List UInt8} {M : List Ent} (h : ∀ x ∈ M, x.1 < p) : mlook p M = none := by
  cases hk : mlook p M with
  | none => rfl
  | some v =>
    exfalso
    have hs : (mlook p M).isSome = true := by rw [hk]; rfl
    obtain ⟨i, -, hi, he, -⟩ := mplace_of_look hs
    have := h _ (List.getElem_mem hi)
    rw [he] at this
    exact List.lt_irrefl _ this
theorem putsR_rises : ∀ {r M : List Ent}, Rises (M ++ r) → (putsR r M).1 = 0 → (putsR r M).2 = M ++ r
  | [], M, _, _ => by simp [putsR]
  | x :: r, M, h, hc => by
    by_cases h0 : putC x.1 x.2 M = 0
    · rw [putsR_ok h0] at hc ⊢
      have hlt : ∀ y ∈ M, y.1 < x.1 := fun y hy => by
        have hp := h
        unfold Rises at hp
        simp only [ksOf, List.map_append, List.map_cons] at hp
        rw [List.pairwise_append] at hp
        exact hp.2.2 y.1 (List.mem_map_of_mem hy) x.1 List.mem_cons_self
      have e : rputM x.1 x.2 M = M ++ [x] := by
        unfold rputM
        rw [if_pos h0, look_not hlt, if_neg (by decide), insS_last hlt]
      rw [e] at hc ⊢
      have h' : Rises ((M ++ [x]) ++ r) := by rw [List.append_assoc]; exact h
      rw [putsR_rises h' hc, List.append_assoc]
      rfl
    · rw [putsR_bad h0] at hc
      exact absurd hc h0

/-- What a reader answers to s: the code, and the files. -/
def Ans (s : List UInt8) (c : Nat) (M : List Ent) : Prop :=
  ((∀ L, ¬ Prs s L) ∧ c = 1) ∨ ∃ L, Prs s L ∧ (((putsR L []).1 ≠ 0 ∧ c = (putsR L []).1) ∨ ((putsR L []).1 = 0 ∧ ¬ Rises L ∧ c = 3) ∨ ((putsR L []).1 = 0 ∧ Rises L ∧ c = 0 ∧ M = L))
theorem Ans.code {s : List UInt8} {c c' : Nat} {M M' : List Ent} (h : Ans s c M) (h' : Ans s c' M') : c = c' := by
  rcases h with ⟨h1, h2⟩ | ⟨L, h1, h2⟩
  · rcases h' with ⟨h3, h4⟩ | ⟨L', h3, -⟩
    · rw [h2, h4]
    · exact absurd h3 (h1 _)
  · rcases h' with ⟨h3, -⟩ | ⟨L', h3, h4⟩
    · exact absurd h1 (h3 _)
    · obtain rfl := h1.one h3
      rcases h2 with ⟨a, b⟩ | ⟨a, b, d⟩ | ⟨a, b, d, -⟩ <;> rcases h4 with ⟨a', b'⟩ | ⟨a', b', d'⟩ | ⟨a', b', d', -⟩ <;> first | omega | exact absurd a a' | exact absurd a' a | exact absurd b b' | exact absurd b' b | (rw [b, b'])
theorem Ans.zero {s : List UInt8} {M : List Ent} (h : Ans s 0 M) : s = linesL M := by
  rcases h with ⟨-, h2⟩ | ⟨L, h1, h2⟩
  · cases h2
  · rcases h2 with ⟨a, b⟩ | ⟨a, b, d⟩ | ⟨a, b, d, rfl⟩
    · exact absurd b.symm a
    · cases d
    · exact h1.1
theorem putC_le (p b : List UInt8) (M : List Ent) : putC p b M ≤ 8 := by
  unfold putC
  repeat' split
  all_goals omega
theorem putsR_le : ∀ (r M : List Ent), (putsR r M).1 ≤ 8
  | [], M => by simp [putsR]
  | x :: r, M => by
    by_cases h0 : putC x.1 x.2 M = 0
    · rw [putsR_ok h0]; exact putsR_le r _
    · rw [putsR_bad h0]; exact putC_le _ _ _
theorem Ans.le {s : List UInt8} {c : Nat} {M : List Ent} (h : Ans s c M) : c ≤ 8 := by
  rcases h with ⟨-, h2⟩ | ⟨L, h1, h2⟩
  · omega
  · have := putsR_le L []
    rcases h2 with ⟨a, b⟩ | ⟨a, b, d⟩ | ⟨a, b, d, -⟩ <;> omega

theorem spl_lens : ∀ s : List UInt8, s.length + 1 ≤ ((spl 47 s).map fun t => t.length + 1).sum
  | [] => by simp [spl]
  | b :: s => by
    have ih := spl_lens s
    unfold spl
    by_cases hb : b = 47
    · rw [if_pos hb]
      simp only [List.map_cons, List.sum_cons, List.length_nil, List.length_cons]
      omega
    · rw [if_neg hb]
      cases hq : spl 47 s with
      | nil => rw [hq] at ih; simp at ih
      | cons x r =>
        rw [hq] at ih
        simp only [List.map_cons, List.sum_cons, List.length_cons] at ih ⊢
        omega
theorem sum_le {k : Nat} : ∀ l : List Nat, (∀ x ∈ l, x ≤ k) → l.sum ≤ k * l.length
  | [], _ => by simp
  | x :: l, h => by
    have h1 := h x List.mem_cons_self
    have h2 := sum_le l (fun y hy => h y (List.mem_cons_of_mem _ hy))
    rw [List.sum_cons, List.length_cons, Nat.mul_succ]
    omega
theorem isPathB_len {p : List UInt8} (h : isPathB p = true) : p.length ≤ 100 := by
  have hs : (spl 47 p).length ≤ 5 ∧ namesB false (spl 47 p) = true := by
    unfold isPathB partsL at h
    split at h
    · rename_i hc; exact hc
    · cases h
  have h1 := spl_lens p
  have h2 := sum_le (k := 13) ((spl 47 p).map fun t => t.length + 1) (fun x hx => by
    obtain ⟨t, ht, rfl⟩ := List.mem_map.1 hx
    have hn := (List.all_eq_true.1 hs.2) t ht
    unfold nameB at hn
    simp only [Bool.and_eq_true, decide_eq_true_eq] at hn
    omega)
  rw [List.length_map] at h2
  have := hs.1
  omega
theorem putC_path {p b : List UInt8} {M : List Ent} (h : putC p b M = 0) : p.length ≤ 100 := by
  apply isPathB_len
  cases hp : isPathB p
  · unfold putC at h
    rw [if_pos hp] at h
    cases h
  · rfl
end Go.Proofs.YtmkpeopebddnjaaGreatDoor
