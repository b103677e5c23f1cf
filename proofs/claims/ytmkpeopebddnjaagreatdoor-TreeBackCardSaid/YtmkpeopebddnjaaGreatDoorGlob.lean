/-
  Patterns with stars, over any alphabet: the plain function; it goes by the ends as by the heads.
-/
namespace Go.Kf

section
variable {α β : Type} (st : α → Bool) (m : α → β → Bool)
/-- Does a list fit a pattern? A star stands for any list. -/
def glob : List α → List β → Bool
  | [], s => s.isEmpty
  | c :: p, [] => if st c then glob p [] else false
  | c :: p, d :: s => if st c then glob p (d :: s) || glob (c :: p) s else m c d && glob p s
termination_by p s => p.length + s.length

theorem glob_nil (s : List β) : glob st m [] s = s.isEmpty := by rw [glob]
theorem glob_star {c : α} (h : st c = true) (p : List α) (s : List β) : glob st m (c :: p) s = (glob st m p s || (!s.isEmpty && glob st m (c :: p) s.tail)) := by
  cases s with
  | nil => rw [glob, if_pos h]; simp
  | cons d s => rw [glob, if_pos h]; simp
theorem glob_one {c : α} (h : st c = false) (p : List α) (s : List β) : glob st m (c :: p) s = match s with
    | [] => false
    | d :: s => m c d && glob st m p s := by
  cases s with
  | nil => rw [glob, if_neg (by simp [h])]
  | cons d s => rw [glob, if_neg (by simp [h])]

/-- As a relation. -/
inductive Fits : List α → List β → Prop
  | nil : Fits [] []
  | one {c d p s} : st c = false → m c d = true → Fits p s → Fits (c :: p) (d :: s)
  | skip {c p s} : st c = true → Fits p s → Fits (c :: p) s
  | eat {c p d s} : st c = true → Fits (c :: p) s → Fits (c :: p) (d :: s)
theorem fits_of_glob : ∀ (n : Nat) (p : List α) (s : List β), p.length + s.length ≤ n → glob st m p s = true → Fits st m p s := by
  intro n
  induction n with
  | zero =>
    intro p s hn h
    obtain rfl : p = [] := List.length_eq_zero_iff.1 (by omega)
    obtain rfl : s = [] := List.length_eq_zero_iff.1 (by omega)
    exact .nil
  | succ n ih =>
    intro p s hn h
    cases p with
    | nil =>
      rw [glob_nil] at h
      obtain rfl : s = [] := by simpa using h
      exact .nil
    | cons c p =>
      cases hc : st c with
      | true =>
        rw [glob_star st m hc] at h
        rcases Bool.or_eq_true_iff.1 h with h | h
        · exact .skip hc (ih p s (by simp at hn; omega) h)
        · rw [Bool.and_eq_true] at h
          cases s with
          | nil => simp at h
          | cons d s => exact .eat hc (ih (c :: p) s (by simp at hn ⊢; omega) h.2)
      | false =>
        rw [glob_one st m hc] at h
        cases s with
        | nil => cases h
        | cons d s =>
          rw [Bool.and_eq_true] at h
          exact .one hc h.1 (ih p s (by simp at hn; omega) h.2)
theorem glob_of_fits {p : List α} {s : List β} (h : Fits st m p s) : glob st m p s = true := by
  induction h with
  | nil => rw [glob_nil]; rfl
  | one hc hm _ ih => rw [glob_one st m hc]; simp [hm, ih]
  | skip hc _ ih => rw [glob_star st m hc, ih]; rfl
  | eat hc _ ih => rw [glob_star st m hc]; simp [ih]
theorem glob_iff {p : List α} {s : List β} : glob st m p s = true ↔ Fits st m p s := ⟨fits_of_glob st m _ p s (Nat.le_refl _), glob_of_fits st m⟩

variable {st m}
theorem Fits.append {p q : List α} {s t : List β} (h : Fits st m p s) (k : Fits st m q t) : Fits st m (p ++ q) (s ++ t) := by
  induction h with
  | nil => exact k
  | one hc hm _ ih => exact .one hc hm ih
  | skip hc _ ih => exact .skip hc ih
  | eat hc _ ih => exact .eat hc ih
theorem Fits.split {r : List α} {s : List β} (h : Fits st m r s) : ∀ {p q : List α}, r = p ++ q → ∃ a b, s = a ++ b ∧ Fits st m p a ∧ Fits st m q b := by
  induction h with
  | nil =>
    intro p q e
    obtain ⟨rfl, rfl⟩ := List.append_eq_nil_iff.1 e.symm
    exact ⟨[], [], rfl, .nil, .nil⟩
  | @one c d p' s' hc hm h' ih =>
    intro p q e
    cases p with
    | nil =>
      obtain rfl : c :: p' = q := by simpa using e
      exact ⟨[], _, rfl, .nil, .one hc hm h'⟩
    | cons x p =>
      simp only [List.cons_append, List.cons.injEq] at e
      obtain ⟨rfl, e⟩ := e
      obtain ⟨a, b, rfl, ha, hb⟩ := ih e
      exact ⟨d :: a, b, rfl, .one hc hm ha, hb⟩
  | @skip c p' s' hc h' ih =>
    intro p q e
    cases p with
    | nil =>
      obtain rfl : c :: p' = q := by simpa using e
      exact ⟨[], _, rfl, .nil, .skip hc h'⟩
    | cons x p =>
      simp only [List.cons_append, List.cons.injEq] at e
      obtain ⟨rfl, e⟩ := e
      obtain ⟨a, b, rfl, ha, hb⟩ := ih e
      exact ⟨a, b, rfl, .skip hc ha, hb⟩
  | @eat c p' d s' hc h' ih =>
    intro p q e
    cases p with
    | nil =>
      obtain rfl : c :: p' = q := by simpa using e
      exact ⟨[], _, rfl, .nil, .eat hc h'⟩
    | cons x p =>
      have e0 := e
      simp only [List.cons_append, List.cons.injEq] at e0
      obtain ⟨rfl, -⟩ := e0
      obtain ⟨a, b, rfl, ha, hb⟩ := ih e
      exact ⟨d :: a, b, rfl, .eat hc ha, hb⟩
theorem Fits.all {c : α} (hc : st c = true) : ∀ s : List β, Fits st m [c] s
  | [] => .skip hc .nil
  | _ :: s => .eat hc (Fits.all hc s)

/-- A pattern that ends in a star. -/
theorem glob_snoc_star {c : α} (hc : st c = true) (p : List α) (s : List β) (d : β) :
    glob st m (p ++ [c]) (s ++ [d]) = (glob st m p (s ++ [d]) || glob st m (p ++ [c]) s) := by
  rw [Bool.eq_iff_iff, Bool.or_eq_true, glob_iff, glob_iff, glob_iff]
  constructor
  · intro h
    obtain ⟨a, b, e, ha, hb⟩ := h.split rfl
    rcases List.eq_nil_or_concat b with rfl | ⟨b', x, rfl⟩
    · rw [List.append_nil] at e
      rw [e]; exact Or.inl ha
    · rw [List.concat_eq_append, ← List.append_assoc] at e
      obtain ⟨e1, -⟩ := List.append_inj' e rfl
      rw [e1]
      exact Or.inr (ha.append (Fits.all hc b'))
  · rintro (h | h)
    · have := h.append (Fits.all (m := m) hc ([] : List β))
      simpa using this
    · obtain ⟨a, b, rfl, ha, hb⟩ := h.split rfl
      rw [List.append_assoc]
      exact ha.append (Fits.all hc _)
theorem glob_snoc_nil {c : α} (hc : st c = true) (p : List α) : glob st m (p ++ [c]) ([] : List β) = glob st m p [] := by
  rw [Bool.eq_iff_iff, glob_iff, glob_iff]
  constructor
  · intro h
    obtain ⟨a, b, e, ha, hb⟩ := h.split rfl
    obtain ⟨rfl, rfl⟩ := List.append_eq_nil_iff.1 e.symm
    exact ha
  · intro h
    have := h.append (Fits.all (m := m) hc ([] : List β))
    simpa using this
/-- A pattern that ends in another letter. -/
theorem glob_snoc_one {c : α} (hc : st c = false) (p : List α) (s : List β) (d : β) :
    glob st m (p ++ [c]) (s ++ [d]) = (glob st m p s && m c d) := by
  rw [Bool.eq_iff_iff, Bool.and_eq_true, glob_iff, glob_iff]
  constructor
  · intro h
    obtain ⟨a, b, e, ha, hb⟩ := h.split rfl
    cases hb with
    | one _ hm hn =>
      cases hn
      obtain ⟨e1, e2⟩ := List.append_inj' e rfl
      simp only [List.cons.injEq, and_true] at e2
      rw [e1, e2]
      exact ⟨ha, hm⟩
    | skip hc' _ => rw [hc] at hc'; cases hc'
    | eat hc' _ => rw [hc] at hc'; cases hc'
  · rintro ⟨h, hm⟩
    exact h.append (.one hc hm .nil)
theorem glob_snoc_one_nil {c : α} (hc : st c = false) (p : List α) : glob st m (p ++ [c]) ([] : List β) = false := by
  rw [Bool.eq_false_iff]
  intro h
  rw [glob_iff] at h
  obtain ⟨a, b, e, ha, hb⟩ := h.split rfl
  obtain ⟨rfl, rfl⟩ := List.append_eq_nil_iff.1 e.symm
  cases hb with
  | skip hc' _ => rw [hc] at hc'; cases hc'
/-- A list without stars fits itself. -/
theorem Fits.self {p : List α} (hs : ∀ c ∈ p, st c = false) {m : α → α → Bool} (hm : ∀ c ∈ p, m c c = true) : Fits st m p p := by
  induction p with
  | nil => exact .nil
  | cons c p ih => exact .one (hs c List.mem_cons_self) (hm c List.mem_cons_self) (ih (fun x hx => hs x (List.mem_cons_of_mem _ hx)) (fun x hx => hm x (List.mem_cons_of_mem _ hx)))
end
end Go.Kf
