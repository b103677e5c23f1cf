/-
  Levels of rules in plain words: each rule's level; what each row holds. The reference's LevelOf.
-/
import Derived.Test.YtgoeoekdlcbmpaaGreatDoorBdJ
import Derived.Test.YtgoeoekdlcbmpaaGreatDoorBdB
import Derived.Test.YtgoeoekdlcbmpaaGreatDoorPkG
import Derived.Test.YtgoeoekdlcbmpaaGreatDoorPkI

namespace Go.Proofs.YtgoeoekdlcbmpaaGreatDoor
open Go Go.RowKit Go.Kf Go.Sort Go.Proofs

/-- The level of a rule that needs E. -/
def IsSup (E : List Nat) (H : Nat → Nat) (x : Nat) : Prop := (∀ k ∈ E, H k + 1 ≤ x) ∧ (x = 0 ∨ ∃ k ∈ E, x = H k + 1)
theorem IsSup.congr {E : List Nat} {H G : Nat → Nat} {x : Nat} (h : IsSup E H x) (e : ∀ k ∈ E, G k = H k) : IsSup E G x :=
  ⟨fun k hk => by rw [e k hk]; exact h.1 k hk, h.2.imp id (fun ⟨k, hk, h2⟩ => ⟨k, hk, by rw [e k hk]; exact h2⟩)⟩
theorem IsSup.same {E : List Nat} {H : Nat → Nat} {x y : Nat} (h : IsSup E H x) (k : IsSup E H y) : x = y := by
  have a : x ≤ y := by
    rcases h.2 with e | ⟨q, hq, e⟩
    · omega
    · have := k.1 q hq; omega
  have b : y ≤ x := by
    rcases k.2 with e | ⟨q, hq, e⟩
    · omega
    · have := h.1 q hq; omega
  omega
theorem IsSup.nil (H : Nat → Nat) : IsSup [] H 0 := ⟨fun k h => (by cases h), Or.inl rfl⟩
theorem IsSup.skip {E : List Nat} {H : Nat → Nat} {x : Nat} (h : IsSup E H x) : IsSup (E ++ []) H x := by rw [List.append_nil]; exact h
theorem IsSup.snoc {E : List Nat} {H : Nat → Nat} {x k : Nat} (h : IsSup E H x) : IsSup (E ++ [k]) H (max x (H k + 1)) := by
  refine ⟨fun q hq => ?_, ?_⟩
  · rcases List.mem_append.1 hq with h1 | h1
    · have := h.1 q h1; omega
    · rw [List.mem_singleton.1 h1]; omega
  · by_cases hle : H k + 1 ≤ x
    · rw [Nat.max_eq_left hle]
      exact h.2.imp id (fun ⟨q, hq, e⟩ => ⟨q, List.mem_append_left _ hq, e⟩)
    · rw [Nat.max_eq_right (by omega)]
      exact Or.inr ⟨k, List.mem_append_right _ (List.mem_singleton_self _), rfl⟩
theorem lvOf_ge {lv : List (List UInt8 × Nat)} {ins : List (List UInt8)} {s : List UInt8} {k : Nat} (hs : s ∈ ins) (h : mlook s lv = some k) : k + 1 ≤ lvOf lv ins := by
  induction ins using snoc_ind with
  | h0 => cases hs
  | h1 ins a ih =>
    rcases List.mem_append.1 hs with h1 | h1
    · have := ih h1
      cases ha : mlook a lv with
      | none => rw [lvOf_none ha]; exact this
      | some q => rw [lvOf_some ha]; omega
    · obtain rfl := List.mem_singleton.1 h1
      rw [lvOf_some h]; omega
theorem lvOf_hit (lv : List (List UInt8 × Nat)) (ins : List (List UInt8)) : lvOf lv ins = 0 ∨ ∃ s ∈ ins, ∃ k, mlook s lv = some k ∧ lvOf lv ins = k + 1 := by
  induction ins using snoc_ind with
  | h0 => exact Or.inl rfl
  | h1 ins a ih =>
    cases ha : mlook a lv with
    | none =>
      rw [lvOf_none ha]
      exact ih.imp id (fun ⟨s, hs, k, h1, h2⟩ => ⟨s, List.mem_append_left _ hs, k, h1, h2⟩)
    | some q =>
      rw [lvOf_some ha]
      by_cases hle : q + 1 ≤ lvOf lv ins
      · rw [Nat.max_eq_left hle]
        exact ih.imp id (fun ⟨s, hs, k, h1, h2⟩ => ⟨s, List.mem_append_left _ hs, k, h1, h2⟩)
      · rw [Nat.max_eq_right (by omega)]
        exact Or.inr ⟨a, List.mem_append_right _ (List.mem_singleton_self _), q, ha, rfl⟩
/-- What the levels hold while they are made. -/
structure LInv (l : List RuleL) (o : List Nat) (H : Nat → Nat) : Prop where
  look : ∀ s k, mlook s (levsTo l o).1 = some k ↔ ∃ i ∈ o, (l.getD i noR).out = s ∧ H i = k
  rows : ∀ (k : Nat) (hk : k < (levsTo l o).2.length) (j : Nat), j ∈ (levsTo l o).2[k] ↔ j ∈ o ∧ H j = k
  nd : ∀ r ∈ (levsTo l o).2, r.Nodup
  ne : ∀ r ∈ (levsTo l o).2, r ≠ []
  bd : ∀ i ∈ o, H i < (levsTo l o).2.length
theorem lev_ok {l : List RuleL} {isB : Nat → Bool} {o : List Nat} (hr : Right l) (ho : Outs (edgesB l) isB l.length o) : ∀ t, t ≤ o.length → ∃ H, LInv l (o.take t) H ∧ ∀ i ∈ o.take t, IsSup (edgesB l i) H (H i)
  | 0, _ => ⟨fun _ => 0, ⟨fun s k => ⟨fun h => (by cases h), fun ⟨i, hi, _⟩ => (by simp at hi)⟩, fun k hk => (by simp [levsTo] at hk), fun r hr => (by simp [levsTo] at hr), fun r hr => (by simp [levsTo] at hr), fun i hi => (by simp at hi)⟩, fun i hi => (by simp at hi)⟩
  | t + 1, ht => by
    obtain ⟨H, hI, hS⟩ := lev_ok hr ho t (by omega)
    have hlt : t < o.length := by omega
    have hTK : o.take (t + 1) = o.take t ++ [o[t]] := List.take_succ_eq_append_getElem hlt
    have hnew : o[t] ∉ o.take t := fun hm => by
      obtain ⟨q, hq, e⟩ := List.mem_iff_getElem.1 hm
      rw [List.length_take] at hq
      rw [List.getElem_take] at e
      have := nodup_at ho.nd e
      omega
    have hback := ho.back t hlt
    have hil := (ho.lt _ (List.getElem_mem hlt)).1
    have hol : ∀ j ∈ o.take t, j < l.length := fun j hj => (ho.lt j (List.mem_of_mem_take hj)).1
    have hclo : ∀ j ∈ o.take t, ∀ k ∈ edgesB l j, k ∈ o.take t := fun j hj k hk => by
      obtain ⟨q, hq, e⟩ := List.mem_iff_getElem.1 hj
      rw [List.length_take] at hq
      rw [List.getElem_take] at e
      subst e
      have := ho.back q (by omega) k hk
      exact List.take_subset_take_left o (by omega) this
    generalize o[t] = i at *
    generalize o.take t = p at *
    obtain ⟨n, hn⟩ : ∃ n, lvOf (levsTo l p).1 (l.getD i noR).ins = n := ⟨_, rfl⟩
    have hst : levsTo l (p ++ [i]) = (mupd (l.getD i noR).out n (levsTo l p).1, addRow (levsTo l p).2 n i) := by rw [levsTo_snoc]; unfold levStep; rw [hn]
    have hnl : n ≤ (levsTo l p).2.length := by rw [← hn]; exact lev_le l p _
    have hsup : IsSup (edgesB l i) H n := by
      refine ⟨fun k hk => ?_, ?_⟩
      · obtain ⟨hkl, hko⟩ := (mem_edges hil).1 hk
        rw [← hn, getD_at hil]
        exact lvOf_ge hko ((hI.look _ _).2 ⟨k, hback k hk, by rw [getD_at hkl], rfl⟩)
      · rw [← hn]
        refine (lvOf_hit _ _).imp id (fun ⟨s, hs, k, h1, h2⟩ => ?_)
        obtain ⟨j, hj, e1, e2⟩ := (hI.look _ _).1 h1
        have hjl := hol j hj
        refine ⟨j, (mem_edges hil).2 ⟨hjl, ?_⟩, by rw [h2, e2]⟩
        rw [getD_at hjl] at e1
        rw [getD_at hil] at hs
        rw [e1]
        exact hs
    obtain ⟨G, hG⟩ : ∃ G : Nat → Nat, G = fun j => if j = i then n else H j := ⟨_, rfl⟩
    have hGi : G i = n := by rw [hG]; exact if_pos rfl
    have hGo : ∀ j ∈ p, G j = H j := fun j hj => by
      rw [hG]
      exact if_neg (fun e : j = i => hnew (e ▸ hj))
    have hlk := hI.look
    have hrw := hI.rows
    have hnd := hI.nd
    have hne := hI.ne
    have hbd := hI.bd
    refine ⟨G, ?_, ?_⟩
    · rw [hTK]
      have hmem : ∀ j, j ∈ p ++ [i] ↔ j ∈ p ∨ j = i := fun j => by simp
      constructor
      · intro s k
        rw [hst]
        simp only
        rw [mlook_upd]
        by_cases hs : (l.getD i noR).out = s
        · rw [if_pos hs]
          constructor
          · intro e
            exact ⟨i, (hmem i).2 (Or.inr rfl), hs, by rw [hGi]; exact Option.some.inj e⟩
          · rintro ⟨j, hj, e1, e2⟩
            have : j = i := by
              rcases (hmem j).1 hj with h1 | h1
              · have hjl := hol j h1
                rw [← hs, getD_at hjl, getD_at hil] at e1
                exact hr.outs hjl hil e1
              · exact h1
            rw [← e2, this, hGi]
        · rw [if_neg hs, hlk]
          constructor
          · rintro ⟨j, hj, e1, e2⟩
            exact ⟨j, (hmem j).2 (Or.inl hj), e1, by rw [hGo j hj]; exact e2⟩
          · rintro ⟨j, hj, e1, e2⟩
            rcases (hmem j).1 hj with h1 | h1
            · exact ⟨j, h1, e1, by rw [← hGo j h1]; exact e2⟩
            · rw [h1] at e1; exact absurd e1 hs
      all_goals
        rw [hst]
        simp only
        generalize (levsTo l p).2 = rows at *
        unfold addRow
      · intro k hk j
        rw [hmem]
        by_cases hnr : n = rows.length
        · simp only [if_pos hnr] at hk ⊢
          by_cases hkl : k < rows.length
          · rw [List.getElem_append_left hkl, hrw k hkl]
            constructor
            · rintro ⟨h1, h2⟩; exact ⟨Or.inl h1, by rw [hGo j h1]; exact h2⟩
            · rintro ⟨h1 | h1, h2⟩
              · exact ⟨h1, by rw [← hGo j h1]; exact h2⟩
              · rw [h1, hGi] at h2; omega
          · have : k = rows.length := by simp at hk; omega
            subst this
            rw [List.getElem_append_right (Nat.le_refl _)]
            simp only [Nat.sub_self, List.getElem_singleton, List.mem_singleton]
            constructor
            · intro h1; exact ⟨Or.inr h1, by rw [h1, hGi]; exact hnr⟩
            · rintro ⟨h1 | h1, h2⟩
              · rw [hGo j h1] at h2
                have := hbd j h1
                omega
              · exact h1
        · simp only [if_neg hnr] at hk ⊢
          have hkl : k < rows.length := by rw [List.length_set] at hk; exact hk
          have hnl' : n < rows.length := by omega
          rw [List.getElem_set]
          by_cases hkn : n = k
          · subst hkn
            rw [if_pos rfl, List.mem_append, List.mem_singleton, List.getD_eq_getElem?_getD, List.getElem?_eq_getElem hnl', Option.getD_some, hrw n hnl']
            constructor
            · rintro (⟨h1, h2⟩ | h1)
              · exact ⟨Or.inl h1, by rw [hGo j h1]; exact h2⟩
              · exact ⟨Or.inr h1, by rw [h1]; exact hGi⟩
            · rintro ⟨h1 | h1, h2⟩
              · exact Or.inl ⟨h1, by rw [← hGo j h1]; exact h2⟩
              · exact Or.inr h1
          · rw [if_neg hkn, hrw k hkl]
            constructor
            · rintro ⟨h1, h2⟩; exact ⟨Or.inl h1, by rw [hGo j h1]; exact h2⟩
            · rintro ⟨h1 | h1, h2⟩
              · exact ⟨h1, by rw [← hGo j h1]; exact h2⟩
              · rw [h1, hGi] at h2; exact absurd h2 hkn
      · intro r hrr
        by_cases hnr : n = rows.length
        · rw [if_pos hnr] at hrr
          rcases List.mem_append.1 hrr with h1 | h1
          · exact hnd r h1
          · rw [List.mem_singleton.1 h1]; simp
        · rw [if_neg hnr] at hrr
          have hnl' : n < rows.length := by omega
          rcases List.mem_or_eq_of_mem_set hrr with h1 | rfl
          · exact hnd r h1
          · rw [List.getD_eq_getElem?_getD, List.getElem?_eq_getElem hnl', Option.getD_some, List.nodup_append]
            refine ⟨hnd _ (List.getElem_mem hnl'), by simp, fun a ha b hb e => ?_⟩
            rw [List.mem_singleton.1 hb] at e
            rw [e] at ha
            exact hnew ((hrw n hnl' i).1 ha).1
      · intro r hrr
        by_cases hnr : n = rows.length
        · rw [if_pos hnr] at hrr
          rcases List.mem_append.1 hrr with h1 | h1
          · exact hne r h1
          · rw [List.mem_singleton.1 h1]; simp
        · rw [if_neg hnr] at hrr
          rcases List.mem_or_eq_of_mem_set hrr with h1 | rfl
          · exact hne r h1
          · simp
      · intro j hj
        have hlen := (addRow_len (rows := rows) (n := n) (i := i))
        unfold addRow at hlen
        rcases (hmem j).1 hj with h1 | h1
        · rw [hGo j h1]
          have := hbd j h1
          omega
        · rw [h1, hGi]
          exact hlen.2.2 hnl
    · rw [hTK]
      intro j hj
      rcases List.mem_append.1 hj with h1 | h1
      · rw [hGo j h1]
        exact (hS j h1).congr (fun k hk => hGo k (hclo j h1 k hk))
      · obtain rfl := List.mem_singleton.1 h1
        rw [hGi]
        exact hsup.congr (fun k hk => hGo k (hback k hk))
/-- The rules of a level, rising. -/
def atLev (n : Nat) (H : Nat → Nat) (k : Nat) : List Nat := (List.range n).filter fun i => decide (H i = k)
/-- All rows of levels. -/
structure LevAll (l : List RuleL) (o : List Nat) (H : Nat → Nat) (L : Nat) : Prop where
  rows : (levsTo l o).2.map (fun r => sortI (intsB r)) = (List.range L).map fun k => intsB (atLev l.length H k)
  sup : ∀ i, i < l.length → IsSup (edgesB l i) H (H i)
  bd : ∀ i, i < l.length → H i < L
  ne : ∀ k, k < L → atLev l.length H k ≠ []
theorem lev_all {l : List RuleL} {o : List Nat} (hr : RightS l) (ho : orderB (edgesB l) (fun _ => true) l.length = some o) : ∃ H L, LevAll l o H L := by
  have hom := order_mem ho
  obtain ⟨H, hI, hS⟩ := lev_ok hr.2 hom.1 o.length (Nat.le_refl _)
  rw [List.take_length] at hI hS
  have hall : ∀ i, i < l.length → i ∈ o := fun i hi => hom.2 i hi rfl
  have hrow : ∀ (k : Nat) (hk : k < (levsTo l o).2.length), ((levsTo l o).2[k]).Perm (atLev l.length H k) := fun k hk => by
    refine (List.perm_ext_iff_of_nodup (hI.nd _ (List.getElem_mem hk)) (List.nodup_range.filter _)).2 (fun j => ?_)
    rw [hI.rows k hk j, List.mem_filter, List.mem_range, decide_eq_true_eq]
    exact ⟨fun h => ⟨(hom.1.lt j h.1).1, h.2⟩, fun h => ⟨hall j h.1, h.2⟩⟩
  refine ⟨H, (levsTo l o).2.length, ?_, fun i hi => hS i (hall i hi), fun i hi => hI.bd i (hall i hi), fun k hk h => ?_⟩
  · apply List.ext_getElem
    · simp
    · intro k h1 h2
      rw [List.length_map] at h1
      rw [List.getElem_map, List.getElem_map, List.getElem_range]
      exact sort_perm (hrow k h1) (List.Pairwise.filter _ List.pairwise_lt_range)
  · have := (hrow k hk).length_eq
    rw [h] at this
    exact hI.ne _ (List.getElem_mem hk) (List.length_eq_zero_iff.1 this)
/-- How many are below a level. -/
def belowLev (n : Nat) (H : Nat → Nat) (k : Nat) : Nat := ((List.range n).filter fun i => decide (H i < k)).length
theorem belowLev_zero (n : Nat) (H : Nat → Nat) : belowLev n H 0 = 0 := by simp [belowLev]
theorem belowLev_succ (n : Nat) (H : Nat → Nat) (k : Nat) : belowLev n H (k + 1) = belowLev n H k + (atLev n H k).length := by
  unfold belowLev atLev
  induction List.range n with
  | nil => rfl
  | cons a t ih =>
    simp only [List.filter_cons]
    by_cases h1 : H a < k
    · have hA : decide (H a < k) = true := decide_eq_true h1
      have hB : decide (H a = k) = false := decide_eq_false (by omega)
      have hC : decide (H a < k + 1) = true := decide_eq_true (by omega)
      simp only [hA, hB, hC, if_true, Bool.false_eq_true, if_false, List.length_cons]
      omega
    · have hA : decide (H a < k) = false := decide_eq_false h1
      by_cases h2 : H a = k
      · have hB : decide (H a = k) = true := decide_eq_true h2
        have hC : decide (H a < k + 1) = true := decide_eq_true (by omega)
        simp only [hA, hB, hC, if_true, Bool.false_eq_true, if_false, List.length_cons]
        omega
      · have hB : decide (H a = k) = false := decide_eq_false h2
        have hC : decide (H a < k + 1) = false := decide_eq_false (by omega)
        simp only [hA, hB, hC, Bool.false_eq_true, if_false]
        exact ih
theorem belowLev_le (n : Nat) (H : Nat → Nat) (k : Nat) : belowLev n H k ≤ n := by
  have := List.length_filter_le (fun i => decide (H i < k)) (List.range n)
  rwa [List.length_range] at this
theorem belowLev_all {n : Nat} {H : Nat → Nat} {L : Nat} (h : ∀ i, i < n → H i < L) : belowLev n H L = n := by
  unfold belowLev
  rw [List.filter_eq_self.2 (fun i hi => decide_eq_true (h i (List.mem_range.1 hi))), List.length_range]
theorem atLev_at {n : Nat} {H : Nat → Nat} {k i : Nat} (hi : i < (atLev n H k).length) : (atLev n H k)[i] < n ∧ H (atLev n H k)[i] = k := by
  have := List.mem_filter.1 (List.getElem_mem hi)
  exact ⟨List.mem_range.1 this.1, by simpa using this.2⟩
theorem atLev_rise {n : Nat} {H : Nat → Nat} {k i : Nat} (hi : i + 1 < (atLev n H k).length) : (atLev n H k)[i] < (atLev n H k)[i + 1] := by
  have h : (atLev n H k).Pairwise (· < ·) := List.Pairwise.filter _ List.pairwise_lt_range
  exact List.pairwise_iff_getElem.1 h i (i + 1) (by omega) hi (by omega)
end Go.Proofs.YtgoeoekdlcbmpaaGreatDoor

namespace Go.Proofs.YtgoeoekdlcbmpaaGreatDoor
open Go Go.RowKit Go.Kf Go.Sort Go.Proofs

theorem upTo_true {l : List RuleL} {i k : Nat} (h : needB l i k = true) : (List.range (k + 1)).filter (needB l i) = (List.range k).filter (needB l i) ++ [k] := by
  rw [List.range_succ, List.filter_append]
  simp [h]
theorem upTo_false {l : List RuleL} {i k : Nat} (h : needB l i k = false) : (List.range (k + 1)).filter (needB l i) = (List.range k).filter (needB l i) := by
  rw [List.range_succ, List.filter_append]
  simp [h]
set_option maxRecDepth 100000 in
set_option maxHeartbeats 2000000 in
theorem levelOf_any (R : List RV) (v : Value) (H : Nat → Nat) (L : Nat) (hS : ∀ i, i < R.length → IsSup (edgesB (R.map Prod.fst) i) H (H i)) (hL : ∀ i, i < R.length → H i < L) (hL2 : L ≤ 1000) (hn : R.length ≤ 1000) : ∀ (h i : Nat) (w : World), H i = h → i < R.length → ReadsK 4 w v (R.map rvRow) → (∀ x ∈ R, Reads w x.2 (x.1.ins.map str)) →
    Calls Tryz.prog 36 #[v, intE i] w fun e w' => e = .returned (intE (H i)) ∧ Below w.heap.size w w' := by
  intro h
  induction h using Nat.strongRecOn with
  | ind h ih =>
    intro i w hh hi hr hx
    have hrow : ∀ r ∈ R.map rvRow, r ≠ [] := fun r hr => by obtain ⟨x, -, rfl⟩ := List.mem_map.1 hr; simp [rvRow]
    obtain ⟨a, c, hv, -, -⟩ := id hr
    rw [List.length_map] at hv
    subst hv
    have hml : (R.map Prod.fst).length = R.length := List.length_map _
    have KN := Lib.hid (fun w1 (hb : Below w.heap.size w w1) (k : Nat) (hk : k < R.length) => needs_any R (.slice a R.length c) i k w1 (readsK_below0 hr hrow hb) (fun x h => (hx x h).below0 hb) hi hk)
    have KI := Lib.hid (fun w1 (hb : Below w.heap.size w w1) (k : Nat) (hk : k < R.length) (hlt : H k < h) => ih (H k) hlt k w1 rfl hk (readsK_below0 hr hrow hb) (fun x h => (hx x h).below0 hb))
    have HSI := Lib.hid (hS i hi)
    have HLL := Lib.hid hL
    have HLI := Lib.hid (hL i hi)
    have HHH := Lib.hid hh
    have HNE : Hid (∀ k, k < R.length → needB (R.map Prod.fst) i k = true → H k < h) := Lib.hid (fun k hk hnb => by
      have hm : k ∈ edgesB (R.map Prod.fst) i := List.mem_filter.2 ⟨List.mem_range.2 (by rw [hml]; exact hk), hnb⟩
      have := (hS i hi).1 k hm
      omega)
    have HED : Hid ((List.range R.length).filter (needB (R.map Prod.fst) i) = edgesB (R.map Prod.fst) i) := Lib.hid (by unfold edgesB; rw [hml])
    clear hr hx hrow hml hS hL ih hh
    go_enter Tryz.func36, Tryz.ntmps36
    go_wp2_with fail
    go_loopw [5, 6] (fun nv kv wl => ∃ k n : Nat, k ≤ R.length ∧ kv = .int .i64 k ∧ nv = .int .i64 (n : Int) ∧ n ≤ 1000 ∧ IsSup ((List.range k).filter (needB (R.map Prod.fst) i)) H n ∧ Below w.heap.size w wl) (fun _ kv _ => R.length - (intOf kv).toNat)
    case atStart => exact ⟨0, 0, by omega, rfl, rfl, by omega, IsSup.nil H, Below.refl _ _⟩
    case round =>
      obtain ⟨k, n, hk, rfl, rfl, hn9, hsup, hbk⟩ := hrel
      have HSU := Lib.hid hsup
      have HBK := Lib.hid hbk
      clear hsup
      by_cases hlt : k < R.length
      · have hlc : ((k : Int) < (R.length : Int)) = True := eq_true (by omega)
        have K := Lib.hid (KN.out wr hbk k hlt)
        have hzk := hbk.size
        cases hnb : needB (R.map Prod.fst) i k with
        | false =>
          rw [hnb] at K
          have HUP := Lib.hid (upTo_false hnb)
          clear hbk hnb
          go_wp2_with fail
          refine K.out.mono ?_
          rintro e w3 ⟨rfl, hb3⟩
          have HB3 := Lib.hid (HBK.out.trans (hb3.mono hzk))
          clear hb3
          go_wp2
          go_roundw
          case rel => exact ⟨k + 1, n, by omega, by go_num, rfl, hn9, by rw [HUP.out]; exact HSU.out, HB3.out⟩
          case measure => simp [intOf]; omega
        | true =>
          rw [hnb] at K
          have HUP := Lib.hid (upTo_true hnb)
          have hlk := HNE.out k hlt hnb
          have hkL := HLL.out k hlt
          have KK := Lib.hid (fun w1 (hb : Below w.heap.size w w1) => KI.out w1 hb k hlt hlk)
          have HSN := Lib.hid (HSU.out.snoc (k := k))
          generalize H k = d at *
          clear hbk hnb hlk
          go_wp2_with fail
          refine K.out.mono ?_
          rintro e w3 ⟨rfl, hb3⟩
          have HB3 := Lib.hid (HBK.out.trans (hb3.mono hzk))
          clear hb3
          go_wp2_with fail
          refine (KK.out w3 HB3.out).mono ?_
          rintro e w4 ⟨rfl, hb4⟩
          have HB4 := Lib.hid (HB3.out.trans (hb4.mono HB3.out.size))
          clear hb4
          by_cases hgt : n < d + 1
          · have e1 : ((n : Int) < (d : Int) + 1) = True := eq_true (by omega)
            have e2 : (n < d + 1) = True := eq_true hgt
            have e3 : (n ≤ d) = True := eq_true (by omega)
            have e4 : ((n : Int) ≤ (d : Int)) = True := eq_true (by omega)
            have HMX : Hid (max n (d + 1) = d + 1) := Lib.hid (by omega)
            have hd9 : d + 1 ≤ 1000 := by omega
            clear hgt
            go_wp2
            go_roundw
            case rel => exact ⟨k + 1, d + 1, by omega, by go_num, by go_num, hd9, by rw [HUP.out, ← HMX.out]; exact HSN.out, HB4.out⟩
            case measure => simp [intOf]; omega
          · have e1 : ((n : Int) < (d : Int) + 1) = False := eq_false (by omega)
            have e2 : (n < d + 1) = False := eq_false hgt
            have e3 : (n ≤ d) = False := eq_false (by omega)
            have e4 : ((n : Int) ≤ (d : Int)) = False := eq_false (by omega)
            have HMX : Hid (max n (d + 1) = n) := Lib.hid (by omega)
            clear hgt
            go_wp2
            go_roundw
            case rel => exact ⟨k + 1, n, by omega, by go_num, rfl, hn9, by rw [HUP.out]; have h1 := HSN.out; rw [HMX.out] at h1; exact h1, HB4.out⟩
            case measure => simp [intOf]; omega
      · obtain rfl : k = R.length := by omega
        have hlc : ((R.length : Int) < (R.length : Int)) = False := eq_false (by omega)
        have HEQ : Hid (n = H i) := Lib.hid (by
          have h1 := HSU.out
          rw [HED.out] at h1
          exact h1.same HSI.out)
        clear hbk
        go_wp2
        go_ret
        exact ⟨by rw [HEQ.out]; rfl, HBK.out⟩
end Go.Proofs.YtgoeoekdlcbmpaaGreatDoor
