/-
  Levels of rules in plain words; rows of slices of ints, each of the call's own. Package pick: Levels and Deep at any rules.
-/
import Derived.Test.YtgoeoekdlcbmpaaGreatDoorPkG
import Derived.Test.YtgoeoekdlcbmpaaGreatDoorBdA
import Derived.Test.YtgoeoekdlcbmpaaGreatDoorPkR
import Derived.Test.YtgoeoekdlcbmpaaGreatDoorPkI

namespace Go.Proofs.YtgoeoekdlcbmpaaGreatDoor
open Go Go.RowKit Go.Kf Go.Sort Go.Proofs

/-- A rule's level, by the levels that are known. -/
def lvOf (lv : List (List UInt8 × Nat)) (ins : List (List UInt8)) : Nat := ins.foldl (fun n s => match mlook s lv with | some k => max n (k + 1) | none => n) 0
theorem lvOf_some {lv : List (List UInt8 × Nat)} {ins : List (List UInt8)} {s : List UInt8} {k : Nat} (h : mlook s lv = some k) : lvOf lv (ins ++ [s]) = max (lvOf lv ins) (k + 1) := by
  unfold lvOf
  rw [List.foldl_append]
  simp [h]
theorem lvOf_none {lv : List (List UInt8 × Nat)} {ins : List (List UInt8)} {s : List UInt8} (h : mlook s lv = none) : lvOf lv (ins ++ [s]) = lvOf lv ins := by
  unfold lvOf
  rw [List.foldl_append]
  simp [h]
theorem lvOf_le {lv : List (List UInt8 × Nat)} {n : Nat} (h : ∀ s k, mlook s lv = some k → k < n) (ins : List (List UInt8)) : lvOf lv ins ≤ n := by
  have key : ∀ (j : Nat), j ≤ ins.length → lvOf lv (ins.take j) ≤ n := by
    intro j
    induction j with
    | zero => intro _; exact Nat.zero_le _
    | succ j ih =>
      intro hj
      have ih := ih (by omega)
      rw [List.take_succ_eq_append_getElem (by omega)]
      cases hs : mlook ins[j] lv with
      | none => rw [lvOf_none hs]; exact ih
      | some k => rw [lvOf_some hs]; have := h _ _ hs; omega
  have := key ins.length (Nat.le_refl _)
  rwa [List.take_length] at this
/-- One more rule in its row. -/
def addRow (rows : List (List Nat)) (n i : Nat) : List (List Nat) := if n = rows.length then rows ++ [[i]] else rows.set n (rows.getD n [] ++ [i])
def levStep (l : List RuleL) (s : List (List UInt8 × Nat) × List (List Nat)) (i : Nat) : List (List UInt8 × Nat) × List (List Nat) :=
  (mupd (l.getD i noR).out (lvOf s.1 (l.getD i noR).ins) s.1, addRow s.2 (lvOf s.1 (l.getD i noR).ins) i)
def levsTo (l : List RuleL) (o : List Nat) : List (List UInt8 × Nat) × List (List Nat) := o.foldl (levStep l) ([], [])
theorem levsTo_snoc (l : List RuleL) (o : List Nat) (i : Nat) : levsTo l (o ++ [i]) = levStep l (levsTo l o) i := by simp [levsTo]
theorem addRow_len {rows : List (List Nat)} {n i : Nat} : rows.length ≤ (addRow rows n i).length ∧ (addRow rows n i).length ≤ rows.length + 1 ∧ (n ≤ rows.length → n < (addRow rows n i).length) := by
  unfold addRow
  split
  · simp; omega
  · simp; omega
theorem snoc_ind {α : Type} {p : List α → Prop} (h0 : p []) (h1 : ∀ l a, p l → p (l ++ [a])) (l : List α) : p l := by
  have : ∀ n, n ≤ l.length → p (l.take n) := by
    intro n
    induction n with
    | zero => intro _; simpa using h0
    | succ n ih => intro hn; rw [List.take_succ_eq_append_getElem (by omega)]; exact h1 _ _ (ih (by omega))
  have := this l.length (Nat.le_refl _)
  rwa [List.take_length] at this
theorem lev_lt (l : List RuleL) (o : List Nat) : ∀ s k, mlook s (levsTo l o).1 = some k → k < (levsTo l o).2.length := by
  induction o using snoc_ind with
  | h0 => intro s k h; cases h
  | h1 o i ih =>
    intro s k h
    rw [levsTo_snoc] at h ⊢
    unfold levStep at h ⊢
    simp only at h ⊢
    rw [mlook_upd] at h
    have hl := addRow_len (rows := (levsTo l o).2) (n := lvOf (levsTo l o).1 (l.getD i noR).ins) (i := i)
    split at h
    · obtain rfl := Option.some.inj h
      exact hl.2.2 (lvOf_le ih _)
    · have := ih s k h
      omega
theorem lev_le (l : List RuleL) (o : List Nat) (ins : List (List UInt8)) : lvOf (levsTo l o).1 ins ≤ (levsTo l o).2.length := lvOf_le (lev_lt l o) ins
theorem lev_len (l : List RuleL) (o : List Nat) : (levsTo l o).2.length ≤ o.length ∧ ∀ r ∈ (levsTo l o).2, r.length ≤ o.length := by
  induction o using snoc_ind with
  | h0 => exact ⟨Nat.le_refl _, fun r hr => by cases hr⟩
  | h1 o i ih =>
    rw [levsTo_snoc, List.length_append, List.length_singleton]
    unfold levStep
    simp only
    have hl := addRow_len (rows := (levsTo l o).2) (n := lvOf (levsTo l o).1 (l.getD i noR).ins) (i := i)
    refine ⟨by have := ih.1; omega, fun r hr => ?_⟩
    unfold addRow at hr
    split at hr
    · rcases List.mem_append.1 hr with h | h
      · have := ih.2 r h; omega
      · rw [List.mem_singleton.1 h]; simp
    · rename_i hne
      have hlt : lvOf (levsTo l o).1 (l.getD i noR).ins < (levsTo l o).2.length := by have := lev_le l o (l.getD i noR).ins; omega
      rcases List.mem_or_eq_of_mem_set hr with h | rfl
      · have := ih.2 r h; omega
      · rw [List.length_append, List.length_singleton, List.getD_eq_getElem?_getD, List.getElem?_eq_getElem hlt]
        have := ih.2 _ (List.getElem_mem hlt)
        simp only [Option.getD_some]
        omega

theorem addRow_new (rows : List (List Nat)) (i : Nat) : (addRow rows rows.length i).map intsB = ((rows ++ [[]]).map intsB).set rows.length (intsB ([] ++ [i])) := by
  unfold addRow
  rw [if_pos rfl]
  simp
theorem addRow_old {rows : List (List Nat)} {n : Nat} (i : Nat) (h : n < rows.length) : (addRow rows n i).map intsB = (rows.map intsB).set n (intsB (rows[n] ++ [i])) := by
  unfold addRow
  rw [if_neg (by omega), List.map_set, List.getD_eq_getElem?_getD, List.getElem?_eq_getElem h]
  rfl
/-- A slice of slices of ints, each of the call's own. -/
structure Rows2 (B : Nat) (w : World) (v : Value) (vs : List Value) (X : List (List Int)) : Prop where
  row : w.ownsRow B 24 1 v vs.length vs
  len : vs.length = X.length
  own : ∀ j (h : j < vs.length) (h2 : j < X.length), w.ownsRow B 3 1 vs[j] X[j].length (X[j].map (Value.int .i64))
  sep : ∀ j (h : j < vs.length), ∀ b, vs[j].ownBlock = some b → ∀ k (hk : k < vs.length), k ≠ j → vs[k].ownBlock ≠ some b
section
variable {B : Nat} {w w' w1 : World} {v v' : Value} {vs : List Value} {X : List (List Int)}
theorem typed_at {base : Nat} {e : TypeId} {s : Nat} {n : Nat} {xs : List Value} (h : w.ownsRow base e s v n xs) {k : Nat} (hk : v.ownBlock = some k) : ∃ cs, w.heap[k]? = some (.cells cs e (0, 0)) := by
  rcases h.2 with ⟨rfl, -⟩ | ⟨g, cap, cur, rfl, -, hh, -⟩
  · cases hk
  · simp only [Value.ownBlock] at hk
    cases hk
    exact ⟨cur, hh⟩
theorem Rows2.zero (B : Nat) (w : World) : Rows2 B w (.slice none 0 0) [] [] := ⟨World.ownsRow_nil _ _ _ _, rfl, fun j h => (by cases h), fun j h => (by cases h)⟩
theorem Rows2.base {B' : Nat} (h : Rows2 B w v vs X) (hB : B' ≤ B) : Rows2 B' w v vs X := ⟨ownsRow_base h.row hB, h.len, fun j h1 h2 => ownsRow_base (h.own j h1 h2) hB, h.sep⟩
/-- The row's own block is none of its slices' own. -/
theorem Rows2.ne (h : Rows2 B w v vs X) {b : Nat} (hb : v.ownBlock = some b) (j : Nat) (hj : j < vs.length) : vs[j].ownBlock ≠ some b := fun e => by
  obtain ⟨c1, h1⟩ := typed_at h.row hb
  obtain ⟨c2, h2⟩ := typed_at (h.own j hj (by rw [← h.len]; exact hj)) e
  rw [h1] at h2
  simp at h2
theorem Rows2.below (h : Rows2 B w v vs X) (hb : Below w.heap.size w w') : Rows2 B w' v vs X :=
  ⟨ownsRow_fr (S := fun _ => False) h.row (Fr.of_below hb) (fun q hq => ⟨(h.row.lt q hq).2, id⟩), h.len, fun j h1 h2 => ownsRow_fr (S := fun _ => False) (h.own j h1 h2) (Fr.of_below hb) (fun q hq => ⟨((h.own j h1 h2).lt q hq).2, id⟩), h.sep⟩
/-- A map elsewhere has turned. -/
theorem Rows2.fr {N : Nat} {S : Nat → Prop} (h : Rows2 B w v vs X) (hf : Fr N S w w') (hN : w.heap.size ≤ N) (hS : ∀ q, S q → q < B) : Rows2 B w' v vs X :=
  ⟨ownsRow_fr h.row hf (fun q hq => ⟨Nat.lt_of_lt_of_le (h.row.lt q hq).2 hN, fun hs => by have := hS q hs; have := (h.row.lt q hq).1; omega⟩), h.len, fun j h1 h2 => ownsRow_fr (h.own j h1 h2) hf (fun q hq => ⟨Nat.lt_of_lt_of_le ((h.own j h1 h2).lt q hq).2 hN, fun hs => by have := hS q hs; have := ((h.own j h1 h2).lt q hq).1; omega⟩), h.sep⟩
/-- One more, with nothing in it. -/
theorem Rows2.snoc (h : Rows2 B w v vs X) (hg : w.grownBy w1 v.ownBlock) (ho : w1.ownsRow B 24 1 v' (vs ++ [Value.slice none 0 0]).length (vs ++ [Value.slice none 0 0])) : Rows2 B w1 v' (vs ++ [Value.slice none 0 0]) (X ++ [[]]) := by
  have hnil : ∀ {b : Nat}, (Value.slice none 0 0).ownBlock ≠ some b := fun e => by cases e
  refine ⟨ho, by rw [List.length_append, List.length_append, h.len]; rfl, fun j h1 h2 => ?_, fun j h1 b hb k hk hkj => ?_⟩
  · rw [List.length_append, List.length_singleton] at h1
    by_cases hj : j < vs.length
    · rw [List.getElem_append_left hj, List.getElem_append_left (by rw [← h.len]; exact hj)]
      exact ownsRow_fr (h.own j hj (by rw [← h.len]; exact hj)) (Fr.of_grown hg) (fun q hq => ⟨((h.own j hj (by rw [← h.len]; exact hj)).lt q hq).2, fun e => h.ne (e ▸ rfl : v.ownBlock = some q) j hj hq⟩)
    · obtain rfl : j = vs.length := by omega
      rw [List.getElem_append_right (Nat.le_refl _), List.getElem_append_right (by rw [h.len]; exact Nat.le_refl _)]
      simp only [Nat.sub_self, h.len, List.getElem_singleton]
      exact World.ownsRow_nil _ _ _ _
  · rw [List.length_append, List.length_singleton] at h1 hk
    by_cases hj : j < vs.length
    · rw [List.getElem_append_left hj] at hb
      by_cases hk2 : k < vs.length
      · rw [List.getElem_append_left hk2]
        exact h.sep j hj b hb k hk2 hkj
      · obtain rfl : k = vs.length := by omega
        rw [List.getElem_append_right (Nat.le_refl _)]
        simp only [Nat.sub_self, List.getElem_singleton]
        exact hnil
    · obtain rfl : j = vs.length := by omega
      rw [List.getElem_append_right (Nat.le_refl _)] at hb
      simp only [Nat.sub_self, List.getElem_singleton] at hb
      exact absurd hb hnil
/-- A cell of a slice of the call's own is written. -/
theorem own_put {e : TypeId} {n g cap : Nat} {xs : List Value} (h : w.ownsRow B e 1 (.slice (some ⟨g, 0, none⟩) n cap) n xs) (i : Nat) (u : Value) : (w.setCell ⟨g, i, none⟩ u).ownsRow B e 1 (.slice (some ⟨g, 0, none⟩) n cap) n (xs.set i u) := by
  refine ⟨by rw [List.length_set]; exact h.1, ?_⟩
  rcases h.2 with ⟨h0, -⟩ | ⟨g', cap', cur, h0, hg, hh, hn, hcap, hsz, htake⟩
  · cases h0
  · cases h0
    refine Or.inr ⟨g, cap, cur.setIfInBounds i u, rfl, hg, Kf.heap_setCell_same hh u, hn, hcap, by simpa using hsz, ?_⟩
    rw [← htake, Array.toList_setIfInBounds, List.take_set]
theorem own_cell {e : TypeId} {n g cap : Nat} {xs : List Value} (h : w.ownsRow B e 1 (.slice (some ⟨g, 0, none⟩) n cap) n xs) {i : Nat} (hi : i < xs.length) : w.cell? ⟨g, i, none⟩ = some xs[i] ∧ w.frozen? ⟨g, i, none⟩ = false := by
  rcases h.2 with ⟨h0, -⟩ | ⟨g', cap', cur, h0, hg, hh, hn, hcap, hsz, htake⟩
  · cases h0
  · cases h0
    refine ⟨?_, free_of_heap hh i⟩
    rw [cell_of_heap hh]
    have h1 : (cur.toList.take (n * 1))[i]? = some xs[i] := by rw [htake]; exact List.getElem?_eq_getElem hi
    have hin : i < n * 1 := by have := h.1; omega
    rw [List.getElem?_take, if_pos hin] at h1
    simpa using h1
/-- A slice grown, and laid in its place. -/
theorem Rows2.put {g n cap : Nat} (h : Rows2 B w (.slice (some ⟨g, 0, none⟩) n cap) vs X) (hn : n = vs.length) {i : Nat} (hi : i < vs.length) {u : Value} {Y : List Int} (hg : w.grownBy w1 vs[i].ownBlock) (ho : w1.ownsRow B 3 1 u Y.length (Y.map (Value.int .i64)))
    (hloc : u.ownBlock = vs[i].ownBlock ∨ ∃ b0, w.heap.size ≤ b0 ∧ u.ownBlock = some b0) : Rows2 B (w1.setCell ⟨g, i, none⟩ u) (.slice (some ⟨g, 0, none⟩) n cap) (vs.set i u) (X.set i Y) := by
  subst hn
  have hvg : (Value.slice (some ⟨g, 0, none⟩) vs.length cap).ownBlock = some g := rfl
  have hgl : g < w.heap.size := (h.row.lt g hvg).2
  have hr1 : w1.ownsRow B 24 1 (.slice (some ⟨g, 0, none⟩) vs.length cap) vs.length vs := ownsRow_fr h.row (Fr.of_grown hg) (fun q hq => by
    rw [hvg] at hq
    obtain rfl := Option.some.inj hq
    exact ⟨hgl, fun e => h.ne hvg i hi (e ▸ rfl)⟩)
  have hng : ∀ b, u.ownBlock = some b → b ≠ g := fun b hb e => by
    subst e
    rcases hloc with e | ⟨b0, h0, e⟩
    · rw [e] at hb
      exact h.ne hvg i hi hb
    · rw [e] at hb
      obtain rfl := Option.some.inj hb
      omega
  have hset : ∀ {z : Value} {xs : List Int} (hv : w1.ownsRow B 3 1 z xs.length (xs.map (Value.int .i64))), (∀ b, z.ownBlock = some b → b ≠ g) → (w1.setCell ⟨g, i, none⟩ u).ownsRow B 3 1 z xs.length (xs.map (Value.int .i64)) := fun hv hne =>
    ownsRow_fr hv (Fr.setCell (S := fun k => k = g) (p := ⟨g, i, none⟩) (Fr.refl w1.heap.size _ w1) (fun _ => rfl) u) (fun k hk => ⟨(hv.lt k hk).2, hne k hk⟩)
  have hold : ∀ j (h1 : j < vs.length) (h2 : j < X.length), j ≠ i → w1.ownsRow B 3 1 vs[j] X[j].length (X[j].map (Value.int .i64)) := fun j h1 h2 hji =>
    ownsRow_fr (h.own j h1 h2) (Fr.of_grown hg) (fun k hk => ⟨((h.own j h1 h2).lt k hk).2, fun e => h.sep i hi k (e ▸ rfl) j h1 hji hk⟩)
  refine ⟨by rw [List.length_set]; exact own_put hr1 i u, by rw [List.length_set, List.length_set]; exact h.len, fun j h1 h2 => ?_, fun j h1 b hb k hk hkj => ?_⟩
  · have h1' : j < vs.length := by rw [List.length_set] at h1; exact h1
    have h2' : j < X.length := by rw [List.length_set] at h2; exact h2
    by_cases hji : j = i
    · subst hji
      simp only [List.getElem_set_self]
      exact hset ho hng
    · simp only [List.getElem_set, if_neg (Ne.symm hji)]
      exact hset (hold j h1' h2' hji) (fun b hb e => h.ne hvg j h1' (e ▸ hb))
  · have h1' : j < vs.length := by rw [List.length_set] at h1; exact h1
    have hk' : k < vs.length := by rw [List.length_set] at hk; exact hk
    by_cases hji : j = i
    · subst hji
      rw [List.getElem_set_self] at hb
      rw [List.getElem_set, if_neg (Ne.symm hkj)]
      rcases hloc with e | ⟨b0, h0, e⟩
      · rw [e] at hb
        exact h.sep j hi b hb k hk' hkj
      · intro e2
        rw [e] at hb
        obtain rfl := Option.some.inj hb
        have := ((h.own k hk' (by rw [← h.len]; exact hk')).lt _ e2).2
        omega
    · rw [List.getElem_set, if_neg (Ne.symm hji)] at hb
      by_cases hki : k = i
      · subst hki
        rw [List.getElem_set_self]
        intro e2
        rcases hloc with e | ⟨b0, h0, e⟩
        · rw [e] at e2
          exact h.sep j h1' b hb k hk' hkj e2
        · rw [e] at e2
          obtain rfl := Option.some.inj e2
          have := ((h.own j h1' (by rw [← h.len]; exact h1')).lt _ hb).2
          omega
      · rw [List.getElem_set, if_neg (Ne.symm hki)]
        exact h.sep j h1' b hb k hk' hkj
theorem Rows2.row_grown (h : Rows2 B w v vs X) {i : Nat} (hi : i < vs.length) (hg : w.grownBy w1 vs[i].ownBlock) : w1.ownsRow B 24 1 v vs.length vs :=
  ownsRow_fr h.row (Fr.of_grown hg) (fun q hq => ⟨(h.row.lt q hq).2, fun e => h.ne hq i hi (e ▸ rfl)⟩)
theorem Rows2.form (h : Rows2 B w v vs X) : ∃ a c, v = .slice a vs.length c := by
  rcases h.row.2 with ⟨h0, h1⟩ | ⟨g, cap, cur, h0, -⟩
  · exact ⟨none, 0, by rw [h0, h1]⟩
  · exact ⟨_, _, h0⟩
/-- A slice sorted in its place. -/
theorem Rows2.sorted (h : Rows2 B w v vs X) {i : Nat} (hi : i < vs.length) {Y : List Int} (hg : w.grownBy w1 vs[i].ownBlock) (ho : w1.ownsRow B 3 1 vs[i] Y.length (Y.map (Value.int .i64))) : Rows2 B w1 v vs (X.set i Y) := by
  refine ⟨ownsRow_fr h.row (Fr.of_grown hg) (fun q hq => ⟨(h.row.lt q hq).2, fun e => h.ne hq i hi (e ▸ rfl)⟩), by rw [List.length_set]; exact h.len, fun j h1 h2 => ?_, h.sep⟩
  rw [List.length_set] at h2
  by_cases hji : j = i
  · subst hji
    simpa using ho
  · have := ownsRow_fr (h.own j h1 h2) (Fr.of_grown hg) (fun k hk => ⟨((h.own j h1 h2).lt k hk).2, fun e => h.sep i hi k (e ▸ rfl) j h1 hji hk⟩)
    simpa [List.getElem_set, Ne.symm hji] using this
end
theorem tyRows : SliceTy Tryz.prog 62 24 (.slice none 0 0) 24 := ⟨Tryz.underlying62, by kernel_rfl, rfl⟩
/-- The rows of levels, as they are while they are made; sorted up to the first k. -/
def rowsUp (rows : List (List Nat)) (k : Nat) : List (List Int) := (List.range rows.length).map fun j => if j < k then sortI (intsB (rows.getD j [])) else intsB (rows.getD j [])
theorem rowsUp_zero (rows : List (List Nat)) : rowsUp rows 0 = rows.map intsB := by
  apply List.ext_getElem
  · simp [rowsUp]
  · intro i h1 h2
    rw [List.length_map] at h2
    simp [rowsUp, List.getD_eq_getElem?_getD, List.getElem?_eq_getElem h2]
theorem rowsUp_all (rows : List (List Nat)) : rowsUp rows rows.length = rows.map (fun r => sortI (intsB r)) := by
  apply List.ext_getElem
  · simp [rowsUp]
  · intro i h1 h2
    rw [List.length_map] at h2
    simp [rowsUp, List.getD_eq_getElem?_getD, h2]
theorem rowsUp_len (rows : List (List Nat)) (k : Nat) : (rowsUp rows k).length = rows.length := by simp [rowsUp]
theorem rowsUp_at {rows : List (List Nat)} {k : Nat} (h : k < rows.length) (h2 : k < (rowsUp rows k).length) : (rowsUp rows k)[k] = intsB rows[k] := by
  simp [rowsUp, List.getD_eq_getElem?_getD, List.getElem?_eq_getElem h]
theorem rowsUp_set {rows : List (List Nat)} {k : Nat} (h : k < rows.length) : (rowsUp rows k).set k (sortI (intsB rows[k])) = rowsUp rows (k + 1) := by
  apply List.ext_getElem
  · simp [rowsUp]
  · intro i h1 h2
    have hi : i < rows.length := by rw [rowsUp_len] at h2; exact h2
    rw [List.getElem_set]
    simp only [rowsUp, List.getElem_map, List.getElem_range, List.getD_eq_getElem?_getD, List.getElem?_eq_getElem hi, Option.getD_some]
    by_cases hik : k = i
    · subst hik
      rw [if_pos rfl, if_pos (by omega)]
    · rw [if_neg hik]
      by_cases hl : i < k
      · rw [if_pos hl, if_pos (by omega)]
      · rw [if_neg hl, if_neg (by omega)]
end Go.Proofs.YtgoeoekdlcbmpaaGreatDoor

namespace Go.Proofs.YtgoeoekdlcbmpaaGreatDoor
open Go Go.RowKit Go.Kf Go.Sort Go.Proofs

/-- The rows of levels in the end. -/
def levX (l : List RuleL) (o : List Nat) : List (List Int) := (levsTo l o).2.map fun r => sortI (intsB r)
/-- What Levels answers. -/
def LevAns (S : Nat → Addr) (l : List RuleL) (B : Nat) (e : Ending) (w' : World) : Prop :=
  (RightS l ∧ ((∃ o u vs, orderB (edgesB l) (fun _ => true) l.length = some o ∧ e = .returned (.tuple #[u, .nilIface]) ∧ Rows2 B w' u vs (levX l o)) ∨
    (orderB (edgesB l) (fun _ => true) l.length = none ∧ e = .returned (.tuple #[.slice none 0 0, errI (S 8)])))) ∨ ∃ T x, e = .returned (.tuple #[.slice none 0 0, .iface T x]) ∧ SheetBad S l B (.iface T x) w'

set_option maxRecDepth 100000 in
set_option maxHeartbeats 4000000 in
theorem levels_any (R : List RV) (v : Value) (w : World) (S : Nat → Addr) (hR : RulesAt w v R) (hcap : Roomy v) (hm : Ml w) (hE : KErr w S) (hN : NErr w) (ht : Tab w)
    (hb : ∀ x ∈ R, x.1.out.length ≤ 1000000 ∧ x.1.word.length ≤ 100000 ∧ (∀ s ∈ x.1.ins, s.length ≤ 1000000) ∧ x.1.ins.length ≤ 1000) (hn : R.length ≤ 100000) :
    Calls Tryz.prog 29 #[v] w fun e w' => LevAns S (R.map Prod.fst) w.heap.size e w' ∧ Below w.heap.size w w' := by
  obtain ⟨a, c, hv, -, -⟩ := id hR.1
  rw [List.length_map] at hv
  subst hv
  have KO := Lib.hid (gorder_any R (.slice a R.length c) w S hR hcap hm hE hN ht hb hn)
  have HR := Lib.hid (fun wl (hb : Below w.heap.size w wl) => hR.below0 hb)
  have HBD := Lib.hid hb
  have hml : (R.map Prod.fst).length = R.length := List.length_map _
  have HML := Lib.hid hml
  have hmm := @run_makeMap Tryz.prog
  clear hR hcap hm hE hN ht hb hml
  go_enter Tryz.func29, Tryz.ntmps29
  go_wp2_with fail
  refine KO.out.mono ?_
  rintro e w1 ⟨⟨hrs, ⟨o, u, ho, rfl, hown⟩ | ⟨ho, rfl⟩⟩ | ⟨T, x, rfl, hbad⟩, hb1⟩
  case inr =>
    have HB1 := Lib.hid hb1
    have HBAD := Lib.hid hbad
    clear hb1 hbad KO
    go_wp2
    go_ret2
    exact ⟨Or.inr ⟨T, x, rfl, HBAD.out⟩, HB1.out⟩
  case inl.inr =>
    have HB1 := Lib.hid hb1
    have HO := Lib.hid ho
    have HRS := Lib.hid hrs
    clear hb1 ho KO hrs
    go_wp2
    go_ret2
    exact ⟨Or.inl ⟨HRS.out, Or.inr ⟨HO.out, rfl⟩⟩, HB1.out⟩
  case inl.inl =>
    have HRS := Lib.hid hrs
    have HO := Lib.hid ho
    have h40 : R.length ≤ 40 := by have := hrs.1; rw [HML.out] at this; exact this
    have hom := order_mem ho
    have HOM : Hid (∀ k ∈ o, k < R.length) := Lib.hid (fun k hk => by have := (hom.1.lt k hk).1; rw [HML.out] at this; exact this)
    have hol : o.length ≤ R.length := nodup_le _ _ hom.1.nd HOM.out
    have hru := reads_ints hown
    have HRU := Lib.hid (fun wl (hb : Below w1.heap.size w1 wl) => hru.below0 hb)
    obtain ⟨au, cu, hu, -, -⟩ := id hru
    rw [List.length_map] at hu
    subst hu
    have m0 : MapIs str intE (w1.alloc (.map #[] 0)) w1.heap.size [] := MapIs.made w1
    have f0 : Below w1.heap.size w1 (w1.alloc (.map #[] 0)) := (Below.refl _ w1).alloc (Nat.le_refl _) _
    obtain ⟨W0, hW0⟩ : ∃ W, w1.alloc (.map #[] 0) = W := ⟨_, rfl⟩
    have hz0 : W0.heap.size = w1.heap.size + 1 := by rw [← hW0]; simp
    rw [hW0] at m0 f0
    have M0 := Lib.hid m0
    have F0 := Lib.hid f0
    have HB1 := Lib.hid hb1
    have hzw := hb1.size
    clear hb1 ho KO hrs hom hown hru m0 f0
    go_wp2_with fail
    go_loopw [7, 28] (fun ov iv wl => ∃ (t : Nat) (vs : List Value), t ≤ o.length ∧ iv = .int .i64 t ∧ MapIs str intE wl w1.heap.size (levsTo (R.map Prod.fst) (o.take t)).1 ∧ Rows2 (w1.heap.size + 1) wl ov vs ((levsTo (R.map Prod.fst) (o.take t)).2.map intsB) ∧ Below w1.heap.size w1 wl) (fun _ iv _ => o.length - (intOf iv).toNat)
    case atStart => exact ⟨0, [], by omega, rfl, M0.out, Rows2.zero _ _, F0.out⟩
    case round =>
      obtain ⟨t, vs, ht, rfl, hmap, hrw, hbt⟩ := hrel
      obtain ⟨ao, co, rfl⟩ := hrw.form
      have HRW := Lib.hid hrw
      have HBT := Lib.hid hbt
      have HBW := Lib.hid (HB1.out.trans (hbt.mono hzw))
      have hxl : vs.length = (levsTo (R.map Prod.fst) (o.take t)).2.length := by have := hrw.len; rwa [List.length_map] at this
      have hll := lev_len (R.map Prod.fst) (o.take t)
      have hot : (o.take t).length ≤ 40 := by rw [List.length_take]; omega
      have hv40 : vs.length ≤ 40 := by omega
      have HXL0 := Lib.hid hxl
      clear hxl
      by_cases hlt : t < o.length
      · have hlc : ((t : Int) < (o.length : Int)) = True := eq_true (by omega)
        obtain ⟨bo, oo, hixo, hceo⟩ := (HRU.out wr hbt).at (P := Tryz.prog) Tryz.underlying24 (by kernel_rfl) t (by simpa using hlt)
        simp only [List.getElem_map] at hceo hixo
        have HTK : Hid (levsTo (R.map Prod.fst) (o.take (t + 1)) = levStep (R.map Prod.fst) (levsTo (R.map Prod.fst) (o.take t)) o[t]) := Lib.hid (by rw [List.take_succ_eq_append_getElem hlt, levsTo_snoc])
        have hjR := HOM.out _ (List.getElem_mem hlt)
        have HLE := Lib.hid (lev_le (R.map Prod.fst) (o.take t))
        have HRL : Hid (∀ r ∈ (levsTo (R.map Prod.fst) (o.take t)).2, r.length ≤ 40) := Lib.hid (fun r hr => Nat.le_trans (hll.2 r hr) hot)
        generalize levsTo (R.map Prod.fst) (o.take t) = ls at *
        obtain ⟨lv, rows⟩ := ls
        simp only at hmap hrw hll HLE HRL HRW HXL0
        have HXL : Hid (vs.length = rows.length) := HXL0
        generalize o[t] = j at *
        obtain ⟨b, of, hix, -, hce⟩ := (HR.out wr HBW.out).1.at (P := Tryz.prog) Tryz.underlying23 (by kernel_rfl) j (by simpa using hjR)
        simp only [List.getElem_map] at hce hix
        have hc0 := hce 0 _ rfl
        have hc3 := hce 3 _ rfl
        simp only [Nat.add_zero] at hc0
        have HRX := Lib.hid ((HR.out wr HBW.out).2 _ (List.getElem_mem hjR)).1
        have hl1 := (HBD.out _ (List.getElem_mem hjR)).2.2.2
        have hgd : (R.map Prod.fst).getD j noR = R[j].1 := by
          rw [getD_at (by rw [HML.out]; exact hjR), List.getElem_map]
        rw [show levStep (R.map Prod.fst) (lv, rows) j = (mupd R[j].1.out (lvOf lv R[j].1.ins) lv, addRow rows (lvOf lv R[j].1.ins) j) by unfold levStep; rw [hgd]] at HTK
        clear hce hgd
        generalize R[j] = x at *
        obtain ⟨r, u⟩ := x
        simp only at hc0 hc3 HRX hl1 HTK
        obtain ⟨ar, cr, hu, -, -⟩ := id HRX.out
        rw [List.length_map] at hu
        subst hu
        have hlb := lt_of_cell hc0
        have HC0 : Hid (∀ wl, Below wr.heap.size wr wl → wl.cell? ⟨b, of, none⟩ = some (str r.out)) := Lib.hid (fun wl hb => (hb.cell hlb).trans hc0)
        have HMP := Lib.hid hmap
        clear hrw hbt hmap
        go_wp2_with fail
        go_loop [10, 38] (fun nv kv => ∃ k : Nat, k ≤ r.ins.length ∧ kv = .int .i64 k ∧ nv = .int .i64 (lvOf lv (r.ins.take k) : Nat)) (fun _ kv => r.ins.length - (intOf kv).toNat)
        case atStart => exact ⟨0, by omega, rfl, rfl⟩
        case round =>
          obtain ⟨k, hk, rfl, rfl⟩ := hrel
          have hle := HLE.out (r.ins.take k)
          by_cases hkl : k < r.ins.length
          · have hlc2 : ((k : Int) < (r.ins.length : Int)) = True := eq_true (by omega)
            obtain ⟨b2, o2, hix2, hce2⟩ := HRX.out.at (P := Tryz.prog) Tryz.underlying32 (by kernel_rfl) k (by simpa using hkl)
            simp only [List.getElem_map] at hce2 hix2
            have hlk := HMP.out.lookup (P := Tryz.prog) byKey byUnd byZero r.ins[k] true
            have HTI : Hid (r.ins.take (k + 1) = r.ins.take k ++ [r.ins[k]]) := Lib.hid (List.take_succ_eq_append_getElem hkl)
            generalize r.ins[k] = s at *
            cases hq : mlook s lv with
            | none =>
              rw [hq] at hlk
              simp only [Option.map_none, Option.getD_none, Option.isSome_none, if_true] at hlk
              have HNX : Hid (lvOf lv (r.ins.take (k + 1)) = lvOf lv (r.ins.take k)) := Lib.hid (by rw [HTI.out, lvOf_none hq])
              generalize lvOf lv (r.ins.take k) = n at *
              clear hq
              go_wp2
              go_round
              case rel => exact ⟨k + 1, by omega, by go_num, by rw [HNX.out]⟩
              case measure => simp [intOf]; omega
            | some q =>
              rw [hq] at hlk
              simp only [Option.map_some, Option.getD_some, Option.isSome_some, if_true] at hlk
              have HNX : Hid (lvOf lv (r.ins.take (k + 1)) = max (lvOf lv (r.ins.take k)) (q + 1)) := Lib.hid (by rw [HTI.out, lvOf_some hq])
              have hle2 := HLE.out (r.ins.take (k + 1))
              rw [HNX.out] at hle2
              generalize lvOf lv (r.ins.take k) = n at *
              have hmx : max (n : Int) ((q : Int) + 1) = ((max n (q + 1) : Nat) : Int) := by omega
              clear hq
              go_wp2
              go_round
              case rel => exact ⟨k + 1, by omega, by go_num, by rw [HNX.out]⟩
              case measure => simp [intOf]; omega
          · obtain rfl : k = r.ins.length := by omega
            have hlc2 : ((r.ins.length : Int) < (r.ins.length : Int)) = False := eq_false (by omega)
            rw [List.take_length] at hle ⊢
            have HRL2 := Lib.hid HTK.out
            generalize lvOf lv r.ins = n at *
            obtain ⟨W3, hup, hm3, hf3, hz3⟩ := by_step HMP.out r.out n
            have HB3 : Hid (Below w1.heap.size w1 W3) := Lib.hid (HBT.out.trans ((hf3.mono (S' := fun q => q = w1.heap.size) (B' := w1.heap.size) HBT.out.size (fun _ _ h => h)).below (fun q hq e => by omega)))
            have HM3 := Lib.hid hm3
            have HS3 := Lib.hid (HRW.out.fr hf3 (Nat.le_refl _) (fun q hq => by omega))
            have hz13 := HB3.out.size
            clear hm3 hf3 hz3
            by_cases hnl : n = vs.length
            · have heq : ((n : Int) == (vs.length : Int)) = true := by rw [hnl]; simp
              have hnr : n = rows.length := by have := HXL.out; omega
              have HAD := Lib.hid (addRow_new rows j)
              rw [← hnr] at HAD
              have HNR := Lib.hid hnr
              have HNL := Lib.hid hnl
              clear hnr hnl
              have hn1 : n < vs.length + 1 := by have := HNL.out; omega
              have HEV : Hid ((vs ++ [Value.slice none 0 0]).length = vs.length + 1) := Lib.hid (by simp)
              have HVN : Hid (∀ h : n < (vs ++ [Value.slice none 0 0]).length, (vs ++ [Value.slice none 0 0])[n] = .slice none 0 0) := Lib.hid (fun h => by
                have := HNL.out
                subst this
                simp)
              go_wp2_with (first
                | (at_builtin
                   refine wpList_app _ rfl _ _ 62 rfl tyRows (w1.heap.size + 1) _ _ _ rfl (HS3.out.row.alloc _) ⟨W3.heap.size, 0, none⟩ 1 1 [.slice none 0 0] rfl rfl (news_one ?_) ?_ (by decide) ?_ ?_ ?_
                   · rw [cell_of_heap (heap_alloc_here W3 _)]; rfl
                   · intro u hu; simp at hu; subst hu; rfl
                   · omega
                   · simp; omega
                   intro v5 w5 ho5 hg5 hloc5
                   have hA5 : Below W3.heap.size W3 (W3.alloc (.cells #[.slice none 0 0] 24)) := (Below.refl _ W3).alloc (Nat.le_refl _) _
                   have hs5 := (HS3.out.below hA5).snoc (v' := v5) hg5 (by simpa using ho5)
                   have HB5 : Hid (Below w1.heap.size w1 w5) := Lib.hid ((HB3.out.trans (hA5.mono (by omega))).grown hg5 (by simp; omega) (fun q hq => Nat.le_of_succ_le (HS3.out.row.lt q hq).1))
                   have HM5 : Hid (MapIs str intE w5 w1.heap.size (mupd r.out n lv)) := Lib.hid ((HM3.out.of_block (hA5.block _ HM3.out.lt)).of_block ((Fr.of_grown hg5).block _ (by simp; have := HM3.out.lt; omega) (fun e => by have := (HS3.out.row.lt _ e).1; omega)))
                   obtain ⟨g5, cap5, rfl⟩ := ownsRow_some ho5 (by omega)
                   rw [show List.map intsB rows ++ [[]] = (rows ++ [[]]).map intsB by simp [intsB], ← HEV.out] at hs5
                   have HS5 := Lib.hid hs5
                   obtain ⟨hgi, hgf⟩ := own_cell hs5.row (i := n) (by rw [HEV.out]; exact hn1)
                   rw [HVN.out] at hgi
                   have hidx := idx_at (P := Tryz.prog) (T := 62) (E := 24) Tryz.underlying62 (by kernel_rfl) g5 (vs.length + 1) cap5 n hn1
                   have hz5 := HB5.out.size
                   have hgl5 : w1.heap.size + 1 ≤ g5 := (hs5.row.lt g5 rfl).1
                   clear ho5 hg5 hloc5 hA5 hs5)
                | (at_builtin
                   refine wpList_app _ rfl _ _ 24 rfl tyInts (w1.heap.size + 1) _ 0 [] rfl ((World.ownsRow_nil _ _ _ _).alloc _) ⟨w5.heap.size, 0, none⟩ 1 1 [intE j] rfl rfl (news_one ?_) ?_ (by decide) ?_ ?_ ?_
                   · rw [cell_of_heap (heap_alloc_here w5 _)]; rfl
                   · intro u hu; simp at hu; subst hu; rfl
                   · omega
                   · simp; omega
                   intro v6 w6 ho6 hg6 hloc6
                   have hA6 : Below w5.heap.size w5 (w5.alloc (.cells #[intE j] 3)) := (Below.refl _ w5).alloc (Nat.le_refl _) _
                   have ho6' : w6.ownsRow (w1.heap.size + 1) 3 1 v6 (intsB ([] ++ [j])).length ((intsB ([] ++ [j])).map (Value.int .i64)) := by
                     simpa [intsB] using ho6
                   have hn5v : n < (vs ++ [Value.slice none 0 0]).length := by rw [HEV.out]; exact hn1
                   have hloc' : v6.ownBlock = ((vs ++ [Value.slice none 0 0])[n]'hn5v).ownBlock ∨ ∃ b0, (w5.alloc (.cells #[intE j] 3)).heap.size ≤ b0 ∧ v6.ownBlock = some b0 := by
                     rw [HVN.out]
                     rcases hloc6 with h | h
                     · exact Or.inl h
                     · exact Or.inr ⟨_, Nat.le_refl _, h⟩
                   have hg6' : (w5.alloc (.cells #[intE j] 3)).grownBy w6 ((vs ++ [Value.slice none 0 0])[n]'hn5v).ownBlock := by rw [HVN.out]; exact hg6
                   obtain ⟨g6, cap6, rfl⟩ := ownsRow_some ho6 (by omega)
                   have hput := (HS5.out.below hA6).put rfl hn5v hg6' ho6' hloc'
                   rw [← HAD.out, HEV.out] at hput
                   have HPUT := Lib.hid hput
                   obtain ⟨hgi6, hgf6⟩ := own_cell ((HS5.out.below hA6).row_grown hn5v hg6') hn5v
                   rw [HVN.out] at hgi6
                   have HB6 : Hid (Below w1.heap.size w1 w6) := Lib.hid ((HB5.out.trans (hA6.mono (by omega))).grown hg6 (by simp; omega) (fun q hq => by cases hq))
                   have HM6 : Hid (MapIs str intE w6 w1.heap.size (mupd r.out n lv)) := Lib.hid ((HM5.out.of_block (hA6.block _ HM5.out.lt)).of_block ((Fr.of_grown hg6).block _ (by simp; have := HM5.out.lt; omega) (fun e => by cases e)))
                   clear ho6 hg6 hloc6 hA6 ho6' hloc' hput hg6' hn5v))
              go_wp2
              go_roundw
              case rel => exact ⟨t + 1, _, by omega, by go_num, by rw [HTK.out]; exact HM6.out.of_block (Below.heap_setCell _ _ _ _ (by simp; omega)), by rw [HTK.out]; exact HPUT.out, HB6.out.setCell (p := ⟨g5, n, none⟩) (by show w1.heap.size ≤ g5; omega) _⟩
              case measure => simp [intOf]; omega
            · have heq : ((n : Int) == (vs.length : Int)) = false := by simpa using (by omega : ¬ (n : Int) = (vs.length : Int))
              have hn5 : n < rows.length := by have := HXL.out; omega
              have HAD := Lib.hid (addRow_old j hn5)
              obtain ⟨g5, cap5, hov⟩ := ownsRow_some HS3.out.row (by have := HXL.out; omega)
              cases hov
              have hn5v : n < vs.length := by have h1 := HXL.out; have h2 := hn5; omega
              obtain ⟨hgi, hgf⟩ := own_cell HS3.out.row hn5v
              have HOX : Hid (W3.ownsRow (w1.heap.size + 1) 3 1 vs[n] rows[n].length ((intsB rows[n]).map (Value.int .i64))) := Lib.hid (by have := HS3.out.own n hn5v (by rw [List.length_map]; exact hn5); simpa [intsB] using this)
              have hidx := idx_at (P := Tryz.prog) (T := 62) (E := 24) Tryz.underlying62 (by kernel_rfl) g5 vs.length co n hn5v
              have hrl : rows[n].length ≤ 40 := HRL.out _ (List.getElem_mem hn5)
              have hz5 := HB3.out.size
              have hgl5 : w1.heap.size + 1 ≤ g5 := (HS3.out.row.lt g5 rfl).1
              go_wp2_with (first
                | (at_builtin
                   refine wpList_app _ rfl _ _ 24 rfl tyInts (w1.heap.size + 1) _ _ _ rfl (HOX.out.alloc _) ⟨W3.heap.size, 0, none⟩ 1 1 [intE j] rfl rfl (news_one ?_) ?_ (by decide) ?_ ?_ ?_
                   · rw [cell_of_heap (heap_alloc_here W3 _)]; rfl
                   · intro u hu; simp at hu; subst hu; rfl
                   · omega
                   · simp; omega
                   intro v6 w6 ho6 hg6 hloc6
                   have hA6 : Below W3.heap.size W3 (W3.alloc (.cells #[intE j] 3)) := (Below.refl _ W3).alloc (Nat.le_refl _) _
                   have ho6' : w6.ownsRow (w1.heap.size + 1) 3 1 v6 (intsB (rows[n] ++ [j])).length ((intsB (rows[n] ++ [j])).map (Value.int .i64)) := by
                     simpa [intsB] using ho6
                   have hloc' : v6.ownBlock = vs[n].ownBlock ∨ ∃ b0, (W3.alloc (.cells #[intE j] 3)).heap.size ≤ b0 ∧ v6.ownBlock = some b0 := by
                     rcases hloc6 with h | h
                     · exact Or.inl h
                     · exact Or.inr ⟨_, Nat.le_refl _, h⟩
                   obtain ⟨g6, cap6, rfl⟩ := ownsRow_some ho6 (by omega)
                   have HPUT := Lib.hid ((HS3.out.below hA6).put rfl hn5v hg6 ho6' hloc')
                   obtain ⟨hgi6, hgf6⟩ := own_cell ((HS3.out.below hA6).row_grown hn5v hg6) hn5v
                   have HB6 : Hid (Below w1.heap.size w1 w6) := Lib.hid ((HB3.out.trans (hA6.mono (by omega))).grown hg6 (by simp; omega) (fun q hq => Nat.le_of_succ_le (HOX.out.lt q hq).1))
                   have HM6 : Hid (MapIs str intE w6 w1.heap.size (mupd r.out n lv)) := Lib.hid ((HM3.out.of_block (hA6.block _ HM3.out.lt)).of_block ((Fr.of_grown hg6).block _ (by simp; have := HM3.out.lt; omega) (fun e => by have := (HOX.out.lt _ e).1; omega)))
                   clear ho6 hg6 hloc6 hA6 ho6' hloc'))
              go_wp2
              go_roundw
              case rel => exact ⟨t + 1, _, by omega, by go_num, by rw [HTK.out]; exact HM6.out.of_block (Below.heap_setCell _ _ _ _ (by simp; omega)), by rw [HTK.out]; simp only; rw [HAD.out]; exact HPUT.out, HB6.out.setCell (p := ⟨g5, n, none⟩) (by show w1.heap.size ≤ g5; omega) _⟩
              case measure => simp [intOf]; omega
      · obtain rfl : t = o.length := by omega
        have hlc : ((o.length : Int) < (o.length : Int)) = False := eq_false (by omega)
        rw [List.take_length] at hrw hll HXL0
        have HLL := Lib.hid (fun r hr => Nat.le_trans (hll.2 r hr) (show o.length ≤ 40 by omega))
        have HW3 := Lib.hid hrw
        obtain ⟨rows, hrows⟩ : ∃ x, (levsTo (R.map Prod.fst) o).2 = x := ⟨_, rfl⟩
        have HROWS := Lib.hid hrows
        rw [hrows] at HLL HW3 HXL0
        have HXL : Hid (vs.length = rows.length) := HXL0
        clear hrw hbt hmap hrows hll
        have hz13 := HBT.out.size
        go_wp2_with fail
        go_loopw [81] (fun iv wl => ∃ k : Nat, k ≤ rows.length ∧ iv = .int .i64 k ∧ Rows2 (w1.heap.size + 1) wl (.slice ao vs.length co) vs (rowsUp rows k) ∧ Below w1.heap.size w1 wl) (fun iv _ => rows.length - (intOf iv).toNat)
        case atStart => exact ⟨0, by omega, rfl, by rw [rowsUp_zero]; exact HW3.out, HBT.out⟩
        case round =>
          obtain ⟨k, hk, rfl, hr2, hb2⟩ := hrel
          have HR2 := Lib.hid hr2
          have HB2 := Lib.hid hb2
          by_cases hlk : k < rows.length
          · have hlc2 : ((k : Int) < (vs.length : Int)) = True := eq_true (by have := HXL.out; omega)
            have hkv : k < vs.length := by have := HXL.out; omega
            obtain ⟨g5, cap5, hov⟩ := ownsRow_some hr2.row (by have := HXL.out; omega)
            cases hov
            obtain ⟨hgi, -⟩ := own_cell hr2.row hkv
            have hidx := idx_at (P := Tryz.prog) (T := 62) (E := 24) Tryz.underlying62 (by kernel_rfl) g5 vs.length co k hkv
            have hox := hr2.own k hkv (by rw [rowsUp_len]; exact hlk)
            rw [rowsUp_at hlk] at hox
            have hrl : rows[k].length ≤ 40 := HLL.out _ (List.getElem_mem hlk)
            have HOX := Lib.hid hox
            have KS := Lib.hid (sortI_any vs[k] (intsB rows[k]) (w1.heap.size + 1) wr (by simpa [intsB] using hox) (by simp [intsB]; omega))
            clear hr2 hb2 hox
            go_wp2_with fail
            refine KS.out.mono ?_
            rintro e w5 ⟨rfl, ho5, hg5⟩
            have hs5 := HR2.out.sorted hkv hg5 ho5
            rw [rowsUp_set hlk] at hs5
            have HS5 := Lib.hid hs5
            have HB5 : Hid (Below w1.heap.size w1 w5) := Lib.hid (HB2.out.grown hg5 HB2.out.size (fun q hq => Nat.le_of_succ_le (HOX.out.lt q hq).1))
            clear ho5 hg5 hs5
            go_wp2
            go_roundw
            case rel => exact ⟨k + 1, by omega, by go_num, HS5.out, HB5.out⟩
            case measure => simp [intOf]; omega
          · obtain rfl : k = rows.length := by omega
            have hlc2 : ((rows.length : Int) < (vs.length : Int)) = False := eq_false (by have := HXL.out; omega)
            rw [rowsUp_all] at HR2
            clear hr2 hb2
            go_wp2
            go_ret2
            exact ⟨Or.inl ⟨HRS.out, Or.inl ⟨o, _, vs, HO.out, rfl, by unfold levX; rw [HROWS.out]; exact HR2.out.base (by omega)⟩⟩, HB1.out.trans (HB2.out.mono hzw)⟩

set_option maxRecDepth 100000 in
theorem deep_any (R : List RV) (v : Value) (w : World) (S : Nat → Addr) (hR : RulesAt w v R) (hcap : Roomy v) (hm : Ml w) (hE : KErr w S) (hN : NErr w) (ht : Tab w)
    (hb : ∀ x ∈ R, x.1.out.length ≤ 1000000 ∧ x.1.word.length ≤ 100000 ∧ (∀ s ∈ x.1.ins, s.length ≤ 1000000) ∧ x.1.ins.length ≤ 1000) (hn : R.length ≤ 100000) :
    Calls Tryz.prog 30 #[v] w fun e w' => ((RightS (R.map Prod.fst) ∧ ((∃ o, orderB (edgesB (R.map Prod.fst)) (fun _ => true) (R.map Prod.fst).length = some o ∧ e = .returned (.tuple #[.int .i64 ((levX (R.map Prod.fst) o).length : Int), .nilIface])) ∨
      (orderB (edgesB (R.map Prod.fst)) (fun _ => true) (R.map Prod.fst).length = none ∧ e = .returned (.tuple #[.int .i64 0, errI (S 8)])))) ∨ ∃ T x, e = .returned (.tuple #[.int .i64 0, .iface T x]) ∧ SheetBad S (R.map Prod.fst) w.heap.size (.iface T x) w') ∧ Below w.heap.size w w' := by
  have K := Lib.hid (levels_any R v w S hR hcap hm hE hN ht hb hn)
  clear hR hcap hm hE hN ht hb
  go_enter Tryz.func30, Tryz.ntmps30
  go_wp2_with fail
  refine K.out.mono ?_
  rintro e w1 ⟨⟨hrs, ⟨o, u, vs, ho, rfl, hrw⟩ | ⟨ho, rfl⟩⟩ | ⟨T, x, rfl, hbad⟩, hb1⟩
  · have HRS := Lib.hid hrs
    have HO := Lib.hid ho
    have HB1 := Lib.hid hb1
    have hl := hrw.len
    have HL := Lib.hid hl
    obtain ⟨a, c, rfl⟩ := hrw.form
    clear hrs ho hb1 hrw hl
    go_wp2
    go_ret2
    exact ⟨Or.inl ⟨HRS.out, Or.inl ⟨o, HO.out, congrArg (fun n : Nat => Ending.returned (.tuple #[.int .i64 (n : Int), .nilIface])) HL.out⟩⟩, HB1.out⟩
  · have HRS := Lib.hid hrs
    have HO := Lib.hid ho
    have HB1 := Lib.hid hb1
    clear hrs ho hb1
    go_wp2
    go_ret2
    exact ⟨Or.inl ⟨HRS.out, Or.inr ⟨HO.out, rfl⟩⟩, HB1.out⟩
  · have HBAD := Lib.hid hbad
    have HB1 := Lib.hid hb1
    clear hbad hb1
    go_wp2
    go_ret2
    exact ⟨Or.inr ⟨T, x, rfl, HBAD.out⟩, HB1.out⟩
end Go.Proofs.YtgoeoekdlcbmpaaGreatDoor
