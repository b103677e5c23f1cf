/-
  A row of bools in a block of its own; the rows of a table of fits.
-/
import Derived.Test.YtmkpeopebddnjaaGreatDoorFits
import Derived.Test.YtmkpeopebddnjaaGreatDoorCut
import Derived.Laws.MakeOwn
namespace Go.Kf
open Go Go.RowKit

/-- Block g holds the bools bs, and nothing of it is frozen. -/
def BRow (t : TypeId) (w : World) (g : Nat) (bs : List Bool) : Prop := w.heap[g]? = some (.cells (bs.map Value.bool).toArray t (0, 0))
theorem BRow.cell {t : TypeId} {w : World} {g : Nat} {bs : List Bool} (h : BRow t w g bs) {k : Nat} {b : Bool} (hk : bs[k]? = some b) : w.cell? ⟨g, k, none⟩ = some (.bool b) := by
  rw [cell_of_heap h]
  simp [hk]
theorem BRow.frozen {t : TypeId} {w : World} {g : Nat} {bs : List Bool} (h : BRow t w g bs) (k : Nat) : w.frozen? ⟨g, k, none⟩ = false := by simp [World.frozen?, show w.heap[g]? = _ from h]
theorem BRow.lt {t : TypeId} {w : World} {g : Nat} {bs : List Bool} (h : BRow t w g bs) : g < w.heap.size := lt_of_heap h
theorem BRow.set {t : TypeId} {w : World} {g : Nat} {bs : List Bool} (h : BRow t w g bs) (k : Nat) (b : Bool) : BRow t (w.setCell ⟨g, k, none⟩ (.bool b)) g (bs.set k b) := by
  unfold BRow
  rw [heap_setCell_same h]
  simp [List.map_set]
theorem BRow.other {t : TypeId} {w : World} {g : Nat} {bs : List Bool} (h : BRow t w g bs) {p : Addr} (v : Value) (hne : g ≠ p.block) : BRow t (w.setCell p v) g bs := (Below.heap_setCell _ _ _ _ hne).trans h
theorem BRow.below {t : TypeId} {w w' : World} {g B : Nat} {bs : List Bool} (h : BRow t w g bs) (hb : Below B w w') (hg : g < B) : BRow t w' g bs := (hb.block g hg).trans h
theorem BRow.alloc {t : TypeId} {w : World} {g : Nat} {bs : List Bool} (h : BRow t w g bs) (o : Obj) : BRow t (w.alloc o) g bs := (Below.heap_alloc w o g h.lt).trans h
theorem BRow.drew {t : TypeId} {w : World} {g : Nat} {bs : List Bool} (h : BRow t w g bs) : BRow t w.drew g bs := h
theorem BRow.drewN {t : TypeId} {w : World} {g : Nat} {bs : List Bool} (h : BRow t w g bs) (n : Nat) : BRow t (w.drewN n) g bs := by
  have : Below (g + 1) w (w.drewN n) := below_drewN (Below.refl _ _) n
  exact h.below this (by omega)
theorem made_bools (n : Nat) : madeCells #[Value.bool false] n = ((List.replicate n false).map Value.bool).toArray := by
  apply Array.ext
  · simp [size_madeCells]
  · intro i h1 h2
    simp [madeCells, Nat.mod_one]
theorem BRow.new (t : TypeId) (w : World) (n : Nat) : BRow t (w.alloc (.cells ((List.replicate n false).map Value.bool).toArray t)) w.heap.size (List.replicate n false) := heap_alloc_here w _
theorem bool_at {P : Program} {T E : TypeId} (hT : P.underlying T = some (.slice E)) (hE : (P.info? E).map (·.size) = some 1) (g n cap i : Nat) (hi : i < n) (w' : World) :
    (Instr.indexAt T (.slice (some ⟨g, 0, none⟩) n cap) (.int .i64 i)).run P w' = .ok (.pointer (some ⟨g, i, none⟩)) w' := by
  rw [run_indexAt_slice (h := by rw [elem_of hT]; exact hT), if_pos (by omega), elem_of hT, run_sizeOf' hE]
  by_cases h0 : i = 0
  · subst h0; simp [Result.andThen, Addr.add]
  · simp [Result.andThen, Addr.add, h0]

/-! ### The table -/
section
variable {α β : Type} (st : α → Bool) (m : α → β → Bool)
/-- Row i: do the first k letters fit the pattern's first i? -/
def rowOf (p : List α) (s : List β) (i : Nat) : List Bool := (List.range (s.length + 1)).map fun k => glob st m (p.take i) (s.take k)
variable {st m}
theorem rowOf_len (p : List α) (s : List β) (i : Nat) : (rowOf st m p s i).length = s.length + 1 := by simp [rowOf]
theorem rowOf_at (p : List α) (s : List β) (i : Nat) {k : Nat} (hk : k ≤ s.length) : (rowOf st m p s i)[k]? = some (glob st m (p.take i) (s.take k)) := by
  have : k < s.length + 1 := by omega
  simp [rowOf, this]
theorem rowOf_zero (p : List α) (s : List β) : rowOf st m p s 0 = (List.replicate (s.length + 1) false).set 0 true := by
  apply List.ext_getElem?
  intro k
  by_cases hk : k ≤ s.length
  · rw [rowOf_at p s 0 hk, List.take_zero, glob_nil]
    cases k with
    | zero => simp
    | succ k =>
      have hne : s ≠ [] := by rintro rfl; simp at hk
      have hk' : k < s.length := hk
      simp [hne, hk']
  · rw [List.getElem?_eq_none (by rw [rowOf_len]; omega), List.getElem?_eq_none (by simp; omega)]
theorem rowOf_last (p : List α) (s : List β) : (rowOf st m p s p.length)[s.length]? = some (glob st m p s) := by
  rw [rowOf_at p s _ (Nat.le_refl _), List.take_length, List.take_length]

/-- The part of row i + 1 that is written. -/
def partOf (st : α → Bool) (m : α → β → Bool) (p : List α) (s : List β) (i k : Nat) : List Bool := (rowOf st m p s i).take k ++ List.replicate (s.length + 1 - k) false
theorem partOf_zero (p : List α) (s : List β) (i : Nat) : partOf st m p s i 0 = List.replicate (s.length + 1) false := by simp [partOf]
theorem partOf_full (p : List α) (s : List β) (i : Nat) : partOf st m p s i (s.length + 1) = rowOf st m p s i := by
  unfold partOf
  rw [List.take_of_length_le (by rw [rowOf_len]; omega)]
  simp
theorem partOf_at (p : List α) (s : List β) (i : Nat) {j k : Nat} (hj : j < k) (hk : k ≤ s.length + 1) : (partOf st m p s i k)[j]? = some (glob st m (p.take i) (s.take j)) := by
  unfold partOf
  rw [List.getElem?_append_left (by rw [List.length_take, rowOf_len]; omega), List.getElem?_take_of_lt hj, rowOf_at p s i (by omega)]
theorem partOf_step (p : List α) (s : List β) (i : Nat) {k : Nat} (hk : k ≤ s.length) : (partOf st m p s i k).set k (glob st m (p.take i) (s.take k)) = partOf st m p s i (k + 1) := by
  unfold partOf
  have hl : ((rowOf st m p s i).take k).length = k := by rw [List.length_take, rowOf_len]; omega
  rw [List.set_append_right _ _ (by omega), hl, Nat.sub_self]
  obtain ⟨r, hr⟩ : ∃ r, s.length + 1 - k = r + 1 := ⟨s.length - k, by omega⟩
  have hr2 : s.length + 1 - (k + 1) = r := by omega
  have hkl : k < (rowOf st m p s i).length := by rw [rowOf_len]; omega
  have he : (rowOf st m p s i)[k] = glob st m (p.take i) (s.take k) := by
    have := rowOf_at (st := st) (m := m) p s i hk
    rw [List.getElem?_eq_getElem hkl] at this
    exact Option.some.inj this
  rw [hr, hr2, List.take_succ_eq_append_getElem hkl, he, List.replicate_succ]
  simp

/-- The recurrence, at a star. -/
theorem step_star {p : List α} {s : List β} {i : Nat} (hi : i < p.length) (hc : st p[i] = true) {k : Nat} (hk : k < s.length) :
    glob st m (p.take (i + 1)) (s.take (k + 1)) = (glob st m (p.take i) (s.take (k + 1)) || glob st m (p.take (i + 1)) (s.take k)) := by
  rw [List.take_succ_eq_append_getElem hi, List.take_succ_eq_append_getElem hk, glob_snoc_star hc]
theorem step_star0 {p : List α} {s : List β} {i : Nat} (hi : i < p.length) (hc : st p[i] = true) : glob st m (p.take (i + 1)) (s.take 0) = glob st m (p.take i) (s.take 0) := by
  rw [List.take_succ_eq_append_getElem hi, List.take_zero, glob_snoc_nil hc]
theorem step_one {p : List α} {s : List β} {i : Nat} (hi : i < p.length) (hc : st p[i] = false) {k : Nat} (hk : k < s.length) :
    glob st m (p.take (i + 1)) (s.take (k + 1)) = (glob st m (p.take i) (s.take k) && m p[i] s[k]) := by
  rw [List.take_succ_eq_append_getElem hi, List.take_succ_eq_append_getElem hk, glob_snoc_one hc]
theorem step_one0 {p : List α} {s : List β} {i : Nat} (hi : i < p.length) (hc : st p[i] = false) : glob st m (p.take (i + 1)) (s.take 0) = false := by
  rw [List.take_succ_eq_append_getElem hi, List.take_zero, glob_snoc_one_nil hc]
end
end Go.Kf
