/-
  The walk of (*Cache).Keys.
-/
import Derived.Test.YtmmgbgekcpbelaaDoorShelf
import Derived.Test.YtmmgbgekcpbelaaDoorCacheOps
namespace Go.Proofs.YtmmgbgekcpbelaaDoor
open Go Go.RowKit Go.Kf

set_option maxRecDepth 100000 in
theorem keys_any (pb mb : Nat) (lv : Value) (many : Nat) (l : List (List UInt8)) (m : List (List UInt8 × List UInt8)) (w : World) (h : CacheAt w pb mb lv many l m) (hl : l.length ≤ 1000) :
    Calls Tryd.prog 25 #[.pointer (some ⟨pb, 0, none⟩)] w fun e w' => ∃ v, e = .returned v ∧ w'.ownsRow w.heap.size 9 1 v l.length (l.map str) ∧ Below w.heap.size w w' := by
  have c1 : w.cell? ⟨pb, 1, none⟩ = some lv := by rw [cell_of_heap h.blk]; rfl
  have hown := h.row
  clear h
  rcases hown.2 with ⟨rfl, h0⟩ | ⟨g, cap, cur, rfl, -, hh, hn, hcap, hsz, htake⟩
  · go_enter Tryd.func25, Tryd.ntmps25
    go_wp2_with fail
    go_at_call 48
    refine (Tryd.slices_Clone_string_nil 0 0 _).mono ?_
    rintro e w' ⟨rfl, rfl⟩
    go_wp2
    go_ret
    rw [h0, List.eq_nil_of_length_eq_zero h0]
    exact ⟨_, rfl, World.ownsRow_nil _ _ _ _, Below.refl _ _⟩
  · have hr : ∀ j, j < (l.map fun s => (⟨s.toArray⟩ : ByteArray)).length → w.cell? ⟨g, 0 + j, none⟩ = some (.string ((l.map fun s => (⟨s.toArray⟩ : ByteArray)).getD j ByteArray.empty)) := by
      intro j hj
      rw [List.length_map] at hj
      have hjj : (l.map str)[j]? = some (str l[j]) := by rw [List.getElem?_map, List.getElem?_eq_getElem hj]; rfl
      rw [← htake, List.getElem?_take, if_pos (by omega)] at hjj
      rw [Nat.zero_add, cell_of_heap hh, ← Array.getElem?_toList, hjj, List.getD_eq_getElem?_getD, List.getElem?_map, List.getElem?_eq_getElem hj]
      rfl
    have HR := Lib.hid hr
    clear hr hown hh htake
    go_enter Tryd.func25, Tryd.ntmps25
    go_wp2_with fail
    go_at_call 48
    refine (Tryd.slices_Clone_string g 0 l.length cap (l.map fun s => (⟨s.toArray⟩ : ByteArray)) _ (by simp) (by omega) HR.out).mono ?_
    rintro e w' ⟨v', rfl, ho, -, hb⟩
    go_wp2
    go_ret
    refine ⟨_, rfl, ?_, hb⟩
    rw [List.take_of_length_le (by simp), List.map_map] at ho
    exact ho
end Go.Proofs.YtmmgbgekcpbelaaDoor
