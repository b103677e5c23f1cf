/-
  The walks of the model cache (kilnfieldref2.Cache): Put, Get.
-/
import Derived.Test.YtmmgbgekcpbelaaDoorRef
namespace Go.Proofs.YtmmgbgekcpbelaaDoor
open Go Go.RowKit Go.Kf

theorem tyEnts : SliceTyK Tryd.prog 49 85 (.agg #[str [], str []]) 2 32 := ⟨Tryd.underlying49, by kernel_rfl, rfl, by decide⟩

abbrev others (key : List UInt8) (es : List EntL) : List EntL := es.filter fun e => !(e.1 == key)
abbrev entCells (es : List EntL) : List Value := (es.map entRow).flatten
/-- What the model's Put leaves. -/
def refPut (many : Nat) (key v : List UInt8) (es : List EntL) : List EntL := if many < (others key es).length + 1 then (others key es ++ [(key, v)]).drop 1 else others key es ++ [(key, v)]
theorem others_le (key : List UInt8) (es : List EntL) : (others key es).length ≤ es.length := List.length_filter_le _ _
theorem others_keep {es : List EntL} {key : List UInt8} {k : Nat} (hk : k < es.length) (h : (es[k].1 == key) = false) : others key (es.take (k + 1)) = others key (es.take k) ++ [es[k]] := by
  rw [List.take_succ_eq_append_getElem hk]
  unfold others
  rw [List.filter_append]
  simp [h]
theorem others_drop {es : List EntL} {key : List UInt8} {k : Nat} (hk : k < es.length) (h : (es[k].1 == key) = true) : others key (es.take (k + 1)) = others key (es.take k) := by
  rw [List.take_succ_eq_append_getElem hk]
  unfold others
  rw [List.filter_append]
  simp [h]
theorem entRow_len {es : List EntL} : ∀ r ∈ es.map entRow, r.length = 2 := by
  intro r hr
  obtain ⟨e, -, rfl⟩ := List.mem_map.1 hr
  rfl
theorem take_le (key : List UInt8) (es : List EntL) (k : Nat) : (others key (es.take k)).length ≤ es.length :=
  Nat.le_trans (others_le _ _) (by simp; omega)

theorem readsK_setCell {s : Nat} {w : World} {v : Value} {xs : List (List Value)} (h : ReadsK s w v xs) {p : Addr} (hp : ∀ k, v.ownBlock = some k → k ≠ p.block) (u : Value) : ReadsK s (w.setCell p u) v xs := by
  obtain ⟨a, cap, rfl, hle, h⟩ := h
  refine ⟨a, cap, rfl, hle, fun i row hi => ?_⟩
  obtain ⟨b, o, rfl, hcell⟩ := h i row hi
  exact ⟨b, o, rfl, fun j x hj => (World.cell?_of_block (w := w) (a := ⟨b, o + i * s + j, none⟩) (Below.heap_setCell _ _ _ _ (hp b rfl))).trans (hcell j x hj)⟩

set_option maxRecDepth 100000 in
theorem refPut_any (rb : Nat) (lv : Value) (many : Nat) (es : List EntL) (key v : List UInt8) (w : World) (h : RefAt w rb lv many es) (hlv : ∀ k, lv.ownBlock = some k → k < w.heap.size) (hm : es.length ≤ 1000) (h1 : 1 ≤ many) :
    Calls Tryd.prog 22 #[.pointer (some ⟨rb, 0, none⟩), str key, str v] w fun e w' =>
      e = .returned (.tuple #[]) ∧ ∃ lv', RefAt w' rb lv' many (refPut many key v es) ∧ Fr w.heap.size (fun k => k = rb) w w' ∧ (∀ k, lv'.ownBlock = some k → w.heap.size ≤ k ∧ k < w'.heap.size) := by
  have hle := h.row.le
  have hr := h.row
  have hrb : rb < w.heap.size := lt_of_heap h.blk
  obtain ⟨a, cap, rfl, -, -⟩ := hr
  simp only [List.length_map] at *
  have HH := Lib.hid h
  clear h
  go_enter Tryd.func22, Tryd.ntmps22
  go_wp2
  go_loopw [6, 7] (fun lv i wl => ∃ k : Nat, k ≤ es.length ∧ i = .int .i64 k ∧ wl.ownsRow w.heap.size 85 2 lv (others key (es.take k)).length (entCells (others key (es.take k))) ∧ Below w.heap.size w wl) (fun _ i _ => es.length - (intOf i).toNat)
  case atStart => exact ⟨0, by omega, rfl, by simpa [entCells] using World.ownsRow_nil w _ _ _, Below.refl _ _⟩
  case round =>
    obtain ⟨k, hkl, rfl, hown, hbl⟩ := hrel
    have c1 : wr.cell? ⟨rb, 1, none⟩ = some (.slice a es.length cap) := by
      rw [cell_of_heap ((hbl.block _ hrb).trans HH.out.blk)]; rfl
    have hrr := HH.out.row.below hbl hlv
    have HO := Lib.hid hown
    have HB := Lib.hid hbl
    clear hown hbl
    by_cases hlt : k < es.length
    · obtain ⟨b, o, hix, -, hce⟩ := hrr.at (P := Tryd.prog) Tryd.underlying49 (by kernel_rfl) k (by simpa using hlt)
      have e0 : wr.cell? ⟨b, o, none⟩ = some (str es[k].1) := hce 0 _ (by simp)
      have e1 : wr.cell? ⟨b, o + 1, none⟩ = some (str es[k].2) := hce 1 _ (by simp)
      clear hce hrr
      have hsz := HB.out.size
      have hn := take_le key es k
      by_cases he : es[k].1 = key
      · have hd : (es[k].1 == key) = true := by simpa using he
        have HD := Lib.hid (others_drop hlt hd)
        have HE := Lib.hid he
        clear he
        go_wp2
        go_roundw
        case rel => exact ⟨k + 1, by omega, by go_num, by rw [HD.out]; exact HO.out, HB.out⟩
        case measure => simp [intOf]; omega
      · have hd : (es[k].1 == key) = false := by simpa using he
        have HD := Lib.hid (others_keep hlt hd)
        have HE := Lib.hid he
        clear he
        go_wp2_with (first
          | (at_builtin
             refine wpList_appK _ rfl (.tmp 27) (.tmp 35) 49 rfl tyEnts w.heap.size u6 _ _ rfl (HO.out.alloc _) ⟨wr.heap.size, 0, none⟩ 1 1 (entRow es[k]) rfl rfl (news_block wr (entRow es[k]) _) ?_ (by decide) ?_ ?_ ?_
             · intro u hu; simp at hu; rcases hu with rfl | rfl <;> rfl
             · omega
             · simp; omega
             intro v5 w5 ho5 hg5 hloc5))
        go_roundw
        case rel =>
          refine ⟨k + 1, by omega, by go_num, ?_, ?_⟩
          · rw [HD.out]
            simp only [entCells, List.map_append, List.flatten_append, List.length_append, List.map_cons, List.map_nil, List.flatten_cons, List.flatten_nil, List.append_nil, List.length_cons, List.length_nil]
            exact ho5
          · exact (HB.out.alloc hsz _).grown hg5 (by simp; omega) (fun r hr => owned_from HO.out hr)
        case measure => simp [intOf]; omega
    · obtain rfl : k = es.length := by omega
      have HO2 := HO.out
      rw [List.take_length] at HO2
      have c0 : wr.cell? ⟨rb, 0, none⟩ = some (.int .i64 many) := by
        rw [cell_of_heap ((HB.out.block _ hrb).trans HH.out.blk)]; rfl
      have HO3 := Lib.hid HO2
      have hsz := HB.out.size
      have hn := others_le key es
      obtain ⟨n, hnn⟩ : ∃ n, n = (others key es).length := ⟨_, rfl⟩
      have HO4 : Hid (wr.ownsRow w.heap.size 85 2 u6 n (entCells (others key es))) := Lib.hid (by rw [hnn]; exact HO2)
      have HN := Lib.hid hnn
      rw [← hnn] at hn
      clear HO HO2 HO3 hrr hnn
      have app : ∀ v5 w5, w5.ownsRow w.heap.size 85 2 v5 (n + 1) (entCells (others key es) ++ entRow (key, v)) → (wr.alloc (.cells #[str key, str v] 85)).grownBy w5 u6.ownBlock →
          Below w.heap.size w w5 ∧ ∃ g cap5, v5 = .slice (some ⟨g, 0, none⟩) (n + 1) cap5 ∧ n + 1 ≤ cap5 ∧ cap5 ≤ 9223372036854775807 ∧ w.heap.size ≤ g ∧ g < w5.heap.size := by
        intro v5 w5 ho hg
        refine ⟨(HB.out.alloc hsz _).grown hg (by simp; omega) (fun r hr => owned_from HO4.out hr), ?_⟩
        rcases ho.2 with ⟨-, h0⟩ | ⟨g, cap5, cur, rfl, h1, h2, h3, h4, -⟩
        · omega
        · exact ⟨g, cap5, rfl, h3, by unfold maxLen at h4; omega, h1, lt_of_heap h2⟩
      have rows : ∀ (w5 : World) (g cap5 : Nat), w5.ownsRow w.heap.size 85 2 (.slice (some ⟨g, 0, none⟩) (n + 1) cap5) (n + 1) (entCells (others key es) ++ entRow (key, v)) →
          w5.ownsRow w.heap.size 85 2 (.slice (some ⟨g, 0, none⟩) (n + 1) cap5) (n + 1) ((others key es ++ [(key, v)]).map entRow).flatten := by
        intro w5 g cap5 ho
        simpa [entCells] using ho
      have APP := Lib.hid app
      have ROWS := Lib.hid rows
      clear app rows
      by_cases hl : many < n + 1
      · have hd : decide ((many : Int) < (n : Int) + 1) = true := by simp; omega
        go_wp2_with (first
          | (at_builtin
             refine wpList_appK _ rfl (.tmp 37) (.tmp 41) 49 rfl tyEnts w.heap.size u6 n _ rfl (HO4.out.alloc _) ⟨wr.heap.size, 0, none⟩ 1 1 (entRow (key, v)) rfl rfl (news_block wr (entRow (key, v)) _) ?_ (by decide) ?_ ?_ ?_
             · intro u hu; simp at hu; rcases hu with rfl | rfl <;> rfl
             · omega
             · simp; omega
             intro v5 w5 ho5 hg5 hloc5
             obtain ⟨hb5, g, cap5, rfl, hc1, hc2, hg1, hg2⟩ := APP.out v5 w5 ho5 hg5
             have hh5 := (hb5.block _ hrb).trans HH.out.blk
             have d0 : w5.cell? ⟨rb, 0, none⟩ = some (.int .i64 many) := (cell_of_heap hh5 0).trans rfl
             have d1 : w5.cell? ⟨rb, 1, none⟩ = some (.slice a es.length cap) := (cell_of_heap hh5 1).trans rfl
             have f1 : w5.frozen? ⟨rb, 1, none⟩ = false := free_of_heap hh5 1
             have HB5 := Lib.hid hb5
             have H5 := Lib.hid hh5
             have HO5 := Lib.hid (ROWS.out w5 g cap5 ho5)
             have hne1 : ¬ cap5 = 1 := by omega
             have G1 := Lib.hid hg1
             have G2 := Lib.hid hg2
             clear hb5 hh5 ho5 hg5 hloc5 hg1 hg2))
        go_end0
        have hrest : ∃ e0 rest, others key es ++ [(key, v)] = e0 :: rest := by
          cases others key es with
          | nil => exact ⟨_, _, rfl⟩
          | cons x l => exact ⟨_, _, rfl⟩
        obtain ⟨e0, rest, hrest⟩ := hrest
        have hlen : rest.length = n := by
          have := congrArg List.length hrest
          simp at this
          rw [HN.out]; omega
        refine ⟨rfl, _, ⟨Kf.heap_setCell_same H5.out _, ?_⟩, ?_, ?_⟩
        · unfold refPut
          rw [if_pos (by rw [← HN.out]; exact hl), hrest]
          have ho := HO5.out
          rw [hrest] at ho
          have hr5 := ownsRow_readsK_tail ho (by simp [hlen]) (entRow_len (es := e0 :: rest)) (cap5 - 1)
          rw [Nat.add_sub_cancel] at hr5
          refine readsK_setCell hr5 (fun k hk => ?_) _
          cases hk
          have := G1.out
          show g ≠ rb
          omega
        · exact Fr.setCell (S := fun k => k = rb) (p := ⟨rb, 1, none⟩) (Fr.of_below HB5.out) (fun _ => rfl) _
        · intro k hk
          cases hk
          refine ⟨G1.out, ?_⟩
          have := G2.out
          simpa [World.setCell] using this
      · have hd : decide ((many : Int) < (n : Int) + 1) = false := by simp; omega
        go_wp2_with (first
          | (at_builtin
             refine wpList_appK _ rfl (.tmp 37) (.tmp 41) 49 rfl tyEnts w.heap.size u6 n _ rfl (HO4.out.alloc _) ⟨wr.heap.size, 0, none⟩ 1 1 (entRow (key, v)) rfl rfl (news_block wr (entRow (key, v)) _) ?_ (by decide) ?_ ?_ ?_
             · intro u hu; simp at hu; rcases hu with rfl | rfl <;> rfl
             · omega
             · simp; omega
             intro v5 w5 ho5 hg5 hloc5
             obtain ⟨hb5, g, cap5, rfl, hc1, hc2, hg1, hg2⟩ := APP.out v5 w5 ho5 hg5
             have hh5 := (hb5.block _ hrb).trans HH.out.blk
             have d0 : w5.cell? ⟨rb, 0, none⟩ = some (.int .i64 many) := (cell_of_heap hh5 0).trans rfl
             have d1 : w5.cell? ⟨rb, 1, none⟩ = some (.slice a es.length cap) := (cell_of_heap hh5 1).trans rfl
             have f1 : w5.frozen? ⟨rb, 1, none⟩ = false := free_of_heap hh5 1
             have HB5 := Lib.hid hb5
             have H5 := Lib.hid hh5
             have HO5 := Lib.hid (ROWS.out w5 g cap5 ho5)
             have G1 := Lib.hid hg1
             have G2 := Lib.hid hg2
             clear hb5 hh5 ho5 hg5 hloc5 hg1 hg2))
        go_end0
        refine ⟨rfl, _, ⟨Kf.heap_setCell_same H5.out _, ?_⟩, ?_, ?_⟩
        · unfold refPut
          rw [if_neg (by rw [← HN.out]; exact hl)]
          refine readsK_setCell (ownsRow_readsK HO5.out (by simp [HN.out]) entRow_len) (fun k hk => ?_) _
          cases hk
          have := G1.out
          show g ≠ rb
          omega
        · exact Fr.setCell (S := fun k => k = rb) (p := ⟨rb, 1, none⟩) (Fr.of_below HB5.out) (fun _ => rfl) _
        · intro k hk
          cases hk
          refine ⟨G1.out, ?_⟩
          have := G2.out
          simpa [World.setCell] using this
end Go.Proofs.YtmmgbgekcpbelaaDoor
