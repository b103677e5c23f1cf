/-
  The cache of package cache: Put.
-/
import Derived.Test.YtmmgbgekcpbelaaDoorCacheOps
namespace Go.Proofs.YtmmgbgekcpbelaaDoor
open Go Go.RowKit Go.Kf

theorem CacheAt.drewN {w : World} {pb mb : Nat} {lv : Value} {many : Nat} {l : List (List UInt8)} {m : List (List UInt8 × List UInt8)} (h : CacheAt w pb mb lv many l m) (n : Nat) : CacheAt (w.drewN n) pb mb lv many l m :=
  ⟨h.blk, h.row, h.map⟩

/-- slices.Delete of the first text. -/
theorem delete_first (g cap : Nat) (l : List (List UInt8)) (w : World) (h : w.ownsRow 0 9 1 (.slice (some ⟨g, 0, none⟩) l.length cap) l.length (l.map str)) (h1 : 1 ≤ l.length) (hcap : l.length ≤ cap) (hm : cap ≤ 9223372036854775807) :
    Calls Tryd.prog 44 #[.slice (some ⟨g, 0, none⟩) l.length cap, .int .i64 0, .int .i64 1] w fun e w' =>
      e = .returned (.slice (some ⟨g, 0, none⟩) (l.length - 1) cap) ∧ w'.ownsRow 0 9 1 (.slice (some ⟨g, 0, none⟩) (l.length - 1) cap) (l.length - 1) (l.tail.map str) ∧ w.grownBy w' (some g) := by
  refine (Tryd.slices_Delete_string g 0 cap 0 1 l w (holds_own h) hcap hm (by omega) h1).mono ?_
  rintro e w' ⟨rfl, q, rfl⟩
  have hp := own_put (enc := str) h (l.take 0 ++ l.drop 1 ++ List.replicate (1 - 0) []) (by simp; omega) q
  refine ⟨by simp, ?_, hp.2⟩
  have hc := ownsRow_cut (m := l.length - 1) hp.1 (by omega)
  have e : ((l.take 0 ++ l.drop 1 ++ List.replicate (1 - 0) []).map str).take (l.length - 1) = l.tail.map str := by
    rw [← List.map_take, List.take_append_of_le_length (by simp), List.take_zero, List.nil_append, List.drop_one, List.take_of_length_le (by simp)]
  rw [e] at hc
  exact hc

/-- What Put makes of the keys and of the map. -/
def putKeys (many : Nat) (key : List UInt8) (l : List (List UInt8)) : List (List UInt8) :=
  if many < (without key l ++ [key]).length then (without key l ++ [key]).tail else without key l ++ [key]
def putMapL (many : Nat) (key v : List UInt8) (l : List (List UInt8)) (m : List (List UInt8 × List UInt8)) : List (List UInt8 × List UInt8) :=
  if many < (without key l ++ [key]).length then mdel ((without key l ++ [key]).headD []) (mupd key v m) else mupd key v m

set_option maxRecDepth 100000 in
set_option maxHeartbeats 1000000 in
theorem put_any (pb mb : Nat) (lv : Value) (many : Nat) (l : List (List UInt8)) (m : List (List UInt8 × List UInt8)) (key v : List UInt8) (w : World) (h : CacheAt w pb mb lv many l m) (hl : l.length ≤ 999) :
    Calls Tryd.prog 14 #[.pointer (some ⟨pb, 0, none⟩), str key, str v] w fun e w' =>
      e = .returned (.tuple #[]) ∧ ∃ lv', CacheAt w' pb mb lv' many (putKeys many key l) (putMapL many key v l m) ∧ Fr w.heap.size (foot pb mb lv) w w' ∧ (∀ k, lv'.ownBlock = some k → lv.ownBlock = some k ∨ w.heap.size ≤ k) := by
  have c2 : w.cell? ⟨pb, 2, none⟩ = some (.map (some mb)) := by rw [cell_of_heap h.blk]; rfl
  obtain ⟨es, clock, hup, hmap1⟩ := h.map.update mapKey mapUnd key v
  have hpb := lt_of_heap h.blk
  have hmb := h.map.lt
  have hF1 : Fr w.heap.size (foot pb mb lv) w (putMap w mb es clock) := (Fr.refl _ _ w).putMap (fun _ => Or.inr (Or.inl rfl)) es clock
  have hC1 : CacheAt (putMap w mb es clock) pb mb lv many l (mupd key v m) := by
    refine ⟨by rw [putMap_heap, if_neg (fun e => h.pb_mb e.1)]; exact h.blk, ?_, hmap1⟩
    refine h.row.kept (row := some mb) ⟨rfl, rfl, rfl, by simp [putMap], fun k _ hk => ?_⟩ (Or.inr h.ne_mb)
    rw [putMap_heap, if_neg (fun e => hk (by rw [e.1]))]
  clear hmap1 h
  go_enter Tryd.func14, Tryd.ntmps14
  go_wp2_with fail
  refine (last_any pb mb lv many l _ key _ hC1 (by omega)).mono ?_
  rintro e w2 ⟨rfl, lv2, hC2, hF2, hl2⟩
  have hF2' := hF1.trans (hF2.mono (B' := w.heap.size) (S' := foot pb mb lv) hF1.size (fun k _ hk => hk))
  have hll := without_le key l
  have hn1 : 0 < (without key l ++ [key]).length := by simp
  have hn2 : (without key l ++ [key]).length ≤ 1000 := by simp; omega
  have hl2' : ∀ k, lv2.ownBlock = some k → lv.ownBlock = some k ∨ w.heap.size ≤ k := fun k hk => (hl2 k hk).imp id (fun h => Nat.le_trans hF1.size h)
  clear hC1 hup c2 hl2 hF1 hF2
  have H2 := Lib.hid hC2
  have hx1 : putKeys many key l = if many < (without key l ++ [key]).length then (without key l ++ [key]).tail else without key l ++ [key] := rfl
  have hx2 : putMapL many key v l m = if many < (without key l ++ [key]).length then mdel ((without key l ++ [key]).headD []) (mupd key v m) else mupd key v m := rfl
  have HX1 := Lib.hid hx1
  have HX2 := Lib.hid hx2
  clear hx1 hx2
  generalize without key l ++ [key] = l1 at *
  generalize mupd key v m = m1 at *
  obtain ⟨g, cap, rfl⟩ := ownsRow_some hC2.row hn1
  have c0 : w2.cell? ⟨pb, 0, none⟩ = some (.int .i64 many) := by rw [cell_of_heap hC2.blk]; rfl
  have c1 : w2.cell? ⟨pb, 1, none⟩ = some (.slice (some ⟨g, 0, none⟩) l1.length cap) := by rw [cell_of_heap hC2.blk]; rfl
  clear hC2
  by_cases hlt : many < l1.length
  · have hd : decide ((many : Int) < (l1.length : Int)) = true := by simp; omega
    go_wp2_with fail
    go_quiet (fail)
    go_wp2_with fail
    generalize hw3 : w2.drewN nq = w3
    have hC3 : CacheAt w3 pb mb (.slice (some ⟨g, 0, none⟩) l1.length cap) many l1 m1 := by rw [← hw3]; exact H2.out.drewN _
    have hF3 : Fr w.heap.size (foot pb mb lv) w w3 := by rw [← hw3]; exact hF2'.drewN _
    clear hw3 hF2' H2 c0 c1
    have c1 : w3.cell? ⟨pb, 1, none⟩ = some (.slice (some ⟨g, 0, none⟩) l1.length cap) := by rw [cell_of_heap hC3.blk]; rfl
    have c2 : w3.cell? ⟨pb, 2, none⟩ = some (.map (some mb)) := by rw [cell_of_heap hC3.blk]; rfl
    obtain ⟨x, hx⟩ : ∃ x, x = l1.headD [] := ⟨_, rfl⟩
    have cg : w3.cell? ⟨g, 0, none⟩ = some (str x) := by
      rw [hC3.row.cellAt 0 (by omega), hx]
      cases l1 with
      | nil => simp at hn1
      | cons x l => rfl
    obtain ⟨es2, clock2, hdel, hmap2⟩ := MapIs.delete (w := w3.drew) mapKey mapUnd hC3.map x 0
    have h0 : (0 : Int) < (l1.length : Int) := by omega
    have H3 := Lib.hid hC3
    have HX := Lib.hid hx
    clear hC3 hx
    go_region
    have hC4 : CacheAt (putMap w3.drew mb es2 clock2) pb mb (.slice (some ⟨g, 0, none⟩) l1.length cap) many l1 (mdel x m1) := by
      refine ⟨by rw [putMap_heap, if_neg (fun e => H3.out.pb_mb e.1)]; exact H3.out.blk, ?_, hmap2⟩
      refine H3.out.row.kept (row := some mb) ⟨rfl, rfl, rfl, by simp [putMap], fun k _ hk => ?_⟩ (Or.inr H3.out.ne_mb)
      rw [putMap_heap, if_neg (fun e => hk (by rw [e.1]))]; rfl
    have hF4 : Fr w.heap.size (foot pb mb lv) w (putMap w3.drew mb es2 clock2) := hF3.drew.putMap (fun _ => Or.inr (Or.inl rfl)) _ _
    clear hmap2 hdel c1 c2 cg hF3 H3
    generalize putMap w3.drew mb es2 clock2 = w4 at *
    have c1 : w4.cell? ⟨pb, 1, none⟩ = some (.slice (some ⟨g, 0, none⟩) l1.length cap) := by rw [cell_of_heap hC4.blk]; rfl
    have f1 : w4.frozen? ⟨pb, 1, none⟩ = false := free_of_heap hC4.blk 1
    have hcap : l1.length ≤ cap ∧ cap ≤ 9223372036854775807 := by
      rcases hC4.row.2 with ⟨h', _⟩ | ⟨_, _, _, h', _, _, h1, h2, _⟩
      · cases h'
      · cases h'; unfold maxLen at h2; omega
    have H4 := Lib.hid hC4
    clear hC4
    go_wp2_with fail
    refine (delete_first g cap l1 w4 H4.out.row (by omega) hcap.1 hcap.2).mono ?_
    rintro e w5 ⟨rfl, ho5, hg5⟩
    have hgpb : g ≠ pb := fun e => H4.out.ne_pb (by rw [e]; rfl)
    have hgmb : g ≠ mb := fun e => H4.out.ne_mb (by rw [e]; rfl)
    have hF5 : Fr w.heap.size (fun k => foot pb mb lv k ∨ k = g) w w5 := (hF4.mono (Nat.le_refl _) (fun k _ hk => Or.inl hk)).grown hg5 hF4.size (fun k hk _ => by cases hk; exact Or.inr rfl)
    have hpb4 := lt_of_heap H4.out.blk
    have hmb4 := H4.out.map.lt
    have c1 : w5.cell? ⟨pb, 1, none⟩ = some (.slice (some ⟨g, 0, none⟩) l1.length cap) := hg5.cell c1 (by simp; exact fun e => hgpb e.symm)
    have f1 : w5.frozen? ⟨pb, 1, none⟩ = false := by rw [World.frozen?_of_block (hg5.block pb hpb4 (by simp; exact fun e => hgpb e.symm))]; exact f1
    have hb5 : w5.heap[pb]? = some (.cells #[.int .i64 many, .slice (some ⟨g, 0, none⟩) l1.length cap, .map (some mb)] 75 (0, 0)) := (hg5.block pb hpb4 (by simp; exact fun e => hgpb e.symm)).trans H4.out.blk
    have HB5 := Lib.hid hb5
    clear hb5
    go_wp2_with fail
    go_end0
    refine ⟨rfl, .slice (some ⟨g, 0, none⟩) (l1.length - 1) cap, ?_, ?_, hl2'⟩
    · rw [HX1.out, HX2.out, if_pos hlt, if_pos hlt, ← HX.out]
      refine ⟨Kf.heap_setCell_same HB5.out _, ?_, ?_⟩
      · rw [List.length_tail]
        exact ownsRow_setCell_other ho5 (by simp [Value.ownBlock]; exact hgpb) _
      · exact (H4.out.map.of_block (hg5.block mb hmb4 (by simp; exact fun e => hgmb e.symm))).of_block (Below.heap_setCell _ _ _ _ (fun e => H4.out.pb_mb e.symm))
    · refine Fr.setCell (p := ⟨pb, 1, none⟩) (hF5.mono (S' := foot pb mb lv) (Nat.le_refl _) ?_) (fun _ => Or.inl rfl) _
      rintro k hk (hk' | rfl)
      · exact hk'
      · rcases hl2' k rfl with h | h
        · exact Or.inr (Or.inr h)
        · omega
  · have hd : decide ((many : Int) < (l1.length : Int)) = false := by simp; omega
    go_wp2_with fail
    go_quiet (fail)
    go_wp2_with fail
    go_end0
    refine ⟨rfl, _, ?_, hF2'.drewN _, hl2'⟩
    rw [HX1.out, HX2.out, if_neg hlt, if_neg hlt]
    exact H2.out.drewN _
end Go.Proofs.YtmmgbgekcpbelaaDoor
