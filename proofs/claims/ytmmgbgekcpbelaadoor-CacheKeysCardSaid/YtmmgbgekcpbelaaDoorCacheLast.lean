/-
  The cache of package cache: its methods.
-/
import Derived.Test.YtmmgbgekcpbelaaDoorCache
namespace Go.Proofs.YtmmgbgekcpbelaaDoor
open Go Go.RowKit Go.Kf

theorem tyStrs : SliceTy Tryd.prog 29 9 (str []) 16 := ⟨Tryd.underlying29, by kernel_rfl, rfl⟩

/-- A cache in memory: its struct's block, its map's block, its list of keys. -/
structure CacheAt (w : World) (pb mb : Nat) (lv : Value) (many : Nat) (l : List (List UInt8)) (m : List (List UInt8 × List UInt8)) : Prop where
  blk : w.heap[pb]? = some (.cells #[.int .i64 many, lv, .map (some mb)] 75 (0, 0))
  row : w.ownsRow 0 9 1 lv l.length (l.map str)
  map : MapIs str str w mb m

/-- The blocks of a cache. -/
def foot (pb mb : Nat) (lv : Value) (k : Nat) : Prop := k = pb ∨ k = mb ∨ lv.ownBlock = some k

theorem ownBlock_elem {w : World} {base e size n : Nat} {v : Value} {xs : List Value} (h : w.ownsRow base e size v n xs) {k : Nat} (hk : v.ownBlock = some k) : ∃ c, w.heap[k]? = some (.cells c e (0, 0)) := by
  rcases h.2 with ⟨rfl, -⟩ | ⟨g, cap, cur, rfl, -, hh, -⟩
  · cases hk
  · simp only [Value.ownBlock, Option.some.injEq] at hk
    subst hk
    exact ⟨_, hh⟩
theorem CacheAt.ne_pb {w : World} {pb mb : Nat} {lv : Value} {many : Nat} {l : List (List UInt8)} {m : List (List UInt8 × List UInt8)} (h : CacheAt w pb mb lv many l m) : lv.ownBlock ≠ some pb := by
  intro hk
  obtain ⟨c, hc⟩ := ownBlock_elem h.row hk
  rw [h.blk] at hc
  cases hc
theorem CacheAt.ne_mb {w : World} {pb mb : Nat} {lv : Value} {many : Nat} {l : List (List UInt8)} {m : List (List UInt8 × List UInt8)} (h : CacheAt w pb mb lv many l m) : lv.ownBlock ≠ some mb := by
  intro hk
  obtain ⟨c, hc⟩ := ownBlock_elem h.row hk
  obtain ⟨es, clock, hm, -⟩ := h.map
  rw [hm] at hc
  cases hc
theorem CacheAt.pb_mb {w : World} {pb mb : Nat} {lv : Value} {many : Nat} {l : List (List UInt8)} {m : List (List UInt8 × List UInt8)} (h : CacheAt w pb mb lv many l m) : pb ≠ mb := by
  rintro rfl
  obtain ⟨es, clock, hm, -⟩ := h.map
  rw [h.blk] at hm
  cases hm

/-- The row alone may have turned. -/
def rowOf (lv : Value) (k : Nat) : Prop := lv.ownBlock = some k

set_option maxRecDepth 100000 in
set_option maxHeartbeats 1000000 in
theorem last_any (pb mb : Nat) (lv : Value) (many : Nat) (l : List (List UInt8)) (m : List (List UInt8 × List UInt8)) (key : List UInt8) (w : World) (h : CacheAt w pb mb lv many l m) (hl : l.length ≤ 1000) :
    Calls Tryd.prog 43 #[.pointer (some ⟨pb, 0, none⟩), str key] w fun e w' =>
      e = .returned (.tuple #[]) ∧ ∃ lv', CacheAt w' pb mb lv' many (without key l ++ [key]) m ∧ Fr w.heap.size (foot pb mb lv) w w' ∧ (∀ k, lv'.ownBlock = some k → lv.ownBlock = some k ∨ w.heap.size ≤ k) := by
  have hn1 := h.ne_pb
  have hn2 := h.ne_mb
  have hn3 := h.pb_mb
  obtain ⟨hb, hr, hm⟩ := h
  have hpb := lt_of_heap hb
  have hmb := hm.lt
  have c1 : w.cell? ⟨pb, 1, none⟩ = some lv := by rw [cell_of_heap hb]; rfl
  have f1 : w.frozen? ⟨pb, 1, none⟩ = false := free_of_heap hb 1
  have HB := Lib.hid hb
  have HM := Lib.hid hm
  have HN1 := Lib.hid hn1
  have HN2 := Lib.hid hn2
  have HN3 := Lib.hid hn3
  clear hb hm hn1 hn2 hn3
  go_enter Tryd.func43, Tryd.ntmps43
  go_wp2_with fail
  go_region_law (first
    | (go_simp
       go_at_call 59
       refine (deleteFunc_any lv l key w.heap.size _ ?_ ?_ ?_).mono ?_
       · first | exact World.ownsRow.drew ((hr.alloc _).alloc _) | exact World.ownsRow.drew (hr.alloc _)
       · simp [go_sem]
       · intro hk; have := (hr.lt _ hk).2; omega
       rintro e w1 ⟨v1, rfl, hv1, ho1, hg1⟩
       have hbox : w1.cell? ⟨w.heap.size, 0, none⟩ = some (str key) := hg1.cell (by first | (simp [go_sem]; done) | simp [go_sem, World.cell?_alloc_past]) (fun hk => Nat.lt_irrefl _ (hr.lt _ hk.symm).2)
       have hF1 : Fr w.heap.size (rowOf lv) w w1 := by
         first
         | exact Fr.grown (((Fr.refl _ _ w).alloc (Nat.le_refl _) _).drew) hg1 (by show w.heap.size ≤ (w.heap.push _).size; simp) (fun k hk _ => hk)
         | exact Fr.grown ((((Fr.refl _ _ w).alloc (Nat.le_refl _) _).alloc (by simp) _).drew) hg1 (by show w.heap.size ≤ ((w.heap.push _).push _).size; simp; omega) (fun k hk _ => hk))
    | (refine step_app rfl (.tmp 10) (.tmp 12) 29 rfl tyStrs 0 v1 _ _ rfl (by first | exact ho1 | exact ho1.alloc _) _ 1 1 [str key] rfl rfl (news_one ?_) ?_ (by decide) ?_ (Nat.zero_le _) ?_
       · first | (refine hg1.cell ?_ (fun hk => Nat.not_lt.2 (Nat.le_succ _) (hr.lt _ hk.symm).2); simp [go_sem]; done) | (simp [go_sem]; done)
       · intro u hu; simp at hu; subst hu; rfl
       · have := without_le key l; omega
       intro v2 w2 ho2 hg2 hloc
       have hF2 : Fr w.heap.size (rowOf lv) w w2 := by
         first
         | exact Fr.grown hF1 hg2 hF1.size (fun k hk _ => by rw [hv1] at hk; exact hk)
         | exact Fr.grown (hF1.alloc hF1.size _) hg2 (by have := hF1.size; simp; omega) (fun k hk _ => by rw [hv1] at hk; exact hk)
       have hl2 : ∀ k, v2.ownBlock = some k → lv.ownBlock = some k ∨ w.heap.size ≤ k := by
         intro k hk
         rcases hloc with h | h
         · left; rw [← hv1, ← h]; exact hk
         · right; rw [hk] at h; cases h; have := hF1.size; simp; omega
       clear hloc hg2
       obtain ⟨g2, cap2, rfl⟩ := ownsRow_some ho2 (by omega)
       have c2 : w2.cell? ⟨pb, 1, none⟩ = some lv := (hF2.cell (p := ⟨pb, 1, none⟩) hpb HN1.out).trans c1
       have f2 : w2.frozen? ⟨pb, 1, none⟩ = false := (hF2.frozen (p := ⟨pb, 1, none⟩) hpb HN1.out).trans f1))
  all_goals
    go_end0
    refine ⟨rfl, _, ⟨Kf.heap_setCell_same ((hF2.block pb hpb HN1.out).trans HB.out) _, ?_, ?_⟩, ?_, hl2⟩
    · have h1 := ownsRow_setCell_other (a := ⟨pb, 1, none⟩) ho2 (fun e => ?_) (.slice (some ⟨g2, 0, none⟩) ((without key l).length + 1) cap2)
      · simpa using h1
      · rcases hl2 _ e with h | h
        · exact HN1.out h
        · exact absurd hpb (Nat.not_lt.2 h)
    · exact (HM.out.of_block (hF2.block mb hmb HN2.out)).of_block (Below.heap_setCell _ _ _ _ (fun e => HN3.out e.symm))
    · exact Fr.setCell (p := ⟨pb, 1, none⟩) (hF2.mono (S' := foot pb mb lv) (Nat.le_refl _) (fun k _ hk => Or.inr (Or.inr hk))) (fun _ => Or.inl rfl) _
end Go.Proofs.YtmmgbgekcpbelaaDoor
