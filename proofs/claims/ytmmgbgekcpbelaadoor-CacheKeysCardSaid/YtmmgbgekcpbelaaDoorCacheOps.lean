/-
  The cache of package cache: New, Get, Put, Len, Keys.
-/
import Derived.Test.YtmmgbgekcpbelaaDoorCacheLast
import Derived.Test.YtmmgbgekcpbelaaDoorShelf
import Derived.Test.YtmmgbgekcpbelaaDoorShelfAid
namespace Go.Proofs.YtmmgbgekcpbelaaDoor
open Go Go.RowKit Go.Kf

theorem mapKey : KeyBy Tryd.prog 9 str := KeyBy.string Tryd.underlying9
theorem mapUnd : Tryd.prog.underlying 73 = some (.map 9 9) := Tryd.underlying73

/-- cache.New: too few, or too many. -/
theorem new_bad (n : Int) (w : World) (e : Value) (h : n < 1 ∨ 100 < n) (hE : w.cell? ⟨1, 0, none⟩ = some e) :
    Calls Tryd.prog 12 #[.int .i64 n] w fun r w' => r = .returned (.tuple #[.pointer none, e]) ∧ ∃ q, w' = w.drewN q := by
  rcases h with h | h
  all_goals
    go_enter Tryd.func12, Tryd.ntmps12
    go_wp2
    go_quiet (fail)
    go_wp2
    go_ret2
    exact ⟨rfl, _, rfl⟩
/-- cache.New: an empty cache. -/
theorem new_ok (n : Nat) (w : World) (h1 : 1 ≤ n) (h2 : n ≤ 100) :
    Calls Tryd.prog 12 #[.int .i64 n] w fun r w' => ∃ pb mb, r = .returned (.tuple #[.pointer (some ⟨pb, 0, none⟩), .nilIface]) ∧ w.heap.size ≤ pb ∧ w.heap.size ≤ mb ∧ CacheAt w' pb mb (.slice none 0 0) n [] [] ∧ Below w.heap.size w w' := by
  have hmm := @run_makeMap Tryd.prog
  go_enter Tryd.func12, Tryd.ntmps12
  go_wp2
  go_ret2
  refine ⟨w.heap.size + 1, w.heap.size, rfl, by omega, by omega, ⟨?_, World.ownsRow_nil _ _ _ _, ?_⟩, ?_⟩
  · have := heap_alloc_here (w.alloc (.map #[] 0)) (.cells #[.int .i64 n, .slice none 0 0, .map (some w.heap.size)] 75)
    simpa using this
  · exact (MapIs.made w).of_block (Below.heap_alloc _ _ _ (by simp))
  · exact ((Below.refl _ w).alloc (Nat.le_refl _) _).alloc (by simp) _

set_option maxRecDepth 100000 in
/-- (*Cache).Len. -/
theorem len_any (pb mb : Nat) (lv : Value) (many : Nat) (l : List (List UInt8)) (m : List (List UInt8 × List UInt8)) (w : World) (h : CacheAt w pb mb lv many l m) :
    Calls Tryd.prog 15 #[.pointer (some ⟨pb, 0, none⟩)] w fun e w' => e = .returned (.int .i64 l.length) ∧ w = w' := by
  obtain ⟨a, cap, rfl, -, -⟩ := ownsRow_reads h.row
  have c1 : w.cell? ⟨pb, 1, none⟩ = some (.slice a (l.map str).length cap) := by rw [cell_of_heap h.blk]; rfl
  rw [List.length_map] at c1
  clear h
  go_enter Tryd.func15, Tryd.ntmps15
  go_wp2
  go_ret
  exact ⟨rfl, rfl⟩

set_option maxRecDepth 100000 in
/-- (*Cache).Get: what is there; it is then the last one. -/
theorem get_any (pb mb : Nat) (lv : Value) (many : Nat) (l : List (List UInt8)) (m : List (List UInt8 × List UInt8)) (key : List UInt8) (w : World) (h : CacheAt w pb mb lv many l m) (hl : l.length ≤ 1000) :
    Calls Tryd.prog 13 #[.pointer (some ⟨pb, 0, none⟩), str key] w fun e w' =>
      e = .returned (.tuple #[str ((mlook key m).getD []), .bool (mlook key m).isSome]) ∧
      ∃ lv', CacheAt w' pb mb lv' many (if (mlook key m).isSome then without key l ++ [key] else l) m ∧ Fr w.heap.size (foot pb mb lv) w w' ∧ (∀ k, lv'.ownBlock = some k → lv.ownBlock = some k ∨ w.heap.size ≤ k) := by
  have c2 : w.cell? ⟨pb, 2, none⟩ = some (.map (some mb)) := by rw [cell_of_heap h.blk]; rfl
  have hlk := h.map.lookup mapKey mapUnd zeroStr key true
  simp only [if_true] at hlk
  have H := Lib.hid h
  cases hk : mlook key m with
  | none =>
    rw [hk] at hlk
    simp only [Option.map_none, Option.getD_none, Option.isSome_none] at hlk
    clear h
    go_enter Tryd.func13, Tryd.ntmps13
    go_wp2
    go_ret2
    exact ⟨rfl, lv, by simpa using H.out, .refl _ _ _, fun k hk => Or.inl hk⟩
  | some v =>
    rw [hk] at hlk
    simp only [Option.map_some, Option.getD_some, Option.isSome_some] at hlk
    clear h
    go_enter Tryd.func13, Tryd.ntmps13
    go_wp2_with (go_at_call 43; refine (last_any pb mb lv many l m key _ H.out hl).mono ?_; rintro e w' ⟨rfl, hpost⟩)
    go_ret2
    exact ⟨rfl, hpost⟩
end Go.Proofs.YtmmgbgekcpbelaaDoor
