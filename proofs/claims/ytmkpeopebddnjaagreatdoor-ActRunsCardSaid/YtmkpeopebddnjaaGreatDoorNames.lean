/-
  The walk of the law Names: it answers true in every world that bears the program's errors.
-/
import Derived.Test.YtmkpeopebddnjaaGreatDoorCodeF
import Derived.Test.YtmkpeopebddnjaaGreatDoorSame
namespace Go.Proofs.YtmkpeopebddnjaaGreatDoor
open Go Go.RowKit Go.Kf

theorem reads_of_heap {w : World} {b : Nat} {c : Array Value} {t : TypeId} (h : w.heap[b]? = some (.cells c t (0, 0))) (xs : List Value) (hx : c.toList = xs) (hl : xs.length ≤ 9223372036854775807) :
    Reads w (.slice (some ⟨b, 0, none⟩) xs.length xs.length) xs :=
  ⟨_, _, rfl, hl, fun i u hi => ⟨b, 0, rfl, by rw [Nat.zero_add, cell_of_heap h, ← Array.getElem?_toList, hx]; exact hi⟩⟩

/-- coded, where the error's number is the one that is wanted. -/
theorem coded_yes (v : Value) (n : Int) (w : World) (h : Calls Tryz.prog 37 #[v] w fun e w' => e = .returned (.tuple #[.int .i64 n, .int .i64 (-1)]) ∧ Below w.heap.size w w') :
    Calls Tryz.prog 11 #[v, .int .i64 n] w fun e w' => e = .returned (.bool true) ∧ Below w.heap.size w w' := by
  have H := Lib.hid h
  clear h
  go_enter Tryz.func11, Tryz.ntmps11
  go_wp2_with fail
  go_at_call 37
  refine H.out.mono ?_
  rintro e w' ⟨rfl, hb⟩
  go_wp2
  go_ret
  exact ⟨rfl, hb⟩

theorem code_sent (w : World) (S : Nat → Addr) (h : ErrW w S) (k : Nat) (hk : k < 12) :
    Calls Tryz.prog 37 #[errV (S k)] w fun e w' => e = .returned (.tuple #[.int .i64 ((k : Int) + 1), .int .i64 (-1)]) ∧ Below w.heap.size w w' := by
  refine (code_leaf w S h (S k) k (by omega) (fun i hi e => by have := h.inj k i hk (by omega) e; omega) (fun _ => rfl) (h.blk k hk)).mono ?_
  rintro e w' ⟨rfl, hb⟩
  exact ⟨by unfold codeOf; rw [if_pos hk], hb⟩
theorem new_any (s : ByteArray) (w : World) : Calls Tryz.prog 174 #[.string s] w fun e w' => e = .returned (errV ⟨w.heap.size, 0, none⟩) ∧ w' = w.alloc (.cells #[.string s] 220) := by
  go_enter Tryz.func174, Tryz.ntmps174
  go_wp2
  go_ret
  exact ⟨rfl, rfl⟩
theorem code_new (w : World) (S : Nat → Addr) (h : ErrW w S) (s : Value) :
    Calls Tryz.prog 37 #[errV ⟨w.heap.size, 0, none⟩] (w.alloc (.cells #[s] 220)) fun e w' => e = .returned (.tuple #[.int .i64 (-1), .int .i64 (-1)]) ∧ Below w.heap.size w w' := by
  have hb : Below w.heap.size w (w.alloc (.cells #[s] 220)) := (Below.refl _ _).alloc (Nat.le_refl _) _
  refine (code_leaf _ S (h.below hb (Nat.le_refl _)) ⟨w.heap.size, 0, none⟩ 12 (by omega) (fun i hi e => ?_) (fun h => by omega) ⟨_, _, heap_alloc_here w _⟩).mono ?_
  · obtain ⟨c, t, hc⟩ := h.blk i hi
    have := lt_of_heap hc
    rw [← e] at this
    exact absurd this (Nat.lt_irrefl _)
  · rintro e w' ⟨rfl, hb'⟩
    exact ⟨rfl, hb.trans (hb'.mono (by simp))⟩

abbrev eleven : List Int := [12, 5, 2000, 60, 40, 8, 10000, 100, 3000, 100, 16]

end Go.Proofs.YtmkpeopebddnjaaGreatDoor
