/-
  coded and faulted of package kilnfieldlaw3.
-/
import Derived.Test.YtgoeoekdlcbmpaaGreatDoorPkO

namespace Go.Proofs.YtgoeoekdlcbmpaaGreatDoor
open Go Go.RowKit Go.Kf Go.Sort Go.Proofs

set_option maxRecDepth 100000 in
theorem faulted3_any (err : Value) (c : Nat) (p : Int) (w : World) (h : ∀ w1, Below w.heap.size w w1 → Calls Tryz.prog 73 #[err] w1 fun e w' => e = .returned (.tuple #[.int .i64 (c : Int), .int .i64 p]) ∧ Below w1.heap.size w1 w') :
    Calls Tryz.prog 35 #[err, faultV c p] w fun e w' => e = .returned (.bool true) ∧ Below w.heap.size w w' := by
  obtain ⟨W0, hW0⟩ : ∃ W, w.alloc (.cells #[.int .i64 (c : Int), .int .i64 p] 68) = W := ⟨_, rfl⟩
  have hA : Below w.heap.size w W0 := hW0 ▸ (Below.refl _ w).alloc (Nat.le_refl _) _
  have hz : w.heap.size < W0.heap.size := by rw [← hW0]; simp
  have hg : W0.heap[w.heap.size]? = some (.cells #[.int .i64 (c : Int), .int .i64 p] 68 (0, 0)) := hW0 ▸ heap_alloc_here w _
  have HG := Lib.hid (fun wl (hb : Below W0.heap.size W0 wl) => (fun k => (cell_of_heap ((hb.block _ hz).trans hg) k) : ∀ k, wl.cell? ⟨w.heap.size, k, none⟩ = (#[.int .i64 (c : Int), .int .i64 p] : Array Value)[k]?))
  have H := Lib.hid (h W0 hA)
  have HA := Lib.hid hA
  clear h hA hg
  go_enter Tryz.func35, Tryz.ntmps35
  go_wp2_with fail
  go_at_call 73
  refine H.out.mono ?_
  rintro e w' ⟨rfl, hb⟩
  have h0 : w'.cell? ⟨w.heap.size, 0, none⟩ = some (.int .i64 (c : Int)) := HG.out w' hb 0
  have h1 : w'.cell? ⟨w.heap.size, 1, none⟩ = some (.int .i64 p) := HG.out w' hb 1
  have HB := Lib.hid (HA.out.trans (hb.mono HA.out.size))
  clear hb
  cases hc : (c : Int) == 0 with
  | true =>
    go_wp2
    go_ret
    exact ⟨by simp, HB.out⟩
  | false =>
    go_wp2
    go_ret
    exact ⟨by simp, HB.out⟩
end Go.Proofs.YtgoeoekdlcbmpaaGreatDoor
