/-
  The walk of the law TreeBack, at every list of acts.
-/
import Derived.Test.YtmkpeopebddnjaaGreatDoorTreeBack
namespace Go.Proofs.YtmkpeopebddnjaaGreatDoor
open Go Go.RowKit Go.Kf Go.Sort

set_option maxRecDepth 100000 in
theorem treeBack_all (v : Value) (acts : List ActL) (w : World) (S : Nat → Addr) (hr : ReadsK 3 w v (acts.map actRow)) (hm : Ml w) (hE : TErr w S) (ht : Tab w) :
    Calls Tryz.prog 4 #[v] w fun e w' => e = .returned (.bool true) ∧ Below w.heap.size w w' := by
  by_cases hl : acts.length ≤ 80
  · exact treeBack_main v acts w S hr hl hm hE ht
  · obtain ⟨a, cap, rfl, -, -⟩ := id hr
    have hle := hr.le
    simp only [List.length_map] at *
    have K0 := Lib.hid (treed_any w S hm hE ht)
    have hd : ((80 : Int) < (acts.length : Int)) = True := by simp; omega
    clear hm hE ht hr
    go_enter Tryz.func4, Tryz.ntmps4
    go_wp2_with fail
    refine K0.out.mono ?_
    rintro e w1 ⟨rfl, hb1⟩
    go_wp2
    go_ret
    exact ⟨rfl, hb1⟩
end Go.Proofs.YtmkpeopebddnjaaGreatDoor
