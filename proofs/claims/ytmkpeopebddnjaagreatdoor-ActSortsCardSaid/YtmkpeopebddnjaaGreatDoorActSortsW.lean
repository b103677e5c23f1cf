/-
  The walk of the law ActSorts, at any texts.
-/
import Derived.Test.YtmkpeopebddnjaaGreatDoorActSorts
namespace Go.Proofs.YtmkpeopebddnjaaGreatDoor
open Go Go.RowKit Go.Kf Go.Sort

theorem mlShape {W : World} (h : World.ShapedOpen Tryz.prog W) : Ml W := Tryz.laysM146.s1_3 W h

set_option maxRecDepth 100000 in
theorem actSorts_all (a b c : List UInt8) (w : World) (hm : Ml w) (ht : Tab w) :
    Calls Tryz.prog 5 #[str a, str b, str c] w fun e w' => e = .returned (.bool true) ∧ Below w.heap.size w w' := by
  by_cases ha : a.length ≤ 500
  · by_cases hb : b.length ≤ 500
    · by_cases hc : c.length ≤ 500
      · exact actSorts_main a b c w hm ht ha hb hc
      · have da : ((500 : Int) < (a.length : Int)) = False := eq_false (by omega)
        have db : ((500 : Int) < (b.length : Int)) = False := eq_false (by omega)
        have dc : ((500 : Int) < (c.length : Int)) = True := eq_true (by omega)
        have K0 := Lib.hid (acted_any w)
        clear hm ht
        go_enter Tryz.func5, Tryz.ntmps5
        go_wp2_with fail
        refine K0.out.mono ?_
        rintro e w1 ⟨rfl, hb1⟩
        go_wp2
        go_ret
        exact ⟨rfl, hb1⟩
    · have da : ((500 : Int) < (a.length : Int)) = False := eq_false (by omega)
      have db : ((500 : Int) < (b.length : Int)) = True := eq_true (by omega)
      have K0 := Lib.hid (acted_any w)
      clear hm ht
      go_enter Tryz.func5, Tryz.ntmps5
      go_wp2_with fail
      refine K0.out.mono ?_
      rintro e w1 ⟨rfl, hb1⟩
      go_wp2
      go_ret
      exact ⟨rfl, hb1⟩
  · have da : ((500 : Int) < (a.length : Int)) = True := eq_true (by omega)
    have K0 := Lib.hid (acted_any w)
    clear hm ht
    go_enter Tryz.func5, Tryz.ntmps5
    go_wp2_with fail
    refine K0.out.mono ?_
    rintro e w1 ⟨rfl, hb1⟩
    go_wp2
    go_ret
    exact ⟨rfl, hb1⟩
end Go.Proofs.YtmkpeopebddnjaaGreatDoor
