/-
  The reference's tree (kilnfieldref1.Tree): Find, Paths. The program's tree: Paths, Text. The reference's tree: Text, Remove, Put. The reference's tree: Remove, Put.
-/
import Derived.Test.YtgjialbmlhbngaaGreatDoorPkL
import Derived.Test.YtgjialbmlhbngaaGreatDoorPkD
import Derived.Test.YtgjialbmlhbngaaGreatDoorPkC
import Derived.Test.YtgjialbmlhbngaaGreatDoorPkH0
import Derived.BigQuiet
import Derived.Deep.RegionHeld3
import Derived.Laws.AppendOwnNone

set_option maxRecDepth 100000
namespace Go.Proofs.YtgjialbmlhbngaaGreatDoor
open Go Go.RowKit Go.Kf
open Go.Sort
def sortK (m : List Ent) : List (List UInt8) := (m.map Prod.fst).mergeSort leB
theorem sortK_perm (m : List Ent) : (sortK m).Perm (m.map Prod.fst) := List.mergeSort_perm _ _
theorem sortK_len (m : List Ent) : (sortK m).length = m.length := by rw [(sortK_perm m).length_eq, List.length_map]
theorem paths_tree (tb mb : Nat) (m : List Ent) (w : World) (h : TAt w tb mb m) (hd : (m.map Prod.fst).Nodup) (hn : m.length ≤ 1000) (hk : ∀ x ∈ m, x.1.length ≤ 1000000) :
    Calls Tryz.prog 22 #[.pointer (some ⟨tb, 0, none⟩)] w fun e w' => ∃ v, e = .returned v ∧ w'.ownsRow w.heap.size 9 1 v m.length ((sortK m).map str) ∧ Below w.heap.size w w' := by
  obtain ⟨D, hown, hperm, hsz⟩ := ownsMap_of_mapIs (P := Tryz.prog) Tryz.underlying9 h.map (by unfold maxLen; omega) (fun p hp => by have := hk p hp; unfold maxLen; omega) hd
  have c0 := h.cell
  have K1 := Hd (callsIn_wide.1 (Tryz.maps_Keys_78 (some mb) w))
  have K2 := Hd (callsIn_wide.1 (Tryz.slices_Sorted_keys_77_78 mb m.length D _ w hown (by rw [hsz]; unfold maxLen; omega) (by rw [hsz]; omega)))
  have HP := Hd hperm
  clear h hd hn hk hown hperm hsz
  go_enter Tryz.func22, Tryz.ntmps22
  go_wp2_with fail
  refine K1.out.mono ?_
  rintro e w1 ⟨rfl, hw1⟩
  rw [hw1]
  go_wp2_with fail
  refine K2.out.mono ?_
  rintro e w2 ⟨v, ss, rfl, hS, hrow, -, hb⟩
  have hss : ss.mergeSort leB = sortK m := mergeSort_of_perm (hS.trans HP.out)
  have hlen : ss.length = m.length := by rw [(hS.trans HP.out).length_eq, List.length_map]
  have hrow2 : w2.ownsRow w.heap.size 9 1 v m.length ((sortK m).map str) := by
    rw [← hlen, ← hss]
    exact ownsRow_base hrow (by simp)
  have hb2 : Below w.heap.size w w2 := ((Below.refl _ w).alloc (Nat.le_refl _) _).trans (hb.mono (by simp))
  clear hrow hb hS hss
  go_wp2
  go_ret
  exact ⟨v, rfl, hrow2, hb2⟩
end Go.Proofs.YtgjialbmlhbngaaGreatDoor

namespace Go.Kf
open Go Go.RowKit
end Go.Kf
namespace Go.Proofs.YtgjialbmlhbngaaGreatDoor
open Go Go.RowKit Go.Kf
end Go.Proofs.YtgjialbmlhbngaaGreatDoor
