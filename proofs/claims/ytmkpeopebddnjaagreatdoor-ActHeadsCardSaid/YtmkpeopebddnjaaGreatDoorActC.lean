/-
  The reference's LinesOf; what the kind join does; the closed fact acted.
-/
import Derived.Test.YtmkpeopebddnjaaGreatDoorActP
namespace Go.Proofs.YtmkpeopebddnjaaGreatDoor
open Go Go.RowKit Go.Kf Go.Sort

set_option maxRecDepth 100000 in
theorem linesOf_any (s : List UInt8) (w : World) (hs : s.length ≤ 1000000) : Calls Tryz.prog 28 #[str s] w fun e w' =>
    ∃ v, e = .returned v ∧ w'.ownsRow w.heap.size 9 1 v (linesB s).length ((linesB s).map str) ∧ Below w.heap.size w w' := by
  have K := cut_any s 10 w hs
  rw [show byteV 10 = .int .u8 10 from rfl] at K
  have hlb := spl_length_le 10 s
  obtain ⟨k, hk, t, ht, he⟩ := linesB_eq s
  rw [he]
  clear he
  generalize spl 10 s = l at *
  have hlk : l[k]'(by omega) = t := by
    rw [List.getElem?_eq_getElem (by omega)] at ht
    exact Option.some.inj ht
  have hw1 : IntKind.i64.wrap ((k : Int) + 1 - 1) = (k : Int) := by rw [show (k : Int) + 1 - 1 = (k : Int) by omega]; exact IntWalk.i64_in _ (by omega)
  have hw2 : IntKind.i64.wrap (k : Int) = (k : Int) := IntWalk.i64_in _ (by omega)
  have K1 := Lib.hid K
  have HLK := Lib.hid hlk
  clear K ht hlk
  by_cases h0 : t = []
  all_goals
    first
    | (have hd : (t == []) = true := by simpa using h0)
    | (have hd : (t == []) = false := by simpa using h0)
    first | rw [if_pos h0] | rw [if_neg h0]
    clear h0
    go_enter Tryz.func28, Tryz.ntmps28
    go_wp2_with fail
    refine K1.out.mono ?_
    rintro e w1 ⟨v1, rfl, ho1, hb1⟩
    obtain ⟨g, cap, rfl⟩ := ownsRow_some ho1 (by omega)
    have hrd := ownsRow_reads ho1
    have hcap : k + 1 ≤ cap ∧ cap ≤ 9223372036854775807 := by
      rcases ho1.2 with ⟨e, -⟩ | ⟨g', cap', cur, e, -, -, h3, h4, -⟩
      · cases e
      · cases e
        exact ⟨by omega, by unfold maxLen at h4; omega⟩
    obtain ⟨b, o, hix, hc⟩ := hrd.at (P := Tryz.prog) Tryz.underlying39 (by kernel_rfl) k (by simp; omega)
    simp only [List.getElem_map, HLK.out] at hc
    have HO := Lib.hid ho1
    have HP := Lib.hid (own_take ho1 k (by omega))
    have HB := Lib.hid hb1
    have hcap1 := hcap.1
    have hcap2 := hcap.2
    rw [hk] at hix HO ⊢
    clear ho1 hb1 hrd hcap
    go_wp2
    go_ret
    refine ⟨_, rfl, ?_, HB.out⟩
    first
    | (have hl : (l.take k).length = k := by rw [List.length_take]; omega
       rw [hl, List.map_take]
       exact HP.out)
    | (rw [hk]; exact HO.out)

/-- What the kind join answers. -/
theorem joinW_any (word : List UInt8) (b o n c : Nat) (ins : List (List UInt8)) (w : World) (hn : ins.length = n) (hce : ∀ (j : Nat) s, ins[j]? = some s → w.cell? ⟨b, o + j, none⟩ = some (str s)) (hb : b < w.heap.size) (hc : n ≤ c) (hl : (Lib.join ins word).length ≤ 1000000) (hn2 : n ≤ 1000) :
    Calls Tryz.prog 71 #[.slice (some ⟨b, o, none⟩) n c, str word] w fun e w' => e = .returned (str (Lib.join ins word)) ∧ Below w.heap.size w w' := by
  have hm : (ins.map fun s => (⟨s.toArray⟩ : ByteArray)).map (·.data.toList) = ins := by
    rw [List.map_map]
    conv => rhs; rw [← List.map_id ins]
    exact List.map_congr_left (fun s _ => rfl)
  have K := Tryz.strings_Join b o c (ins.map fun s => (⟨s.toArray⟩ : ByteArray)) ⟨word.toArray⟩ w (fun j x hx => by
    rw [List.getElem?_map] at hx
    obtain ⟨s, hs, rfl⟩ := Option.map_eq_some_iff.1 hx
    exact hce j s hs) hb (by rw [List.length_map]; omega) (by rw [List.length_map]; omega) (by rw [hm]; exact Nat.le_trans hl (by decide))
  rw [List.length_map, hn, hm] at K
  exact K
set_option maxRecDepth 100000 in
theorem kjoin_any (word : List UInt8) (b o n c : Nat) (ins : List (List UInt8)) (w : World) (hn : ins.length = n) (hce : ∀ (j : Nat) s, ins[j]? = some s → w.cell? ⟨b, o + j, none⟩ = some (str s)) (hb : b < w.heap.size) (hc : n ≤ c) (hl : (Lib.join ins word).length ≤ 1000000) (hn2 : n ≤ 1000) :
    Calls Tryz.prog 70 #[str word, .slice (some ⟨b, o, none⟩) n c] w fun e w' => e = .returned (str (Lib.join ins word)) ∧ Below w.heap.size w w' := by
  have K := Lib.hid (joinW_any word b o n c ins w hn hce hb hc hl hn2)
  clear hce hl
  go_enter Tryz.func70, Tryz.ntmps70
  go_wp2_with fail
  refine K.out.mono ?_
  rintro e w1 ⟨rfl, hb1⟩
  go_wp2
  go_ret
  exact ⟨rfl, hb1⟩

set_option maxRecDepth 100000 in
theorem acted_any (w : World) : Calls Tryz.prog 26 #[] w fun e w' => e = .returned (.bool true) ∧ Below w.heap.size w w' := by
  have hA : Below w.heap.size w (w.alloc (.cells #[str [97], str [98]] 9)) := (Below.refl _ w).alloc (Nat.le_refl _) _
  have hce : ∀ (j : Nat) s, ([[97], [98]] : List (List UInt8))[j]? = some s → (w.alloc (.cells #[str [97], str [98]] 9)).cell? ⟨w.heap.size, 0 + j, none⟩ = some (str s) := fun j s hj => by
    rw [cell_of_heap (heap_alloc_here w _)]
    match j, hj with
    | 0, hj => obtain rfl := Option.some.inj hj; rfl
    | 1, hj => obtain rfl := Option.some.inj hj; rfl
    | n + 2, hj => simp at hj
  have hrd : Reads (w.alloc (.cells #[str [97], str [98]] 9)) (.slice (some ⟨w.heap.size, 0, none⟩) 2 2) ([[97], [98]].map str) := ⟨_, _, rfl, by decide, fun i u hi => ⟨_, _, rfl, by
    rw [List.getElem?_map] at hi
    obtain ⟨s, hs, rfl⟩ := Option.map_eq_some_iff.1 hi
    exact hce i s hs⟩⟩
  have K := Lib.hid (run_ok [106, 111, 105, 110] [43] [97, 43, 98] (.slice (some ⟨w.heap.size, 0, none⟩) 2 2) [[97], [98]] ⟨1, 8, 68, 70⟩ _ hrd (by kernel_rfl) (by decide) (by decide) (anything_word _ _ _) (by decide) (fun _ _ => rfl) (fun _ _ => rfl)
    (fun w1 hb1 => by
      have := kjoin_any [43] w.heap.size 0 2 2 [[97], [98]] w1 rfl (fun j s hj => (hb1.cell (p := ⟨w.heap.size, 0 + j, none⟩) (by simp)).trans (hce j s hj)) (by have := hb1.size; simp at this; omega) (by decide) (by decide) (by decide)
      exact this) (by decide))
  have HA := Lib.hid hA
  clear hA hce hrd
  go_enter Tryz.func26, Tryz.ntmps26
  go_wp2_with fail
  refine K.out.mono ?_
  rintro e w1 ⟨rfl, hb1⟩
  have HB := Lib.hid (HA.out.trans (hb1.mono HA.out.size))
  clear hb1
  go_wp2
  go_ret
  exact ⟨rfl, HB.out⟩
end Go.Proofs.YtmkpeopebddnjaaGreatDoor
