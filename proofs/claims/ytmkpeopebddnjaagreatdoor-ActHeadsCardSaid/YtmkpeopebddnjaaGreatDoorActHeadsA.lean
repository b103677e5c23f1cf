/-
  The kinds head and lines on a built slice; what the law ActHeads compares.
-/
import Derived.Test.YtmkpeopebddnjaaGreatDoorActSortsA
import Derived.Test.YtmkpeopebddnjaaGreatDoorActE
namespace Go.Proofs.YtmkpeopebddnjaaGreatDoor
open Go Go.RowKit Go.Kf Go.Sort Go.Proofs

set_option maxRecDepth 100000 in
theorem digits_ok (ds : List UInt8) (n : Nat) (hn : IsN3 ds n) (w : World) (ht : Tab w) :
    Calls Tryz.prog 80 #[str ds] w fun e w' => e = .returned (.bool true) ∧ Below w.heap.size w w' := by
  have h3 := num3_len hn
  have K1 := Lib.hid (atoi_n3 ds n hn w)
  have h9 := hn.1
  have K2 : Hid (∀ w1, Tab w1 → Calls Tryz.prog 46 #[.int .i64 (n : Int)] w1 fun e w' => e = .returned (str ds) ∧ Below w1.heap.size w1 w') := Lib.hid (fun w1 t1 => by
    refine (Tryz.strconv_Itoa (n : Int) (by omega) (by omega) w1 t1).mono ?_
    rintro e w' ⟨rfl, kk, os, hw2⟩
    refine ⟨?_, by rw [hw2]; exact Lib.below_grow _ w1 (Nat.le_refl _) kk os⟩
    have : Lib.itoa (n : Int) = Lib.decDigits n := by unfold Lib.itoa; rw [if_neg (by omega)]; rfl
    rw [this, hn.2])
  have HT := Lib.hid ht
  have hz1 : (0 : Int) ≤ (n : Int) := by omega
  have hz3 : ((ds.length : Int) ≤ 3) = True := eq_true (by omega)
  clear hn ht
  go_enter Tryz.func80, Tryz.ntmps80
  go_wp2_with fail
  refine K1.out.mono ?_
  rintro e w1 ⟨rfl, hb1⟩
  have HB1 := Lib.hid hb1
  clear hb1
  go_wp2_with fail
  refine (K2.out w1 (tab_below HT.out HB1.out (Nat.le_refl _))).mono ?_
  rintro e w2 ⟨rfl, hb2⟩
  have HB2 := Lib.hid hb2
  clear hb2
  go_wp2
  go_ret
  exact ⟨rfl, HB1.out.trans (HB2.out.mono HB1.out.size)⟩

theorem headB_len (n : Nat) (s : List UInt8) : (headB n s).length ≤ s.length + 1 := Nat.le_trans (endedL_take _ _) (ended_lines s)
theorem lines_head (n : Nat) (s : List UInt8) : linesB (headB n s) = (linesB s).take n := lines_ended (fun _ h => lines_no (List.mem_of_mem_take h))
theorem head_head (a b : Nat) (s : List UInt8) : headB b (headB a s) = headB (min a b) s := by
  have e : headB b (headB a s) = endedL ((linesB (headB a s)).take b) := rfl
  rw [e, lines_head, List.take_take, Nat.min_comm]
  rfl
theorem linesWith_nil (s : List UInt8) : linesWith [] s = linesB s := by
  unfold linesWith
  refine List.filter_eq_self.2 (fun x _ => ?_)
  exact (contains_iff x []).2 ⟨0, Nat.zero_le _, rfl⟩
theorem ended_both (s : List UInt8) : s.length ≤ (endedL (linesB s)).length ∧ (endedL (linesB s)).length ≤ s.length + 1 := by
  refine ⟨?_, ended_lines s⟩
  have h := ended_spl s
  unfold linesB
  split
  · rename_i hl
    have e := List.dropLast_concat_getLast (spl_ne 10 s)
    rw [hl] at e
    rw [← e, endedL_app] at h
    have := congrArg List.length h
    rw [List.length_append, List.length_append] at this
    have e1 : (endedL [([] : List UInt8)]).length = 1 := rfl
    rw [e1, List.length_cons, List.length_nil] at this
    omega
  · have := congrArg List.length h
    rw [List.length_append] at this
    omega
theorem head_prefix (n : Nat) (s : List UInt8) : ∃ r, endedL (linesB s) = headB n s ++ r := by
  refine ⟨endedL ((linesB s).drop n), ?_⟩
  have : endedL (linesB s) = endedL ((linesB s).take n ++ (linesB s).drop n) := by rw [List.take_append_drop]
  rw [this, endedL_app]
  rfl

set_option maxRecDepth 100000 in
/-- The kind head, on a built slice. -/
theorem run_head (n : Nat) (s : List UInt8) (hn : n ≤ 999) (hs : s.length ≤ 1990) (w : World) (hm : Ml w) (ht : Tab w) :
    Calls Tryz.prog 27 #[str [104, 101, 97, 100], str (Lib.decDigits n), .slice (some ⟨w.heap.size, 0, none⟩) 1 1] (w.alloc (.cells #[str s] 9)) fun e w' => e = .returned (.tuple #[str (headB n s), .nilIface]) ∧ Below w.heap.size w w' := by
  have hA : Below w.heap.size w (w.alloc (.cells #[str s] 9)) := (Below.refl _ w).alloc (Nat.le_refl _) _
  have hrd : Reads (w.alloc (.cells #[str s] 9)) (.slice (some ⟨w.heap.size, 0, none⟩) 1 1) ([s].map str) := reads_built [s] w 1 rfl (by decide)
  have hmA := hm.below hA (Nat.le_refl _)
  have htA := tab_below ht hA (Nat.le_refl _)
  have hn3 : IsN3 (Lib.decDigits n) n := ⟨hn, rfl⟩
  have h3 := num3_len hn3
  have hh := headB_len n s
  refine (run_ok [104, 101, 97, 100] (Lib.decDigits n) (headB n s) _ [s] ⟨1, 1, 80, 81⟩ _ hrd (by kernel_rfl) (by simp) (by simp) (fun w1 hb1 => digits_ok _ n hn3 w1 (tab_below htA hb1 (Nat.le_refl _))) (by omega) (fun _ _ => rfl) (fun _ _ => rfl)
    (fun w1 hb1 => head_any _ s n _ w1 (hrd.below0 hb1) (hmA.below hb1 (Nat.le_refl _)) hn3 (by omega)) (by omega)).mono ?_
  rintro e w' ⟨rfl, hb⟩
  exact ⟨rfl, hA.trans (hb.mono hA.size)⟩
set_option maxRecDepth 100000 in
/-- The kind lines with no word, on a built slice. -/
theorem run_lines (s : List UInt8) (hs : s.length ≤ 1990) (w : World) (hm : Ml w) :
    Calls Tryz.prog 27 #[str [108, 105, 110, 101, 115], str [], .slice (some ⟨w.heap.size, 0, none⟩) 1 1] (w.alloc (.cells #[str s] 9)) fun e w' => e = .returned (.tuple #[str (endedL (linesB s)), .nilIface]) ∧ Below w.heap.size w w' := by
  have hA : Below w.heap.size w (w.alloc (.cells #[str s] 9)) := (Below.refl _ w).alloc (Nat.le_refl _) _
  have hrd : Reads (w.alloc (.cells #[str s] 9)) (.slice (some ⟨w.heap.size, 0, none⟩) 1 1) ([s].map str) := reads_built [s] w 1 rfl (by decide)
  have hmA := hm.below hA (Nat.le_refl _)
  have hh := ended_lines s
  rw [← linesWith_nil] at hh ⊢
  refine (run_ok [108, 105, 110, 101, 115] [] (endedL (linesWith [] s)) _ [s] ⟨1, 1, 68, 74⟩ _ hrd (by kernel_rfl) (by simp) (by simp) (anything_word _ _ _) (by decide) (fun _ _ => rfl) (fun _ _ => rfl)
    (fun w1 hb1 => klines_any [] s _ w1 (hrd.below0 hb1) (hmA.below hb1 (Nat.le_refl _)) (by omega)) (by omega)).mono ?_
  rintro e w' ⟨rfl, hb⟩
  exact ⟨rfl, hA.trans (hb.mono hA.size)⟩
end Go.Proofs.YtmkpeopebddnjaaGreatDoor
