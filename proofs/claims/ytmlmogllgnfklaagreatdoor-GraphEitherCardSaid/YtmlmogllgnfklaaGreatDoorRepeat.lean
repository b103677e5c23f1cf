/-
  slices.Repeat of one number.
-/
import Derived.Test.YtmlmogllgnfklaaGreatDoorGAid
import Derived.Laws.CopyOwn
namespace Go.Proofs.YtmlmogllgnfklaaGreatDoor
open Go Go.RowKit Go.Kf Go.Sort Go.Proofs

theorem ints_info : (Tryz.prog.info? 3).map (fun i => (i.zero, i.size, i.bytes)) = some (some (.int .i64 0), 1, 8) := by kernel_rfl
theorem make_ints (n : Nat) (hn : n ≤ 1000000) (w : World) :
    (Instr.makeSlice 28 (.int .i64 (n : Int)) (.int .i64 (n : Int))).run Tryz.prog w = .ok (.slice (some ⟨w.heap.size, 0, none⟩) n n) (w.alloc (.cells (List.replicate n (Value.int .i64 0)).toArray 3)) := by
  obtain ⟨i0, hi, hz0, hz1, hz2⟩ := info_parts ints_info
  have h := run_make (P := Tryz.prog) w 28 3 i0 (.int .i64 0) Tryz.underlying28 hi hz0 .i64 .i64 (n : Int) (n : Int) (by omega) (by omega) (by rw [hz2]; omega) (by omega)
  rw [h, hz1]
  have e : ((n : Int)).toNat = n := by omega
  rw [e, Nat.mul_one]
  have e2 : (Value.int .i64 0).cells = #[.int .i64 0] := rfl
  have e3 : madeCells #[Value.int .i64 0] n = (List.replicate n (Value.int .i64 0)).toArray := by
    apply Array.ext
    · simp [size_madeCells]
    · intro i h1 h2
      simp [madeCells, Nat.mod_one]
  rw [e2, e3]
/-- m times minus one, then noughts: n in all. -/
def repR (n m : Nat) : List Value := List.replicate m (Value.int .i64 (-1)) ++ List.replicate (n - m) (Value.int .i64 0)
theorem repR_len {n m : Nat} (h : m ≤ n) : (repR n m).length = n := by simp [repR]; omega
theorem repR_zero (n : Nat) : repR n 0 = List.replicate n (Value.int .i64 0) := by simp [repR]
theorem repR_all (n : Nat) : repR n n = (List.replicate n (-1)).map (Value.int .i64) := by simp [repR]
theorem repR_splice {n m c : Nat} (h : m + c ≤ n) : splice (repR n m) m (List.replicate c (Value.int .i64 (-1))) = repR n (m + c) := by
  unfold splice repR
  rw [List.length_replicate, List.take_append_of_le_length (by simp), List.drop_append, List.take_of_length_le (by simp), List.drop_eq_nil_of_le (by simp), List.nil_append, List.length_replicate, List.drop_replicate, ← List.append_assoc, List.replicate_append_replicate, show n - m - (m + c - m) = n - (m + c) by omega]
theorem repR_at {n m j : Nat} (h : j < m) : (repR n m)[j]? = some (Value.int .i64 (-1)) := by
  unfold repR
  rw [List.getElem?_append_left (by simpa using h), List.getElem?_replicate, if_pos h]

set_option maxRecDepth 100000 in
set_option maxHeartbeats 4000000 in
theorem repeat_any (n : Nat) (v : Value) (w : World) (hr : Reads w v [.int .i64 (-1)]) (hn : n ≤ 1000) :
    Calls Tryz.prog 71 #[v, .int .i64 (n : Int)] w fun e w' => e = .returned (.slice (some ⟨w.heap.size, 0, none⟩) n n) ∧ VRow 3 w' w.heap.size ((List.replicate n (-1)).map (Value.int .i64)) ∧ Below w.heap.size w w' := by
  obtain ⟨a, c, rfl, -, hc0⟩ := id hr
  obtain ⟨b, o, rfl, hc⟩ := hc0 0 _ rfl
  have hmk := make_ints n (by omega) w
  obtain ⟨W1, hW1⟩ : ∃ W, w.alloc (.cells (List.replicate n (Value.int .i64 0)).toArray 3) = W := ⟨_, rfl⟩
  have hA : Below w.heap.size w W1 := hW1 ▸ (Below.refl _ w).alloc (Nat.le_refl _) _
  have hv1 : W1.heap[w.heap.size]? = some (.cells (repR n 0).toArray 3 (0, 0)) := by rw [repR_zero, ← hW1]; exact heap_alloc_here w _
  have hc1 := (hA.cell (p := ⟨b, o, none⟩) (lt_of_cell hc)).trans hc
  rw [hW1] at hmk
  have hmul := Lib.hid (Tryz.bits_Mul 1 n (by decide) (by omega) w)
  have e1 : (1 * n / 18446744073709551616 : Nat) = 0 := by omega
  have e2 : (1 * n % 18446744073709551616 : Nat) = n := by omega
  rw [e1, e2] at hmul
  have d1 : ((n : Int) < 0) = False := eq_false (by omega)
  have d2 : ((9223372036854775807 : Int) < (n : Int)) = False := eq_false (by omega)
  have d3 : IntKind.u64.wrap (n : Int) = (n : Int) := IntWalk.u64_in _ (by omega)
  have d4 : IntKind.i64.wrap (n : Int) = (n : Int) := IntWalk.i64_in _ (by omega)
  have HA := Lib.hid hA
  have HV := Lib.hid hv1
  have HC := Lib.hid hc1
  clear hr hc0 hc hA hv1 hc1
  go_enter Tryz.func71, Tryz.ntmps71
  go_wp2_with fail
  refine hmul.out.mono ?_
  rintro e w1 ⟨rfl, hw1⟩
  have hw2 := hw1.symm
  subst hw2
  clear hw1
  obtain ⟨m0, hm0⟩ : ∃ m, Nat.min 1 n = m := ⟨_, rfl⟩
  have hm1 : m0 ≤ 1 := hm0 ▸ Nat.min_le_left _ _
  have hm2 : m0 ≤ n := hm0 ▸ Nat.min_le_right _ _
  have hm3 : 0 < n → 0 < m0 := fun h => by rw [← hm0]; exact Nat.lt_min.2 ⟨by omega, h⟩
  obtain ⟨cs, hcs⟩ : ∃ l, List.replicate m0 (Value.int .i64 (-1)) = l := ⟨_, rfl⟩
  have hcl : cs.length = m0 := by rw [← hcs]; simp
  have hca : ∀ j u, cs[j]? = some u → j = 0 ∧ u = .int .i64 (-1) := fun j u hj => by
    rw [← hcs, List.getElem?_replicate] at hj
    split at hj
    · exact ⟨by omega, (Option.some.inj hj).symm⟩
    · cases hj
  have HCA := Lib.hid hca
  have HCS : Hid (splice (repR n 0) 0 cs = repR n m0) := Lib.hid (by rw [← hcs, repR_splice (by omega), Nat.zero_add])
  have HM3 := Lib.hid hm3
  clear hcs hca hm3
  go_wp2_with (first
    | (refine wpList_copy_splice rfl _ _ 28 28 rfl 3 Tryz.underlying28 (by kernel_rfl) _ _ _ _ _ _ rfl rfl w.heap.size 0 (repR n 0) 3 HV.out cs (hcl.trans hm0.symm) ?_ ?_ ?_ w.heap.size w HA.out (Nat.le_refl _) ?_
       · refine fun _ => ⟨rfl, _, rfl, fun j u hj => ?_⟩
         obtain ⟨rfl, rfl⟩ := HCA.out j u hj
         exact HC.out
       · rw [repR_len (Nat.zero_le _)]; omega
       · intro u hu
         obtain ⟨j, hj⟩ := List.mem_iff_getElem?.1 hu
         rw [(HCA.out j u hj).2]
         rfl
       intro w2 hv2 hb2
       rw [HCS.out] at hv2
       have HB2 := Lib.hid hb2
       clear hb2))
  go_wp2_with fail
  go_loopw [8] (fun kv wl => ∃ m : Nat, m ≤ n ∧ kv = .int .i64 m ∧ (0 < n → 0 < m) ∧ VRow 3 wl w.heap.size (repR n m) ∧ Below w.heap.size w wl) (fun kv _ => n - (intOf kv).toNat)
  case atStart => exact ⟨m0, hm2, by first | rfl | go_num, HM3.out, hv2.out, HB2.out⟩
  case round =>
    obtain ⟨m, hm, rfl, hpos, hrow, hbl⟩ := hrel
    have HR := Lib.hid hrow
    have HBL := Lib.hid hbl
    by_cases hlt : m < n
    · have hlc : ((m : Int) < (n : Int)) = True := eq_true (by omega)
      have hmp : 0 < m := hpos (by omega)
      obtain ⟨k, hk⟩ : ∃ k, Nat.min m (n - m) = k := ⟨_, rfl⟩
      have hk1 : 0 < k := by rw [← hk]; exact Nat.lt_min.2 ⟨hmp, by omega⟩
      have hk2 : k ≤ n - m := hk ▸ Nat.min_le_right _ _
      have hk3 : k ≤ m := hk ▸ Nat.min_le_left _ _
      obtain ⟨cs, hcs⟩ : ∃ l, List.replicate k (Value.int .i64 (-1)) = l := ⟨_, rfl⟩
      have hcl : cs.length = k := by rw [← hcs]; simp
      have hca : ∀ j u, cs[j]? = some u → j < m ∧ u = .int .i64 (-1) := fun j u hj => by
        rw [← hcs, List.getElem?_replicate] at hj
        split at hj
        · exact ⟨by omega, (Option.some.inj hj).symm⟩
        · cases hj
      have HCA := Lib.hid hca
      have HCS : Hid (splice (repR n m) m cs = repR n (m + k)) := Lib.hid (by rw [← hcs, repR_splice (by omega)])
      have e1 : ((m : Int) ≤ (n : Int)) = True := eq_true (by omega)
      have e2 : ¬ n < m := by omega
      have e3 : (n = m) = False := eq_false (by omega)
      have hgd : wr.drew.heap[w.heap.size]? = some (.cells (repR n m).toArray 3 (0, 0)) := hrow
      have hcopy := run_copy_row (P := Tryz.prog) wr.drew 28 28 3 3 w.heap.size m (n - m) (n - m) ⟨w.heap.size, 0, none⟩ m n (repR n m).toArray 3 cs Tryz.underlying28 (by kernel_rfl) hgd (hcl.trans hk.symm)
        (fun j u hj => by
          obtain ⟨h1, rfl⟩ := HCA.out j u hj
          rw [Addr.add_lit, cell_of_heap hgd, Nat.zero_add]
          simpa using repR_at h1)
        (by simp [repR_len hm, hcl]; omega)
        (fun u hu => by
          obtain ⟨j, hj⟩ := List.mem_iff_getElem?.1 hu
          rw [(HCA.out j u hj).2]
          rfl)
      have hg5 := setRow_heap wr.drew w.heap.size (repR n m).toArray ((repR n m).toArray.toList.take m ++ cs ++ (repR n m).toArray.toList.drop (m + cs.length)).toArray 3 _ hgd
      obtain ⟨W5, hW5⟩ : ∃ W, wr.drew.setRow w.heap.size ((repR n m).toArray.toList.take m ++ cs ++ (repR n m).toArray.toList.drop (m + cs.length)).toArray = W := ⟨_, rfl⟩
      rw [hW5] at hcopy hg5
      rw [hcl] at hcopy
      have hv5 : VRow 3 W5 w.heap.size (repR n (m + k)) := by
        rw [← HCS.out]
        unfold splice
        rw [← List.append_assoc]
        exact hg5
      have HV5 := Lib.hid hv5
      have HB5 : Hid (Below w.heap.size w W5) := Lib.hid (hW5 ▸ below_setRow (HBL.out.drew) (Nat.le_refl _) _)
      clear hrow hbl hpos hcs hca hgd hg5 hW5 hv5
      go_wp2_with fail
      go_region
      all_goals
        go_wp2
        go_roundw
        case rel => exact ⟨m + k, by omega, by first | rfl | go_num, fun _ => by omega, HV5.out, HB5.out⟩
        case measure => simp [intOf]; omega
    · obtain rfl : m = n := by omega
      have hlc : ((m : Int) < (m : Int)) = False := eq_false (by omega)
      have hrow2 := hrow
      rw [repR_all] at hrow2
      have HR2 := Lib.hid hrow2
      clear hrow hbl hrow2
      go_wp2
      go_ret
      exact ⟨rfl, HR2.out, HBL.out⟩
end Go.Proofs.YtmlmogllgnfklaaGreatDoor
