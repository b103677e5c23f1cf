/-
  slices.Repeat of one number.
-/
import Derived.Test.YtmlmogllgnfklaaGreatDoorGAid
import Derived.Laws.CopyOwn
import Derived.Test.YtmlmogllgnfklaaGreatDoorGraphP
import Derived.Test.YtmlmogllgnfklaaGreatDoorCycP
import Derived.Laws.OwnMore
namespace Go.Proofs.YtmlmogllgnfklaaGreatDoor
open Go Go.RowKit Go.Kf Go.Sort Go.Proofs

theorem ints_info : (Tryz.prog.info? 3).map (fun i => (i.zero, i.size, i.bytes)) = some (some (.int .i64 0), 1, 8) := by kernel_rfl
theorem make_ints (n : Nat) (hn : n ≤ 1000000) (w : World) :
    (Instr.makeSlice 28 (.int .i64 (n : Int)) (.int .i64 (n : Int))).run Tryz.prog w = .ok (.slice (some ⟨w.heap.size, 0, none⟩) n n) (w.alloc (.cells (List.replicate n (Value.int .i64 0)).toArray 3)) := by
  obtain ⟨i0, hi, hz0, hz1, hz2⟩ := info_parts ints_info
  have h := run_make (P := Tryz.prog) w 28 3 i0 (.int .i64 0) Tryz.underlying28 hi hz0 .i64 .i64 (n : Int) (n : Int) (by omega) (by omega) (by rw [hz2]; omega) (by omega)
  rw [h, hz1]
  have e : ((n : Int)).toNat = n := by omega
  rw [e, Nat.mul_one]
  have e2 : (Value.int .i64 0).cells = #[.int .i64 0] := rfl
  have e3 : madeCells #[Value.int .i64 0] n = (List.replicate n (Value.int .i64 0)).toArray := by
    apply Array.ext
    · simp [size_madeCells]
    · intro i h1 h2
      simp [madeCells, Nat.mod_one]
  rw [e2, e3]
/-- m times minus one, then noughts: n in all. -/
def repR (n m : Nat) : List Value := List.replicate m (Value.int .i64 (-1)) ++ List.replicate (n - m) (Value.int .i64 0)
theorem repR_len {n m : Nat} (h : m ≤ n) : (repR n m).length = n := by simp [repR]; omega
theorem repR_zero (n : Nat) : repR n 0 = List.replicate n (Value.int .i64 0) := by simp [repR]
theorem repR_all (n : Nat) : repR n n = (List.replicate n (-1)).map (Value.int .i64) := by simp [repR]
theorem repR_splice {n m c : Nat} (h : m + c ≤ n) : splice (repR n m) m (List.replicate c (Value.int .i64 (-1))) = repR n (m + c) := by
  unfold splice repR
  rw [List.length_replicate, List.take_append_of_le_length (by simp), List.drop_append, List.take_of_length_le (by simp), List.drop_eq_nil_of_le (by simp), List.nil_append, List.length_replicate, List.drop_replicate, ← List.append_assoc, List.replicate_append_replicate, show n - m - (m + c - m) = n - (m + c) by omega]
theorem repR_at {n m j : Nat} (h : j < m) : (repR n m)[j]? = some (Value.int .i64 (-1)) := by
  unfold repR
  rw [List.getElem?_append_left (by simpa using h), List.getElem?_replicate, if_pos h]

set_option maxRecDepth 100000 in
set_option maxHeartbeats 4000000 in
theorem repeat_any (n : Nat) (v : Value) (w : World) (hr : Reads w v [.int .i64 (-1)]) (hn : n ≤ 1000) :
    Calls Tryz.prog 71 #[v, .int .i64 (n : Int)] w fun e w' => e = .returned (.slice (some ⟨w.heap.size, 0, none⟩) n n) ∧ VRow 3 w' w.heap.size ((List.replicate n (-1)).map (Value.int .i64)) ∧ Below w.heap.size w w' := by
  obtain ⟨a, c, rfl, -, hc0⟩ := id hr
  obtain ⟨b, o, rfl, hc⟩ := hc0 0 _ rfl
  have hmk := make_ints n (by omega) w
  obtain ⟨W1, hW1⟩ : ∃ W, w.alloc (.cells (List.replicate n (Value.int .i64 0)).toArray 3) = W := ⟨_, rfl⟩
  have hA : Below w.heap.size w W1 := hW1 ▸ (Below.refl _ w).alloc (Nat.le_refl _) _
  have hv1 : W1.heap[w.heap.size]? = some (.cells (repR n 0).toArray 3 (0, 0)) := by rw [repR_zero, ← hW1]; exact heap_alloc_here w _
  have hc1 := (hA.cell (p := ⟨b, o, none⟩) (lt_of_cell hc)).trans hc
  rw [hW1] at hmk
  have hmul := Lib.hid (Tryz.bits_Mul 1 n (by decide) (by omega) w)
  have e1 : (1 * n / 18446744073709551616 : Nat) = 0 := by omega
  have e2 : (1 * n % 18446744073709551616 : Nat) = n := by omega
  rw [e1, e2] at hmul
  have d1 : ((n : Int) < 0) = False := eq_false (by omega)
  have d2 : ((9223372036854775807 : Int) < (n : Int)) = False := eq_false (by omega)
  have d3 : IntKind.u64.wrap (n : Int) = (n : Int) := IntWalk.u64_in _ (by omega)
  have d4 : IntKind.i64.wrap (n : Int) = (n : Int) := IntWalk.i64_in _ (by omega)
  have HA := Lib.hid hA
  have HV := Lib.hid hv1
  have HC := Lib.hid hc1
  clear hr hc0 hc hA hv1 hc1
  go_enter Tryz.func71, Tryz.ntmps71
  go_wp2_with fail
  refine hmul.out.mono ?_
  rintro e w1 ⟨rfl, hw1⟩
  have hw2 := hw1.symm
  subst hw2
  clear hw1
  obtain ⟨m0, hm0⟩ : ∃ m, Nat.min 1 n = m := ⟨_, rfl⟩
  have hm1 : m0 ≤ 1 := hm0 ▸ Nat.min_le_left _ _
  have hm2 : m0 ≤ n := hm0 ▸ Nat.min_le_right _ _
  have hm3 : 0 < n → 0 < m0 := fun h => by rw [← hm0]; exact Nat.lt_min.2 ⟨by omega, h⟩
  obtain ⟨cs, hcs⟩ : ∃ l, List.replicate m0 (Value.int .i64 (-1)) = l := ⟨_, rfl⟩
  have hcl : cs.length = m0 := by rw [← hcs]; simp
  have hca : ∀ j u, cs[j]? = some u → j = 0 ∧ u = .int .i64 (-1) := fun j u hj => by
    rw [← hcs, List.getElem?_replicate] at hj
    split at hj
    · exact ⟨by omega, (Option.some.inj hj).symm⟩
    · cases hj
  have HCA := Lib.hid hca
  have HCS : Hid (splice (repR n 0) 0 cs = repR n m0) := Lib.hid (by rw [← hcs, repR_splice (by omega), Nat.zero_add])
  have HM3 := Lib.hid hm3
  clear hcs hca hm3
  go_wp2_with (first
    | (refine wpList_copy_splice rfl _ _ 28 28 rfl 3 Tryz.underlying28 (by kernel_rfl) _ _ _ _ _ _ rfl rfl w.heap.size 0 (repR n 0) 3 HV.out cs (hcl.trans hm0.symm) ?_ ?_ ?_ w.heap.size w HA.out (Nat.le_refl _) ?_
       · refine fun _ => ⟨rfl, _, rfl, fun j u hj => ?_⟩
         obtain ⟨rfl, rfl⟩ := HCA.out j u hj
         exact HC.out
       · rw [repR_len (Nat.zero_le _)]; omega
       · intro u hu
         obtain ⟨j, hj⟩ := List.mem_iff_getElem?.1 hu
         rw [(HCA.out j u hj).2]
         rfl
       intro w2 hv2 hb2
       rw [HCS.out] at hv2
       have HB2 := Lib.hid hb2
       clear hb2))
  go_wp2_with fail
  go_loopw [8] (fun kv wl => ∃ m : Nat, m ≤ n ∧ kv = .int .i64 m ∧ (0 < n → 0 < m) ∧ VRow 3 wl w.heap.size (repR n m) ∧ Below w.heap.size w wl) (fun kv _ => n - (intOf kv).toNat)
  case atStart => exact ⟨m0, hm2, by first | rfl | go_num, HM3.out, hv2.out, HB2.out⟩
  case round =>
    obtain ⟨m, hm, rfl, hpos, hrow, hbl⟩ := hrel
    have HR := Lib.hid hrow
    have HBL := Lib.hid hbl
    by_cases hlt : m < n
    · have hlc : ((m : Int) < (n : Int)) = True := eq_true (by omega)
      have hmp : 0 < m := hpos (by omega)
      obtain ⟨k, hk⟩ : ∃ k, Nat.min m (n - m) = k := ⟨_, rfl⟩
      have hk1 : 0 < k := by rw [← hk]; exact Nat.lt_min.2 ⟨hmp, by omega⟩
      have hk2 : k ≤ n - m := hk ▸ Nat.min_le_right _ _
      have hk3 : k ≤ m := hk ▸ Nat.min_le_left _ _
      obtain ⟨cs, hcs⟩ : ∃ l, List.replicate k (Value.int .i64 (-1)) = l := ⟨_, rfl⟩
      have hcl : cs.length = k := by rw [← hcs]; simp
      have hca : ∀ j u, cs[j]? = some u → j < m ∧ u = .int .i64 (-1) := fun j u hj => by
        rw [← hcs, List.getElem?_replicate] at hj
        split at hj
        · exact ⟨by omega, (Option.some.inj hj).symm⟩
        · cases hj
      have HCA := Lib.hid hca
      have HCS : Hid (splice (repR n m) m cs = repR n (m + k)) := Lib.hid (by rw [← hcs, repR_splice (by omega)])
      have e1 : ((m : Int) ≤ (n : Int)) = True := eq_true (by omega)
      have e2 : ¬ n < m := by omega
      have e3 : (n = m) = False := eq_false (by omega)
      have hgd : wr.drew.heap[w.heap.size]? = some (.cells (repR n m).toArray 3 (0, 0)) := hrow
      have hcopy := run_copy_row (P := Tryz.prog) wr.drew 28 28 3 3 w.heap.size m (n - m) (n - m) ⟨w.heap.size, 0, none⟩ m n (repR n m).toArray 3 cs Tryz.underlying28 (by kernel_rfl) hgd (hcl.trans hk.symm)
        (fun j u hj => by
          obtain ⟨h1, rfl⟩ := HCA.out j u hj
          rw [Addr.add_lit, cell_of_heap hgd, Nat.zero_add]
          simpa using repR_at h1)
        (by simp [repR_len hm, hcl]; omega)
        (fun u hu => by
          obtain ⟨j, hj⟩ := List.mem_iff_getElem?.1 hu
          rw [(HCA.out j u hj).2]
          rfl)
      have hg5 := setRow_heap wr.drew w.heap.size (repR n m).toArray ((repR n m).toArray.toList.take m ++ cs ++ (repR n m).toArray.toList.drop (m + cs.length)).toArray 3 _ hgd
      obtain ⟨W5, hW5⟩ : ∃ W, wr.drew.setRow w.heap.size ((repR n m).toArray.toList.take m ++ cs ++ (repR n m).toArray.toList.drop (m + cs.length)).toArray = W := ⟨_, rfl⟩
      rw [hW5] at hcopy hg5
      rw [hcl] at hcopy
      have hv5 : VRow 3 W5 w.heap.size (repR n (m + k)) := by
        rw [← HCS.out]
        unfold splice
        rw [← List.append_assoc]
        exact hg5
      have HV5 := Lib.hid hv5
      have HB5 : Hid (Below w.heap.size w W5) := Lib.hid (hW5 ▸ below_setRow (HBL.out.drew) (Nat.le_refl _) _)
      clear hrow hbl hpos hcs hca hgd hg5 hW5 hv5
      go_wp2_with fail
      go_region
      all_goals
        go_wp2
        go_roundw
        case rel => exact ⟨m + k, by omega, by first | rfl | go_num, fun _ => by omega, HV5.out, HB5.out⟩
        case measure => simp [intOf]; omega
    · obtain rfl : m = n := by omega
      have hlc : ((m : Int) < (m : Int)) = False := eq_false (by omega)
      have hrow2 := hrow
      rw [repR_all] at hrow2
      have HR2 := Lib.hid hrow2
      clear hrow hbl hrow2
      go_wp2
      go_ret
      exact ⟨rfl, HR2.out, HBL.out⟩
end Go.Proofs.YtmlmogllgnfklaaGreatDoor

/-
  Package graph: far.
-/
namespace Go.Proofs.YtmlmogllgnfklaaGreatDoor
open Go Go.RowKit Go.Kf Go.Sort Go.Proofs

theorem nextF_succ (E : Nat → List Nat) (i : Nat) (f : List Int) (l : List Nat) : nextF E (i + 1) f l = nextF E i f l ++ if (decide (fa f i < 0) && (E i).any fun j => l.contains j) = true then [i] else [] := by
  unfold nextF
  rw [List.range_succ, List.filter_append]
  congr 1
  cases h : (decide (fa f i < 0) && (E i).any fun j => l.contains j) with
  | true => rw [List.filter_cons, h]; rfl
  | false => rw [List.filter_cons, h]; rfl
theorem nextF_len (E : Nat → List Nat) (i : Nat) (f : List Int) (l : List Nat) : (nextF E i f l).length ≤ i := by
  unfold nextF
  exact Nat.le_trans (List.length_filter_le _ _) (by simp)

set_option maxRecDepth 100000 in
/-- far's function value: is it on the level before? -/
theorem far1_any (l : List Nat) (v : Value) (B j : Nat) (w : World) (hB : w.cell? ⟨B, 0, none⟩ = some v) (hr : Reads w v (l.map intE)) :
    Calls Tryz.prog 73 #[intE j, .pointer (some ⟨B, 0, none⟩)] w fun e w' => e = .returned (.bool (l.contains j)) ∧ w' = w := by
  obtain ⟨a, c, hv, -, -⟩ := id hr
  rw [List.length_map] at hv
  subst hv
  have K := Lib.hid (containsInt_any j (.slice a l.length c) l w hr)
  clear hr
  generalize l.contains j = b at *
  go_enter Tryz.func73, Tryz.ntmps73
  go_wp2_with fail
  refine K.out.mono ?_
  rintro e w1 ⟨rfl, rfl⟩
  go_wp2
  go_ret
  trivial

/-- The state of far's great loop. -/
structure FSt (w : World) (wl : World) (E : Nat → List Nat) (n tg s : Nat) (Bx : Nat) (f : List Int) (l : List Nat) : Prop where
  st : FarSt E n tg f s l
  le : s ≤ n + 2
  row : VRow 3 wl (w.heap.size + 1) (f.map (Value.int .i64))
  box : ∃ a c, VRow 28 wl Bx [.slice a l.length c] ∧ Reads wl (.slice a l.length c) (l.map intE)
  ne : w.heap.size + 2 ≤ Bx
  below : Below w.heap.size w wl

set_option maxRecDepth 100000 in
set_option maxHeartbeats 4000000 in
theorem far_any (v : Value) (n tg : Nat) (E : Nat → List Nat) (w : World) (hv : EdgesV w v n E) (hE : ∀ i, ∀ k ∈ E i, k < n) (ht : tg < n) (hn : n ≤ 1000) :
    Calls Tryz.prog 45 #[v, intE tg] w fun e w' => ∃ f, FarAt E n tg f ∧ e = .returned (.slice (some ⟨w.heap.size + 1, 0, none⟩) n n) ∧ VRow 3 w' (w.heap.size + 1) (f.map (Value.int .i64)) ∧ Below w.heap.size w w' := by
  obtain ⟨vs, hrv, hvl, -⟩ := id hv
  obtain ⟨a, c, hv0, hle, -⟩ := id hrv
  subst hv0
  rw [hvl] at *
  have HV := Lib.hid hv
  have HE := Lib.hid hE
  obtain ⟨W1, hW1⟩ : ∃ W, w.alloc (.cells #[.int .i64 (-1)] 3) = W := ⟨_, rfl⟩
  have hA1 : Below w.heap.size w W1 := hW1 ▸ (Below.refl _ w).alloc (Nat.le_refl _) _
  have hz1 : W1.heap.size = w.heap.size + 1 := by rw [← hW1]; simp
  have hr1 : Reads W1 (.slice (some ⟨w.heap.size, 0, none⟩) 1 1) [.int .i64 (-1)] := by
    refine ⟨some ⟨w.heap.size, 0, none⟩, 1, rfl, by simp, fun i u hi => ⟨_, _, rfl, ?_⟩⟩
    rw [← hW1, cell_of_heap (heap_alloc_here w _)]
    match i, hi with
    | 0, hi => cases hi; rfl
    | n + 1, hi => cases hi
  have KR := repeat_any n _ W1 hr1 hn
  rw [hz1] at KR
  have KR1 := Lib.hid KR
  have HA1 := Lib.hid hA1
  clear hv hE hrv hvl hr1 KR hA1
  go_enter Tryz.func45, Tryz.ntmps45
  go_wp2_with fail
  refine KR1.out.mono ?_
  rintro e w2 ⟨rfl, hrow, hb2⟩
  have HROW := Lib.hid hrow
  have HB2 := Lib.hid (HA1.out.trans (hb2.mono (by omega)))
  have hz2 : w.heap.size + 2 ≤ w2.heap.size := by have := hrow.lt; omega
  clear hrow hb2
  obtain ⟨W3, hW3⟩ : ∃ W, w2.alloc (.cells #[intE tg] 3) = W := ⟨_, rfl⟩
  have hz3 : W3.heap.size = w2.heap.size + 1 := by rw [← hW3]; simp
  have hA3 : Below w2.heap.size w2 W3 := hW3 ▸ (Below.refl _ w2).alloc (Nat.le_refl _) _
  have hr3 : Reads W3 (.slice (some ⟨w2.heap.size, 0, none⟩) 1 1) ([tg].map intE) := by
    refine ⟨some ⟨w2.heap.size, 0, none⟩, 1, rfl, by simp, fun i u hi => ⟨_, _, rfl, ?_⟩⟩
    rw [← hW3, cell_of_heap (heap_alloc_here w2 _)]
    match i, hi with
    | 0, hi => cases hi; rfl
    | n + 1, hi => cases hi
  obtain ⟨W4, hW4⟩ : ∃ W, W3.alloc (.cells #[.slice (some ⟨w2.heap.size, 0, none⟩) 1 1] 28) = W := ⟨_, rfl⟩
  have hA4 : Below W3.heap.size W3 W4 := hW4 ▸ (Below.refl _ W3).alloc (Nat.le_refl _) _
  have hq4 : VRow 28 W4 (w2.heap.size + 1) [.slice (some ⟨w2.heap.size, 0, none⟩) 1 1] := by rw [← hz3]; exact hW4 ▸ heap_alloc_here W3 _
  have HS4 : Hid (FSt w W4 E n tg 1 (w2.heap.size + 1) (List.replicate n (-1)) [tg]) := Lib.hid ⟨FarSt.zero E n tg, by omega, (HROW.out.below0 hA3).below0 hA4, ⟨some ⟨w2.heap.size, 0, none⟩, 1, hq4, hr3.below0 hA4⟩, by omega, (HB2.out.trans (hA3.mono HB2.out.size)).trans (hA4.mono (by have := HB2.out.size; omega))⟩
  clear hA3 hr3 hA4 hq4
  go_wp2_with fail
  go_loopw [6, 7] (fun sv bv wl => ∃ (s Bx : Nat) (f : List Int) (l : List Nat), sv = .int .i64 s ∧ bv = .pointer (some ⟨Bx, 0, none⟩) ∧ FSt w wl E n tg s Bx f l) (fun sv _ _ => n + 2 - (intOf sv).toNat)
  case atStart => exact ⟨1, w2.heap.size + 1, _, [tg], rfl, rfl, HS4.out⟩
  case round =>
    obtain ⟨s, Bx, f, l, rfl, rfl, hst⟩ := hrel
    obtain ⟨W5, rfl⟩ : ∃ W, W = wr := ⟨_, rfl⟩
    obtain ⟨al, cl, hbx, hrl⟩ := hst.box
    have HST := Lib.hid hst
    have HRL := Lib.hid hrl
    have HBX := Lib.hid hbx
    have hcb : W5.cell? ⟨Bx, 0, none⟩ = some (.slice al l.length cl) := hbx.cell rfl
    have hfb : W5.frozen? ⟨Bx, 0, none⟩ = false := hbx.frozen 0
    have hzB := hbx.lt
    have hzg := hst.row.lt
    have hfl := hst.st.len
    cases l with
    | nil =>
      have HF : Hid (FarAt E n tg f) := Lib.hid (hst.st.stop hst.le)
      clear hst hbx hrl
      go_wp2
      go_ret
      exact ⟨f, HF.out, rfl, HST.out.row, HST.out.below⟩
    | cons l0 lr =>
      have hsb := hst.st.bound (by simp)
      have hps := hst.st.pos
      have HNE := HST.out.ne
      have hpl : ((0 : Int) < (lr.length : Int) + 1) = True := eq_true (by omega)
      simp only [List.length_cons] at hcb
      generalize hl : l0 :: lr = l at *
      have hll : l.length = lr.length + 1 := by rw [← hl]; simp
      clear hst hbx hrl
      go_wp2_with fail
      go_loopw [8, 25] (fun nv iv wl => ∃ i : Nat, i ≤ n ∧ iv = .int .i64 i ∧ wl.ownsRow W5.heap.size 3 1 nv (nextF E i f l).length ((intsB (nextF E i f l)).map (Value.int .i64)) ∧ Below W5.heap.size W5 wl) (fun _ iv _ => n - (intOf iv).toNat)
      case atStart => exact ⟨0, by omega, rfl, World.ownsRow_nil _ _ _ _, Below.refl _ _⟩
      case round =>
        obtain ⟨i, hi, rfl, hown, hbi⟩ := hrel
        have HOW := Lib.hid hown
        have HBI := Lib.hid hbi
        have hzi := hbi.size
        have hnl := nextF_len E i f l
        by_cases hlt : i < n
        · have hlc : ((i : Int) < (n : Int)) = True := eq_true (by omega)
          have hix := idx_at (P := Tryz.prog) (T := 28) (E := 3) Tryz.underlying28 (by kernel_rfl) (w.heap.size + 1) n n i hlt
          have hci : wr.cell? ⟨w.heap.size + 1, i, none⟩ = some (.int .i64 (fa f i)) := (HST.out.row.below0 hbi).cell (by rw [List.getElem?_map, List.getElem?_eq_getElem (by omega), Option.map_some, fa_at (by omega)])
          have HSN : Hid (nextF E (i + 1) f l = nextF E i f l ++ if (decide (fa f i < 0) && (E i).any fun j => l.contains j) = true then [i] else []) := Lib.hid (nextF_succ E i f l)
          by_cases hneg : fa f i < 0
          · have hnc : (fa f i < 0) = True := eq_true hneg
            obtain ⟨-, -, be, oe, ue, hixe, hcee, hree⟩ := (HV.out.below0 (HST.out.below.trans (hbi.mono HST.out.below.size))).at hlt
            have hcb2 : wr.cell? ⟨Bx, 0, none⟩ = some (.slice al l.length cl) := (HBX.out.below0 hbi).cell rfl
            have hrl2 := HRL.out.below0 hbi
            have KA := Lib.hid (anyInt_any (fun j => l.contains j) 73 #[.pointer (some ⟨Bx, 0, none⟩)] ue (E i) wr hree
              ⟨fun _ _ => rfl, fun W x hx hb => fnGives_drew (far1_any l _ Bx x W ((hb.cell (p := ⟨Bx, 0, none⟩) (by simp; omega)).trans hcb2) (hrl2.below0 hb))⟩)
            cases hany : (E i).any fun j => l.contains j with
            | true =>
              rw [hany] at KA HSN
              have HS1 : Hid (nextF E (i + 1) f l = nextF E i f l ++ [i]) := Lib.hid (by rw [HSN.out, if_pos (by simp [hneg])])
              have HOQ : Hid (∀ q, (wr.drewN q).ownsRow W5.heap.size 3 1 u8 (nextF E i f l).length ((intsB (nextF E i f l)).map (Value.int .i64))) := Lib.hid (fun q => ownsRow_fr (S := fun _ => False) HOW.out (Fr.of_below (below_drewN (Below.refl wr.heap.size wr) q)) (fun k hk => ⟨(HOW.out.lt k hk).2, id⟩))
              clear hown hbi hneg hany hree hrl2 hcb2 HSN
              generalize fa f i = z at *
              go_wp2_with fail
              refine KA.out.mono ?_
              rintro e w6 ⟨rfl, q, rfl⟩
              go_wp2_with (first
                | (at_builtin
                   refine wpList_app _ rfl _ _ 28 rfl tyInts W5.heap.size _ _ _ rfl ((HOQ.out q).alloc _) ⟨wr.heap.size, 0, none⟩ 1 1 [intE i] rfl rfl (news_one ?_) ?_ (by decide) ?_ ?_ ?_
                   · have e := heap_alloc_here (wr.drewN q) (.cells #[intE i] 3)
                     rw [show (wr.drewN q).heap.size = wr.heap.size by simp] at e
                     rw [cell_of_heap e]; rfl
                   · intro u hu; simp at hu; subst hu; rfl
                   · omega
                   · simp; omega
                   intro v7 w7 ho7 hg7 hloc7
                   have HO7 := Lib.hid ho7
                   have HB7 : Hid (Below W5.heap.size W5 w7) := Lib.hid (((below_drewN HBI.out q).alloc (by simp; omega) _).grown hg7 (by simp; omega) (fun b hb => (HOW.out.lt b hb).1))
                   clear ho7 hg7 hloc7))
              go_wp2
              go_roundw
              case rel => exact ⟨i + 1, by omega, by go_num, by rw [HS1.out]; have h := HO7.out; simpa [intsB] using h, HB7.out⟩
              case measure => simp [intOf]; omega
            | false =>
              rw [hany] at KA HSN
              have HS1 : Hid (nextF E (i + 1) f l = nextF E i f l) := Lib.hid (by rw [HSN.out, if_neg (by simp), List.append_nil])
              have HOQ : Hid (∀ q, (wr.drewN q).ownsRow W5.heap.size 3 1 u8 (nextF E i f l).length ((intsB (nextF E i f l)).map (Value.int .i64))) := Lib.hid (fun q => ownsRow_fr (S := fun _ => False) HOW.out (Fr.of_below (below_drewN (Below.refl wr.heap.size wr) q)) (fun k hk => ⟨(HOW.out.lt k hk).2, id⟩))
              clear hown hbi hneg hany hree hrl2 hcb2 HSN
              generalize fa f i = z at *
              go_wp2_with fail
              refine KA.out.mono ?_
              rintro e w6 ⟨rfl, q, rfl⟩
              go_wp2
              go_roundw
              case rel => exact ⟨i + 1, by omega, by go_num, by rw [HS1.out]; exact HOQ.out q, below_drewN HBI.out q⟩
              case measure => simp [intOf]; omega
          · have hnc : (fa f i < 0) = False := eq_false hneg
            have HS1 : Hid (nextF E (i + 1) f l = nextF E i f l) := Lib.hid (by rw [HSN.out, if_neg (by simp [hneg]), List.append_nil])
            clear hown hbi hneg HSN
            generalize fa f i = z at *
            go_wp2
            go_roundw
            case rel => exact ⟨i + 1, by omega, by go_num, by rw [HS1.out]; exact HOW.out, HBI.out⟩
            case measure => simp [intOf]; omega
        · obtain rfl : i = n := by omega
          have hlc : ((i : Int) < (i : Int)) = False := eq_false (by omega)
          obtain ⟨an, cn, hnv⟩ : ∃ an cn, u8 = .slice an (nextF E i f l).length cn := by
            rcases hown.2 with ⟨e, h0⟩ | ⟨g, cap, _, e, -⟩
            · exact ⟨none, 0, by rw [e, h0]⟩
            · exact ⟨_, _, e⟩
          subst hnv
          have HST1 := Lib.hid HST.out.st.step
          have HNX : Hid (∀ k ∈ nextF E i f l, k < i) := Lib.hid (fun k hk => (mem_nextF.1 hk).1)
          have HR0 := Lib.hid (HST.out.row.below0 hbi)
          have HX0 := Lib.hid (HBX.out.below0 hbi)
          have HB0 := Lib.hid (HST.out.below.trans (hbi.mono HST.out.below.size))
          generalize nextF E i f l = nx at *
          clear hown hbi
          go_wp2_with fail
          go_loopw [48] (fun iv wl => ∃ j : Nat, j ≤ nx.length ∧ iv = .int .i64 j ∧ VRow 3 wl (w.heap.size + 1) ((setAll s f (nx.take j)).map (Value.int .i64)) ∧ wl.ownsRow W5.heap.size 3 1 (.slice an nx.length cn) nx.length ((intsB nx).map (Value.int .i64)) ∧ VRow 28 wl Bx [.slice al l.length cl] ∧ Below w.heap.size w wl) (fun iv _ => nx.length - (intOf iv).toNat)
          case atStart => exact ⟨0, by omega, rfl, HR0.out, HOW.out, HX0.out, HB0.out⟩
          case round =>
            obtain ⟨j, hj, rfl, hrw, hon, hbx, hbj⟩ := hrel
            by_cases hjl : j < nx.length
            · have hlc2 : ((j : Int) < (nx.length : Int)) = True := eq_true (by omega)
              obtain ⟨b1, o1, hix1, hc1⟩ := (reads_ints hon).at (P := Tryz.prog) Tryz.underlying28 (by kernel_rfl) j (by simpa using hjl)
              simp only [List.getElem_map] at hc1
              have hxn := HNX.out _ (List.getElem_mem hjl)
              have HTK : Hid (∀ x, nx[j] = x → setAll s f (nx.take (j + 1)) = (setAll s f (nx.take j)).set x s) := Lib.hid (fun x hx => by rw [List.take_succ_eq_append_getElem hjl, hx, setAll_snoc])
              generalize nx[j] = x at *
              have hixx := idx_at (P := Tryz.prog) (T := 28) (E := 3) Tryz.underlying28 (by kernel_rfl) (w.heap.size + 1) i i x hxn
              have hcx : ∃ z, wr.cell? ⟨w.heap.size + 1, x, none⟩ = some z := ⟨_, hrw.cell (List.getElem?_eq_getElem (by rw [List.length_map, setAll_len]; omega))⟩
              obtain ⟨zx, hcx⟩ := hcx
              have hfx : ∀ k, wr.frozen? ⟨w.heap.size + 1, k, none⟩ = false := hrw.frozen
              have hset := hrw.set x (.int .i64 (s : Int))
              rw [← List.map_set, ← HTK.out x rfl] at hset
              have HSE := Lib.hid hset
              have HON := Lib.hid (ownsRow_fr hon (Fr.setCell (S := fun q => q = w.heap.size + 1) (p := ⟨w.heap.size + 1, x, none⟩) (Fr.refl wr.heap.size _ wr) (fun _ => rfl) (.int .i64 (s : Int))) (fun q hq => ⟨(hon.lt q hq).2, fun e => by have := (hon.lt q hq).1; omega⟩))
              have HXN : Hid (VRow 28 (wr.setCell ⟨w.heap.size + 1, x, none⟩ (.int .i64 (s : Int))) Bx [.slice al l.length cl]) := Lib.hid ((Below.heap_setCell wr ⟨w.heap.size + 1, x, none⟩ _ Bx (by simp; omega)).trans hbx)
              have HBN := Lib.hid (hbj.setCell (p := ⟨w.heap.size + 1, x, none⟩) (by simp) (.int .i64 (s : Int)))
              clear hrw hon hbx hbj hset HTK
              go_wp2
              go_roundw
              case rel => exact ⟨j + 1, by omega, by go_num, HSE.out, HON.out, HXN.out, HBN.out⟩
              case measure => simp [intOf]; omega
            · obtain rfl : j = nx.length := by omega
              have hlc2 : ((nx.length : Int) < (nx.length : Int)) = False := eq_false (by omega)
              rw [List.take_length] at hrw
              have hfb2 : wr.frozen? ⟨Bx, 0, none⟩ = false := hbx.frozen 0
              have hcb2 : wr.cell? ⟨Bx, 0, none⟩ = some (.slice al l.length cl) := hbx.cell rfl
              have hws : IntKind.i64.wrap ((s : Int) + 1) = (s : Int) + 1 := IntWalk.i64_in _ (by omega)
              obtain ⟨W8, hW8⟩ : ∃ W, wr.setCell ⟨Bx, 0, none⟩ (.slice an nx.length cn) = W := ⟨_, rfl⟩
              have hz8 : W8.heap.size = wr.heap.size := by rw [← hW8]; simp
              have hx8 : VRow 28 W8 Bx [.slice an nx.length cn] := by rw [← hW8]; exact hbx.set 0 _
              have hc8 : W8.cell? ⟨Bx, 0, none⟩ = some (.slice an nx.length cn) := hx8.cell rfl
              have hr8 : VRow 3 W8 (w.heap.size + 1) ((setAll s f nx).map (Value.int .i64)) := by rw [← hW8]; exact (Below.heap_setCell wr ⟨Bx, 0, none⟩ _ (w.heap.size + 1) (by simp; omega)).trans hrw
              have ho8 : W8.ownsRow W5.heap.size 3 1 (.slice an nx.length cn) nx.length ((intsB nx).map (Value.int .i64)) := by
                rw [← hW8]
                exact ownsRow_fr hon (Fr.setCell (S := fun q => q = Bx) (p := ⟨Bx, 0, none⟩) (Fr.refl wr.heap.size _ wr) (fun _ => rfl) _) (fun q hq => ⟨(hon.lt q hq).2, fun e => by have := (hon.lt q hq).1; omega⟩)
              have hb8 : Below w.heap.size w W8 := by rw [← hW8]; exact hbj.setCell (p := ⟨Bx, 0, none⟩) (by simp; omega) _
              obtain ⟨W9, hW9⟩ : ∃ W, W8.alloc (.cells #[.slice an nx.length cn] 28) = W := ⟨_, rfl⟩
              have hA9 : Below W8.heap.size W8 W9 := hW9 ▸ (Below.refl _ W8).alloc (Nat.le_refl _) _
              have hx9 : VRow 28 W9 wr.heap.size [.slice an nx.length cn] := by rw [← hz8]; exact hW9 ▸ heap_alloc_here W8 _
              have HS9 : Hid (FSt w W9 E i tg (s + 1) wr.heap.size (setAll s f nx) nx) := Lib.hid ⟨HST1.out, by omega, hr8.below0 hA9, ⟨an, cn, hx9, (reads_ints ho8).below0 hA9⟩, by have := hbx.lt; omega, hb8.trans (hA9.mono hb8.size)⟩
              clear hrw hon hbx hbj hx8 hr8 ho8 hb8 hA9 hx9
              go_wp2
              go_roundw
              case rel => exact ⟨s + 1, wr.heap.size, setAll s f nx, nx, by go_num, rfl, HS9.out⟩
              case measure => simp [intOf]; omega
end Go.Proofs.YtmlmogllgnfklaaGreatDoor

/-
  Package graph: Cycle at any rules.
-/
namespace Go.Proofs.YtmlmogllgnfklaaGreatDoor
open Go Go.RowKit Go.Kf Go.Sort Go.Proofs

theorem find_idx {p : Nat → Bool} : ∀ {l : List Nat} {x : Nat}, l.find? p = some x → ∃ h : l.findIdx p < l.length, l[l.findIdx p] = x
  | [], x, h => by cases h
  | a :: l, x, h => by
    by_cases hp : p a = true
    · rw [List.find?_cons_of_pos hp] at h
      have e : (a :: l).findIdx p = 0 := by rw [List.findIdx_cons, hp]; rfl
      exact ⟨by rw [e]; simp, by simp only [e]; exact Option.some.inj h⟩
    · rw [List.find?_cons_of_neg hp] at h
      obtain ⟨h1, h2⟩ := find_idx h
      have e : (a :: l).findIdx p = l.findIdx p + 1 := by rw [List.findIdx_cons, Bool.eq_false_iff.2 hp]; rfl
      exact ⟨by rw [e, List.length_cons]; omega, by simp only [e, List.getElem_cons_succ]; exact h2⟩

set_option maxRecDepth 100000 in
/-- Cycle's function value: is it as far as this? -/
theorem cycle1_any (f : List Int) (n Bf g Bl : Nat) (left : Int) (j : Nat) (hj : j < n) (hl : f.length = n) (w : World) (hb : w.cell? ⟨Bf, 0, none⟩ = some (.slice (some ⟨g, 0, none⟩) n n)) (hf : VRow 3 w g (f.map (Value.int .i64))) (hL : w.cell? ⟨Bl, 0, none⟩ = some (.int .i64 left)) :
    Calls Tryz.prog 47 #[intE j, .pointer (some ⟨Bf, 0, none⟩), .pointer (some ⟨Bl, 0, none⟩)] w fun e w' => e = .returned (.bool (decide (fa f j = left))) ∧ ∃ q, w' = w.drewN q := by
  have hix := idx_at (P := Tryz.prog) (T := 28) (E := 3) Tryz.underlying28 (by kernel_rfl) g n n j hj
  have hc : w.cell? ⟨g, j, none⟩ = some (.int .i64 (fa f j)) := hf.cell (by rw [List.getElem?_map, List.getElem?_eq_getElem (by omega), Option.map_some, fa_at (by omega)])
  generalize fa f j = z at *
  clear hf
  go_enter Tryz.func47, Tryz.ntmps47
  go_wp2_with fail
  go_quiet (fail)
  go_wp2
  go_ret
  refine ⟨?_, _, rfl⟩
  show Ending.returned (.bool (z == left)) = _
  rw [Bool.beq_eq_decide_eq]

/-- What Cycle answers. -/
def CycAns (S : Nat → Addr) (l : List RuleL) (B : Nat) (e : Ending) (w' : World) : Prop :=
  (RightS l ∧ ∃ c u, CycR l c ∧ e = .returned (.tuple #[u, .nilIface]) ∧ w'.ownsRow B 3 1 u c.length ((intsB c).map (Value.int .i64))) ∨ ∃ T x, e = .returned (.tuple #[.slice none 0 0, .iface T x]) ∧ SheetBad S l B (.iface T x) w'

set_option maxRecDepth 100000 in
set_option maxHeartbeats 4000000 in
theorem gcycle_any (R : List RV) (v : Value) (w : World) (S : Nat → Addr) (hR : RulesAt w v R) (hcap : Roomy v) (hm : Ml w) (hE : KErr w S) (hN : NErr w) (ht : Tab w)
    (hb : ∀ x ∈ R, x.1.out.length ≤ 1000000 ∧ x.1.word.length ≤ 100000 ∧ (∀ s ∈ x.1.ins, s.length ≤ 1000000) ∧ x.1.ins.length ≤ 1000) (hn : R.length ≤ 100000) :
    Calls Tryz.prog 14 #[v] w fun e w' => CycAns S (R.map Prod.fst) w.heap.size e w' ∧ Below w.heap.size w w' := by
  obtain ⟨a, c, hv, -, -⟩ := id hR.1
  rw [List.length_map] at hv
  subst hv
  have KS := Lib.hid (sheet_any R (.slice a R.length c) w S hR hcap hm hE hN ht hb hn)
  have HR := Lib.hid hR
  have HB := Lib.hid hb
  have hml : (R.map Prod.fst).length = R.length := List.length_map _
  have HML := Lib.hid hml
  clear hR hcap hm hE hN ht hb hml
  go_enter Tryz.func14, Tryz.ntmps14
  go_wp2_with fail
  refine KS.out.mono ?_
  rintro e w1 ⟨hs, hb1⟩
  rcases sheet_split hs with ⟨hrs, rfl⟩ | ⟨T, x, rfl, hbad⟩
  case inr =>
    have HB1 := Lib.hid hb1
    have HBAD := Lib.hid hbad
    clear hs hb1 hbad
    go_wp2
    go_ret2
    exact ⟨Or.inr ⟨T, x, rfl, HBAD.out⟩, HB1.out⟩
  case inl =>
    have HRS := Lib.hid hrs
    have h40 : R.length ≤ 40 := by have := hrs.1; rw [HML.out] at this; exact this
    have HB1 := Lib.hid hb1
    have KE := Lib.hid (edges_any R (.slice a R.length c) w1 (HR.out.below0 hb1) hrs.2 (by omega) (fun x hx => (HB.out x hx).2.2.2))
    clear hs hb1 hrs KS
    go_wp2_with fail
    refine KE.out.mono ?_
    rintro e w2 ⟨ev, rfl, hea, hb2⟩
    have hev : EdgesV w2 ev R.length (edgesB (R.map Prod.fst)) := by
      have := hea.view (by rw [HML.out]; omega)
      rw [HML.out] at this
      exact this
    have HEL : Hid (∀ i, ∀ k ∈ edgesB (R.map Prod.fst) i, k < R.length) := Lib.hid (fun i k hk => by have h := edges_lt _ i k hk; rw [HML.out] at h; exact h)
    have HB2 := Lib.hid (HB1.out.trans (hb2.mono HB1.out.size))
    have HEV := Lib.hid hev
    have HW : Hid (∀ wl, Below w2.heap.size w2 wl → Below w.heap.size w wl) := Lib.hid (fun wl h => HB2.out.trans (h.mono HB2.out.size))
    obtain ⟨ae, ce, hev2⟩ : ∃ ae ce, ev = .slice ae R.length ce := by
      obtain ⟨vs, h1, h2, -⟩ := hev
      obtain ⟨ae, ce, e, -, -⟩ := h1
      exact ⟨ae, ce, by rw [e, h2]⟩
    subst hev2
    clear hea hb2 hev KE
    go_wp2_with fail
    go_loopw [21] (fun iv wl => ∃ i : Nat, i ≤ R.length ∧ iv = .int .i64 i ∧ (∀ j, j < i → ¬ Plus (edgesB (R.map Prod.fst)) j j) ∧ Below w2.heap.size w2 wl) (fun iv _ => R.length - (intOf iv).toNat)
    case atStart => exact ⟨0, by omega, rfl, fun j h => by omega, Below.refl _ _⟩
    case round =>
      obtain ⟨i, hi, rfl, hno, hbi⟩ := hrel
      have HNO := Lib.hid hno
      have HBI := Lib.hid hbi
      have hzi := hbi.size
      by_cases hlt : i < R.length
      · have hlc : ((i : Int) < (R.length : Int)) = True := eq_true (by omega)
        have KF := Lib.hid (far_any (.slice ae R.length ce) R.length i (edgesB (R.map Prod.fst)) wr (HEV.out.below0 hbi) HEL.out hlt (by omega))
        clear hno hbi
        go_wp2_with fail
        refine KF.out.mono ?_
        rintro e w4 ⟨f, hfa, rfl, hrow, hb4⟩
        have HFA := Lib.hid hfa
        have hfl := hfa.len
        have HZ4 := Lib.hid hrow.lt
        obtain ⟨W5, hW5⟩ : ∃ W, w4.alloc (.cells #[.slice (some ⟨wr.heap.size + 1, 0, none⟩) R.length R.length] 28) = W := ⟨_, rfl⟩
        have hA5 : Below w4.heap.size w4 W5 := hW5 ▸ (Below.refl _ w4).alloc (Nat.le_refl _) _
        have hz5 : W5.heap.size = w4.heap.size + 1 := by rw [← hW5]; simp
        have hq5 : VRow 28 W5 w4.heap.size [.slice (some ⟨wr.heap.size + 1, 0, none⟩) R.length R.length] := hW5 ▸ heap_alloc_here w4 _
        have hr5 := hrow.below0 hA5
        have HB5 : Hid (Below w2.heap.size w2 W5) := Lib.hid ((HBI.out.trans (hb4.mono hzi)).trans (hA5.mono (by have := hb4.size; omega)))
        have hcb : W5.cell? ⟨w4.heap.size, 0, none⟩ = some (.slice (some ⟨wr.heap.size + 1, 0, none⟩) R.length R.length) := hq5.cell rfl
        have hix := idx_at (P := Tryz.prog) (T := 28) (E := 3) Tryz.underlying28 (by kernel_rfl) (wr.heap.size + 1) R.length R.length i hlt
        have hci : W5.cell? ⟨wr.heap.size + 1, i, none⟩ = some (.int .i64 (fa f i)) := hr5.cell (by rw [List.getElem?_map, List.getElem?_eq_getElem (by omega), Option.map_some, fa_at (by omega)])
        have HF : Hid (∀ wl, Below (w4.heap.size + 1) W5 wl → VRow 3 wl (wr.heap.size + 1) (f.map (Value.int .i64)) ∧ wl.cell? ⟨w4.heap.size, 0, none⟩ = some (.slice (some ⟨wr.heap.size + 1, 0, none⟩) R.length R.length)) := Lib.hid (fun wl hb => ⟨hr5.below0 (hb.mono (by omega)), (hb.cell (p := ⟨w4.heap.size, 0, none⟩) (by simp)).trans hcb⟩)
        have HFL : Hid (f.length = R.length) := Lib.hid hfl
        clear hrow hb4 hA5 hq5 hr5 hfl hfa
        by_cases hneg : fa f i < 0
        · have hnc : (fa f i < 0) = True := eq_true hneg
          have HNX : Hid (∀ j, j < i + 1 → ¬ Plus (edgesB (R.map Prod.fst)) j j) := Lib.hid (fun j hj hp => by
            by_cases hji : j = i
            · subst hji
              have := HFA.out.of_plus HEL.out hlt hp
              omega
            · exact HNO.out j (by omega) hp)
          clear hneg
          generalize fa f i = z at *
          go_wp2
          go_roundw
          case rel => exact ⟨i + 1, by omega, by go_num, HNX.out, HB5.out⟩
          case measure => simp [intOf]; omega
        · obtain ⟨d, hd⟩ : ∃ d : Nat, fa f i = (d : Int) + 1 := by
            rcases HFA.out.range i with h | h
            · omega
            · exact ⟨(fa f i - 1).toNat, by omega⟩
          have hdn : d < R.length := by
            rcases HFA.out.range i with h | h <;> omega
          have HD := Lib.hid hd
          rw [hd] at hci
          have hnc : ((d : Int) + 1 < 0) = False := eq_false (by omega)
          have hwd : IntKind.i64.wrap ((d : Int) + 1 - 1) = (d : Int) := by rw [show (d : Int) + 1 - 1 = d by omega]; exact IntWalk.i64_in _ (by omega)
          have hwd2 : IntKind.i64.wrap (d : Int) = (d : Int) := IntWalk.i64_in _ (by omega)
          obtain ⟨W6, hW6⟩ : ∃ W, W5.alloc (.cells #[intE i] 3) = W := ⟨_, rfl⟩
          have hz6 : W6.heap.size = w4.heap.size + 2 := by rw [← hW6]; simp [hz5]
          have hA6 : Below (w4.heap.size + 1) W5 W6 := hW6 ▸ (Below.refl _ W5).alloc (by omega) _
          have ho6 : W6.ownsRow (w4.heap.size + 1) 3 1 (.slice (some ⟨w4.heap.size + 1, 0, none⟩) 1 1) 1 [intE i] := by
            have h := World.ownsRow_lit (base := w4.heap.size + 1) (e := 3) (size := 1) W5 #[intE i] 1 (by omega) (by decide) rfl
            rw [hz5, hW6] at h
            exact h
          have hci6 := (hA6.cell (p := ⟨wr.heap.size + 1, i, none⟩) (by have := HZ4.out; simp; omega)).trans hci
          have hcb6 := (hA6.cell (p := ⟨w4.heap.size, 0, none⟩) (by simp)).trans hcb
          obtain ⟨W7, hW7⟩ : ∃ W, W6.alloc (.cells #[.int .i64 (d : Int)] 3) = W := ⟨_, rfl⟩
          have hq7 : VRow 3 W7 (w4.heap.size + 2) [.int .i64 (d : Int)] := by rw [← hz6]; exact hW7 ▸ heap_alloc_here W6 _
          have HO7 := Lib.hid (hW7 ▸ ho6.alloc (.cells #[.int .i64 (d : Int)] 3) : W7.ownsRow (w4.heap.size + 1) 3 1 (.slice (some ⟨w4.heap.size + 1, 0, none⟩) 1 1) 1 [intE i])
          have HQ7 := Lib.hid hq7
          have HA7 : Hid (Below (w4.heap.size + 1) W5 W7) := Lib.hid (hW7 ▸ hA6.alloc (by omega) _)
          have HAT : Hid (∀ t : Nat, (t : Int) ≤ d → cycA (edgesB (R.map Prod.fst)) f i t < R.length) := Lib.hid (fun t ht => by
            cases t with
            | zero => exact hlt
            | succ t => exact HEL.out _ _ (HFA.out.cyc_step (by omega) (t := t) (by omega)).2)
          have HSTEP : Hid (∀ t : Nat, t < d → ((edgesB (R.map Prod.fst) (cycA (edgesB (R.map Prod.fst)) f i t)).find? fun j => decide (fa f j = (d : Int) - t)) = some (cycA (edgesB (R.map Prod.fst)) f i (t + 1))) := Lib.hid (fun t ht => by
            have h := (HFA.out.cyc_step (by omega) (t := t) (by omega)).1
            rw [show fa f i - 1 - (t : Int) = (d : Int) - t by omega] at h
            exact h)
          clear hneg hA6 ho6 hq7 hd
          go_wp2_with fail
          go_loopw [8, 9, 10] (fun ov bv av wl => ∃ t Bl : Nat, t ≤ d ∧ av = intE (cycA (edgesB (R.map Prod.fst)) f i t) ∧ bv = .pointer (some ⟨Bl, 0, none⟩) ∧ VRow 3 wl Bl [.int .i64 ((d : Int) - t)] ∧ wl.ownsRow (w4.heap.size + 1) 3 1 ov (t + 1) ((intsB ((List.range (t + 1)).map (cycA (edgesB (R.map Prod.fst)) f i))).map (Value.int .i64)) ∧ (∀ b, ov.ownBlock = some b → b ≠ Bl) ∧ w4.heap.size + 1 ≤ Bl ∧ Below (w4.heap.size + 1) W5 wl) (fun ov _ _ _ => d + 1 - lenV ov)
          case atStart => exact ⟨0, w4.heap.size + 2, by omega, rfl, rfl, by simpa using HQ7.out, HO7.out, fun b hb => by cases hb; simp, by omega, HA7.out⟩
          case round =>
            obtain ⟨t, Bl, htd, rfl, rfl, hbx, hown, hsep, hbl, hbe⟩ := hrel
            obtain ⟨g8, c8, rfl⟩ := ownsRow_some hown (by omega)
            have HBX := Lib.hid hbx
            have HOW := Lib.hid hown
            have HSEP := Lib.hid hsep
            have HBE := Lib.hid hbe
            have hcl : wr.cell? ⟨Bl, 0, none⟩ = some (.int .i64 ((d : Int) - t)) := hbx.cell rfl
            have hat := HAT.out t (by omega)
            by_cases hlast : t < d
            · have hpos : ((0 : Int) < (d : Int) - t) = True := eq_true (by omega)
              have hzb := hbe.size
              obtain ⟨hrf, hbf⟩ := HF.out _ hbe
              obtain ⟨-, -, be, oe, ue, hixe, hcee, hree⟩ := (HEV.out.below0 (HB5.out.trans (hbe.mono (by have := HB5.out.size; omega)))).at hat
              have KI := Lib.hid (idxInt_any (fun j => decide (fa f j = (d : Int) - t)) 47 #[.pointer (some ⟨w4.heap.size, 0, none⟩), .pointer (some ⟨Bl, 0, none⟩)] ue (edgesB (R.map Prod.fst) (cycA (edgesB (R.map Prod.fst)) f i t)) wr hree
                ⟨fun _ _ => rfl, fun W x hx hb => cycle1_any f R.length _ _ Bl ((d : Int) - t) x (HEL.out _ x hx) HFL.out W
                  ((hb.cell (p := ⟨w4.heap.size, 0, none⟩) (by simp; omega)).trans hbf) (hrf.below0 hb) ((hb.cell (p := ⟨Bl, 0, none⟩) hbx.lt).trans hcl)⟩)
              have hfind := HSTEP.out t hlast
              obtain ⟨k, hk1, hk2, hkI⟩ : ∃ k : Nat, ∃ h : k < (edgesB (R.map Prod.fst) (cycA (edgesB (R.map Prod.fst)) f i t)).length, (edgesB (R.map Prod.fst) (cycA (edgesB (R.map Prod.fst)) f i t))[k] = cycA (edgesB (R.map Prod.fst)) f i (t + 1) ∧ idxI (fun j => decide (fa f j = (d : Int) - t)) (edgesB (R.map Prod.fst) (cycA (edgesB (R.map Prod.fst)) f i t)) = (k : Int) := by
                obtain ⟨h1, h2⟩ := find_idx hfind
                exact ⟨_, h1, h2, if_pos h1⟩
              rw [hkI] at KI
              obtain ⟨au, cu, hu, -, -⟩ := id hree
              rw [List.length_map] at hu
              subst hu
              obtain ⟨bk, ok, hixk, hck⟩ := hree.at (P := Tryz.prog) Tryz.underlying28 (by kernel_rfl) k (by rw [List.length_map]; exact hk1)
              simp only [List.getElem_map, hk2] at hck
              have HRS1 : Hid ((List.range (t + 1 + 1)).map (cycA (edgesB (R.map Prod.fst)) f i) = (List.range (t + 1)).map (cycA (edgesB (R.map Prod.fst)) f i) ++ [cycA (edgesB (R.map Prod.fst)) f i (t + 1)]) := Lib.hid (by rw [List.range_succ (n := t + 1), List.map_append]; rfl)
              have HOQ : Hid (∀ q, (wr.drewN q).ownsRow (w4.heap.size + 1) 3 1 (.slice (some ⟨g8, 0, none⟩) (t + 1) c8) (t + 1) ((intsB ((List.range (t + 1)).map (cycA (edgesB (R.map Prod.fst)) f i))).map (Value.int .i64))) := Lib.hid (fun q => ownsRow_fr (S := fun _ => False) HOW.out (Fr.of_below (below_drewN (Below.refl wr.heap.size wr) q)) (fun k hk => ⟨(HOW.out.lt k hk).2, id⟩))
              have hww : IntKind.i64.wrap ((d : Int) - (t : Int) - 1) = (d : Int) - (t : Int) - 1 := IntWalk.i64_in _ (by omega)
              clear hbx hown hsep hbe hrf hbf hfind hkI hk2 hree
              have HCN : Hid (∀ x, cycA (edgesB (R.map Prod.fst)) f i (t + 1) = x → intE x = intE (cycA (edgesB (R.map Prod.fst)) f i (t + 1))) := Lib.hid (fun x h => by rw [h])
              have HRS2 : Hid (∀ x, cycA (edgesB (R.map Prod.fst)) f i (t + 1) = x → (List.range (t + 1 + 1)).map (cycA (edgesB (R.map Prod.fst)) f i) = (List.range (t + 1)).map (cycA (edgesB (R.map Prod.fst)) f i) ++ [x]) := Lib.hid (fun x h => by rw [HRS1.out, h])
              obtain ⟨cn, hcn⟩ : ∃ x, cycA (edgesB (R.map Prod.fst)) f i (t + 1) = x := ⟨_, rfl⟩
              have HC1 := Lib.hid (HCN.out cn hcn)
              have HR1 := Lib.hid (HRS2.out cn hcn)
              rw [hcn] at hck
              clear HCN HRS1 HRS2 hcn
              generalize (edgesB (R.map Prod.fst) (cycA (edgesB (R.map Prod.fst)) f i t)).length = en at *
              generalize cycA (edgesB (R.map Prod.fst)) f i t = ct at *
              go_wp2_with fail
              refine KI.out.mono ?_
              rintro e w8 ⟨rfl, q, rfl⟩
              go_wp2_with (first
                | (at_builtin
                   refine wpList_app _ rfl _ _ 28 rfl tyInts (w4.heap.size + 1) _ _ _ rfl ((HOQ.out q).alloc _) ⟨wr.heap.size, 0, none⟩ 1 1 [intE cn] rfl rfl (news_one ?_) ?_ (by decide) ?_ ?_ ?_
                   · have e := heap_alloc_here (wr.drewN q) (.cells #[intE cn] 3)
                     rw [show (wr.drewN q).heap.size = wr.heap.size by simp] at e
                     rw [cell_of_heap e]; rfl
                   · intro u hu; simp at hu; subst hu; rfl
                   · omega
                   · simp; omega
                   intro v9 w9 ho9 hg9 hloc9
                   have HO9 := Lib.hid ho9
                   have HBB : Hid (Below (w4.heap.size + 1) W5 w9) := Lib.hid (((below_drewN HBE.out q).alloc (by simp; omega) _).grown hg9 (by simp; omega) (fun b hb => (HOW.out.lt b hb).1))
                   have hx9 : VRow 3 w9 Bl [.int .i64 ((d : Int) - t)] := (VRow.below0 HBX.out ((below_drewN (Below.refl _ _) q).alloc (by simp) _)).fr (Fr.of_grown hg9) (by have := HBX.out.lt; simp; omega) (fun e => HSEP.out _ e rfl)
                   have hc9 : w9.cell? ⟨Bl, 0, none⟩ = some (.int .i64 ((d : Int) - t)) := hx9.cell rfl
                   clear ho9 hg9 hloc9 hx9))
              go_wp2
              go_roundw
              case rel =>
                refine ⟨t + 1, w9.heap.size, by omega, HC1.out, rfl, ?_, ?_, fun b hb => ?_, ?_, HBB.out.alloc (by have := HBB.out.size; omega) _⟩
                · rw [show (d : Int) - ((t + 1 : Nat) : Int) = (d : Int) - t - 1 by omega]
                  exact heap_alloc_here w9 _
                · rw [HR1.out]
                  have h := HO9.out.alloc (.cells #[.int .i64 ((d : Int) - t - 1)] 3)
                  simpa [intsB] using h
                · have := (HO9.out.lt b hb).2
                  omega
                · have := HBB.out.size
                  omega
              case measure =>
                obtain ⟨g9, c9, rfl⟩ := ownsRow_some HO9.out (by omega)
                show d + 1 - (t + 1 + 1) < d + 1 - (t + 1)
                omega
            · obtain rfl : t = d := by omega
              have hpos : ((0 : Int) < (t : Int) - t) = False := eq_false (by omega)
              have HCY : Hid (CycR (R.map Prod.fst) ((List.range (t + 1)).map (cycA (edgesB (R.map Prod.fst)) f i))) := Lib.hid (Or.inl ⟨i, f, by rw [HML.out]; exact hlt, by rw [HML.out]; exact HFA.out, by have := HD.out; omega, HNO.out, by unfold cycL; rw [HD.out]; congr 2⟩)
              have HBF := Lib.hid (HW.out _ (HB5.out.trans (hbe.mono (by have := HB5.out.size; omega))))
              have hz2 := HB2.out.size
              have HOF := Lib.hid (ownsRow_base hown (show w.heap.size ≤ w4.heap.size + 1 by have := HB5.out.size; omega))
              clear hbx hown hsep hbe
              go_wp2
              go_ret2
              exact ⟨Or.inl ⟨HRS.out, _, _, HCY.out, rfl, by rw [List.length_map, List.length_range]; exact HOF.out⟩, HBF.out⟩
      · obtain rfl : i = R.length := by omega
        have hlc : ((R.length : Int) < (R.length : Int)) = False := eq_false (by omega)
        clear hno hbi
        go_wp2
        go_ret2
        exact ⟨Or.inl ⟨HRS.out, [], _, Or.inr ⟨rfl, fun j hj => HNO.out j (by rw [HML.out] at hj; exact hj)⟩, rfl, World.ownsRow_nil _ _ _ _⟩, HW.out _ HBI.out⟩
end Go.Proofs.YtmlmogllgnfklaaGreatDoor
