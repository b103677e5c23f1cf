/-
  The reference's acts: lay at any slice of the call's own; what is made by sort.
-/
import Derived.Test.YtmkpeopebddnjaaGreatDoorMadeE
namespace Go.Proofs.YtmkpeopebddnjaaGreatDoor
open Go Go.RowKit Go.Kf Go.Sort Go.Proofs

theorem lay_any (s : List UInt8) (l : List (List UInt8)) (v : Value) (B : Nat) (w : World) (ho : w.ownsRow B 9 1 v l.length (l.map str)) (hB : B ≤ w.heap.size) (hn : l.length ≤ 1000000) :
    Calls Tryz.prog 84 #[v, str s] w fun e w' => ∃ v', e = .returned v' ∧ w'.ownsRow B 9 1 v' (layB l s).length ((layB l s).map str) ∧ Below w.heap.size w w' := by
  have hr := ownsRow_reads ho
  rcases ho.2 with ⟨rfl, h0⟩ | ⟨g, cap, cur, rfl, hg, hh, hcn, hcap, hsz, htake⟩
  · obtain rfl := List.length_eq_zero_iff.1 h0
    refine (lay_nil s w).mono ?_
    rintro e w' ⟨v', rfl, ho', hb⟩
    exact ⟨v', rfl, ownsRow_base ho' hB, hb⟩
  · refine (lay_some s l g cap w hr hcn hn (lt_of_heap hh)).mono ?_
    rintro e w' ⟨v', rfl, ho', hb⟩
    exact ⟨v', rfl, ownsRow_base ho' hB, hb⟩

/-- Sorted lines are those of sortB. -/
theorem sorted_is {R L : List (List UInt8)} (hs : R.Pairwise (· ≤ ·)) (hp : R.Perm L) : R = sortB L := by
  rw [← sortB_eq hp]
  exact (List.mergeSort_of_pairwise (hs.imp fun h => decide_eq_true h)).symm
set_option maxRecDepth 100000 in
set_option maxHeartbeats 4000000 in
theorem msort_plain (v : Value) (ins : List (List UInt8)) (w : World) (hr : Reads w v (ins.map str)) (h8 : ins.length ≤ 8) (hx : ∀ s ∈ ins, s.length ≤ 10000) :
    Calls Tryz.prog 54 #[str [115, 111, 114, 116], str [], v] w fun e w' => e = .returned (str (endedL (sortedC [] (allB ins)))) ∧ Below w.heap.size w w' := by
  have hle := hr.le
  obtain ⟨a, cap, rfl, -, -⟩ := id hr
  simp only [List.length_map] at *
  have HR := Lib.hid hr
  have HX := Lib.hid hx
  have HA : Hid (∀ k, (allB (ins.take k)).length ≤ 10001 * 8) := Lib.hid (fun k => by
    have h1 := allB_len (ins := ins.take k) (fun s hs => hx s (List.mem_of_mem_take hs))
    have h2 : (ins.take k).length ≤ 8 := by rw [List.length_take]; omega
    omega)
  have HE : Hid ((endedL (allB ins)).length ≤ 10001 * 8) := Lib.hid (by
    have h3 := ended_all ins
    have h4 : ∀ {l : List (List UInt8)}, (∀ s ∈ l, s.length ≤ 10000) → (l.map fun s => s.length + 1).sum ≤ 10001 * l.length := by
      intro l
      induction l with
      | nil => intro _; simp
      | cons s l ih =>
        intro hq
        have a1 := hq s List.mem_cons_self
        have a2 := ih (fun q hq' => hq q (List.mem_cons_of_mem _ hq'))
        simp only [List.map_cons, List.sum_cons, List.length_cons]
        omega
    have h5 := h4 hx
    omega)
  clear hr hx
  go_enter Tryz.func54, Tryz.ntmps54
  go_wp2_with fail
  go_loopw [14, 15] (fun lv iv wl => ∃ (i : Nat) (R : List (List UInt8)), i ≤ ins.length ∧ iv = .int .i64 i ∧ wl.ownsRow w.heap.size 9 1 lv R.length (R.map str) ∧ R.Pairwise (· ≤ ·) ∧ R.Perm (allB (ins.take i)) ∧ Below w.heap.size w wl) (fun _ iv _ => ins.length - (intOf iv).toNat)
  case atStart => exact ⟨0, [], by omega, rfl, World.ownsRow_nil _ _ _ _, List.Pairwise.nil, List.Perm.nil, Below.refl _ _⟩
  case round =>
    obtain ⟨i, R, hi, rfl, hown, hsort, hperm, hbi⟩ := hrel
    obtain ⟨W0, hW0⟩ : ∃ W, W = wr := ⟨_, rfl⟩
    rw [← hW0] at hown hbi
    have HO := Lib.hid hown
    have HS := Lib.hid hsort
    have HP := Lib.hid hperm
    have HBi := Lib.hid hbi
    have hz0 := hbi.size
    clear hown hsort hperm hbi
    by_cases hlt : i < ins.length
    · obtain ⟨b, o, hix, hce⟩ := (HR.out.below0 HBi.out).at (P := Tryz.prog) Tryz.underlying39 (by kernel_rfl) i (by simpa using hlt)
      simp only [List.getElem_map] at hce
      have hlc : ((i : Int) < (ins.length : Int)) = True := eq_true (by omega)
      have HN1 : Hid (allB (ins.take (i + 1)) = allB (ins.take i) ++ linesB ins[i]) := Lib.hid (by rw [List.take_succ_eq_append_getElem hlt, allB_snoc])
      have hsl := HX.out ins[i] (List.getElem_mem _)
      have hll := linesB_len ins[i]
      have hai := HA.out i
      have KL := Lib.hid (linesOf_any ins[i] W0 (by omega))
      rw [hW0] at hce
      generalize ins[i] = s at *
      generalize linesB s = L at *
      go_wp2_with fail
      rw [← hW0]
      refine KL.out.mono ?_
      rintro e w2 ⟨vl, rfl, hol, hb2⟩
      have HRL := Lib.hid (ownsRow_reads hol)
      obtain ⟨al, cl, rfl, -, -⟩ := id HRL.out
      have HO2 := Lib.hid (ownsRow_fr (S := fun _ => False) HO.out (Fr.of_below hb2) (fun k hk => ⟨(HO.out.lt k hk).2, id⟩))
      have HB2 := Lib.hid (HBi.out.trans (hb2.mono hz0))
      have hz2 := HB2.out.size
      clear hol hb2 hce KL
      simp only [List.length_map] at *
      go_wp2_with fail
      go_loopw [14, 17] (fun lv kv wl => ∃ (k : Nat) (R2 : List (List UInt8)), k ≤ L.length ∧ kv = .int .i64 k ∧ wl.ownsRow w.heap.size 9 1 lv R2.length (R2.map str) ∧ R2.Pairwise (· ≤ ·) ∧ R2.Perm (allB (ins.take i) ++ L.take k) ∧ Below w2.heap.size w2 wl) (fun _ kv _ => L.length - (intOf kv).toNat)
      case atStart => exact ⟨0, R, by omega, rfl, HO2.out, HS.out, by simpa using HP.out, Below.refl _ _⟩
      case round =>
        obtain ⟨k, R2, hk, rfl, hown, hsort, hperm, hbk⟩ := hrel
        have hR2 : R2.length ≤ 1000000 := by
          have := hperm.length_eq
          rw [List.length_append, List.length_take] at this
          omega
        have HOk := Lib.hid hown
        have HSk := Lib.hid hsort
        have HPk := Lib.hid hperm
        have HBk := Lib.hid hbk
        have hzk := hbk.size
        clear hown hsort hperm hbk
        by_cases hlk : k < L.length
        · obtain ⟨b3, o3, hix3, hce3⟩ := (HRL.out.below0 HBk.out).at (P := Tryz.prog) Tryz.underlying39 (by kernel_rfl) k (by simpa using hlk)
          simp only [List.getElem_map] at hce3
          have hlkc : ((k : Int) < (L.length : Int)) = True := eq_true (by omega)
          have HPN : Hid (∀ R3 : List (List UInt8), R3.Perm (L[k] :: R2) → R3.Perm (allB (ins.take i) ++ L.take (k + 1))) := Lib.hid (fun R3 h => by
            rw [List.take_succ_eq_append_getElem hlk, ← List.append_assoc]
            exact (h.trans (List.Perm.cons _ HPk.out)).trans (List.perm_append_singleton _ _).symm)
          have KY := Lib.hid (lay_any L[k] R2 _ w.heap.size wr HOk.out (by omega) hR2)
          generalize L[k] = x at *
          go_wp2_with fail
          refine KY.out.mono ?_
          rintro e w3 ⟨v3, rfl, ho3, hb3⟩
          have HO3 := Lib.hid ho3
          have HB3 := Lib.hid (HBk.out.trans (hb3.mono hzk))
          clear ho3 hb3
          go_wp2
          go_roundw
          case rel => exact ⟨k + 1, layB R2 x, by omega, by go_num, HO3.out, layB_sorted x HSk.out, HPN.out _ (layB_perm R2 x), HB3.out⟩
          case measure => simp [intOf]; omega
        · obtain rfl : k = L.length := by omega
          have hlkc : ((L.length : Int) < (L.length : Int)) = False := eq_false (by omega)
          have HPF : Hid (R2.Perm (allB (ins.take (i + 1)))) := Lib.hid (by
            have := HPk.out
            rw [List.take_length] at this
            rw [HN1.out]
            exact this)
          go_wp2
          go_roundw
          case rel => exact ⟨i + 1, R2, by omega, by go_num, HOk.out, HSk.out, HPF.out, HB2.out.trans (HBk.out.mono hz2)⟩
          case measure => simp [intOf]; omega
    · obtain rfl : i = ins.length := by omega
      have hlc : ((ins.length : Int) < (ins.length : Int)) = False := eq_false (by omega)
      have HIS : Hid (R = sortB (allB ins)) := Lib.hid (by
        have := HP.out
        rw [List.take_length] at this
        exact sorted_is HS.out this)
      have HEL : Hid (∀ x ∈ R, x.length ≤ 10001 * 8) := Lib.hid (fun x hx => by
        have h1 := endedL_mem hx
        rw [HIS.out, endedL_perm (sortB_perm _)] at h1
        have h2 := HE.out
        omega)
      have HRE : Hid ((endedL R).length ≤ 10001 * 8) := Lib.hid (by rw [HIS.out, endedL_perm (sortB_perm _)]; exact HE.out)
      have HRR := Lib.hid (ownsRow_reads HO.out)
      obtain ⟨ar, cr, rfl, -, -⟩ := id HRR.out
      have hRl := endedL_count R
      have hRE := HRE.out
      simp only [List.length_map] at *
      rw [← hW0]
      go_wp2_with fail
      go_loopw [7, 18] (fun ov iv wl => ∃ j : Nat, j ≤ R.length ∧ iv = .int .i64 j ∧ ov = str (endedL (R.take j)) ∧ Below W0.heap.size W0 wl) (fun _ iv _ => R.length - (intOf iv).toNat)
      case atStart => exact ⟨0, by omega, rfl, by simp [endedL], (by rw [hW0]; exact Below.refl _ _)⟩
      case round =>
        obtain ⟨j, hj, rfl, rfl, hbj⟩ := hrel
        have HBj := Lib.hid hbj
        clear hbj
        by_cases hlj : j < R.length
        · obtain ⟨b3, o3, hix3, hce3⟩ := (HRR.out.below0 HBj.out).at (P := Tryz.prog) Tryz.underlying39 (by kernel_rfl) j (by simpa using hlj)
          simp only [List.getElem_map] at hce3
          have hljc : ((j : Int) < (R.length : Int)) = True := eq_true (by omega)
          have HN : Hid (endedL (R.take (j + 1)) = endedL (R.take j) ++ (R[j] ++ [10])) := Lib.hid (by rw [List.take_succ_eq_append_getElem hlj, endedL_snoc])
          have hs := HEL.out R[j] (List.getElem_mem _)
          have hol := endedL_take R j
          generalize R[j] = x at *
          generalize endedL (R.take j) = out at *
          have hz1 : ¬ 9223372036854775807 < out.length + x.length := by omega
          have hz2 : ¬ 9223372036854775807 < out.length + x.length + 1 := by omega
          go_wp2_with fail
          go_quiet (fail)
          go_wp2
          go_roundw
          case rel => exact ⟨j + 1, by omega, by go_num, by rw [HN.out]; simp [str_app], by first | exact HBj.out | exact below_drewN HBj.out _⟩
          case measure => simp [intOf]; omega
        · obtain rfl : j = R.length := by omega
          have hljc : ((R.length : Int) < (R.length : Int)) = False := eq_false (by omega)
          have HF : Hid (endedL (sortedC [] (allB ins)) = endedL (R.take R.length)) := Lib.hid (by
            have e0 : sortedC [] (allB ins) = sortB (allB ins) := if_neg (by decide)
            rw [e0, List.take_length, HIS.out])
          go_wp2
          go_ret
          exact ⟨by rw [HF.out]; rfl, HBi.out.trans (HBj.out.mono hz0)⟩

set_option maxRecDepth 100000 in
set_option maxHeartbeats 4000000 in
theorem msort_once (v : Value) (ins : List (List UInt8)) (w : World) (hr : Reads w v (ins.map str)) (h8 : ins.length ≤ 8) (hx : ∀ s ∈ ins, s.length ≤ 10000) :
    Calls Tryz.prog 54 #[str [115, 111, 114, 116], str onceB, v] w fun e w' => e = .returned (str (endedL (sortedC onceB (allB ins)))) ∧ Below w.heap.size w w' := by
  have hle := hr.le
  obtain ⟨a, cap, rfl, -, -⟩ := id hr
  simp only [List.length_map] at *
  have HR := Lib.hid hr
  have HX := Lib.hid hx
  have HA : Hid (∀ k, (allB (ins.take k)).length ≤ 10001 * 8) := Lib.hid (fun k => by
    have h1 := allB_len (ins := ins.take k) (fun s hs => hx s (List.mem_of_mem_take hs))
    have h2 : (ins.take k).length ≤ 8 := by rw [List.length_take]; omega
    omega)
  have HE : Hid ((endedL (allB ins)).length ≤ 10001 * 8) := Lib.hid (by
    have h3 := ended_all ins
    have h4 : ∀ {l : List (List UInt8)}, (∀ s ∈ l, s.length ≤ 10000) → (l.map fun s => s.length + 1).sum ≤ 10001 * l.length := by
      intro l
      induction l with
      | nil => intro _; simp
      | cons s l ih =>
        intro hq
        have a1 := hq s List.mem_cons_self
        have a2 := ih (fun q hq' => hq q (List.mem_cons_of_mem _ hq'))
        simp only [List.map_cons, List.sum_cons, List.length_cons]
        omega
    have h5 := h4 hx
    omega)
  clear hr hx
  go_enter Tryz.func54, Tryz.ntmps54
  go_wp2_with fail
  go_loopw [14, 15] (fun lv iv wl => ∃ (i : Nat) (R : List (List UInt8)), i ≤ ins.length ∧ iv = .int .i64 i ∧ wl.ownsRow w.heap.size 9 1 lv R.length (R.map str) ∧ R.Pairwise (· ≤ ·) ∧ R.Perm (allB (ins.take i)) ∧ Below w.heap.size w wl) (fun _ iv _ => ins.length - (intOf iv).toNat)
  case atStart => exact ⟨0, [], by omega, rfl, World.ownsRow_nil _ _ _ _, List.Pairwise.nil, List.Perm.nil, Below.refl _ _⟩
  case round =>
    obtain ⟨i, R, hi, rfl, hown, hsort, hperm, hbi⟩ := hrel
    obtain ⟨W0, hW0⟩ : ∃ W, W = wr := ⟨_, rfl⟩
    rw [← hW0] at hown hbi
    have HO := Lib.hid hown
    have HS := Lib.hid hsort
    have HP := Lib.hid hperm
    have HBi := Lib.hid hbi
    have hz0 := hbi.size
    clear hown hsort hperm hbi
    by_cases hlt : i < ins.length
    · obtain ⟨b, o, hix, hce⟩ := (HR.out.below0 HBi.out).at (P := Tryz.prog) Tryz.underlying39 (by kernel_rfl) i (by simpa using hlt)
      simp only [List.getElem_map] at hce
      have hlc : ((i : Int) < (ins.length : Int)) = True := eq_true (by omega)
      have HN1 : Hid (allB (ins.take (i + 1)) = allB (ins.take i) ++ linesB ins[i]) := Lib.hid (by rw [List.take_succ_eq_append_getElem hlt, allB_snoc])
      have hsl := HX.out ins[i] (List.getElem_mem _)
      have hll := linesB_len ins[i]
      have hai := HA.out i
      have KL := Lib.hid (linesOf_any ins[i] W0 (by omega))
      rw [hW0] at hce
      generalize ins[i] = s at *
      generalize linesB s = L at *
      go_wp2_with fail
      rw [← hW0]
      refine KL.out.mono ?_
      rintro e w2 ⟨vl, rfl, hol, hb2⟩
      have HRL := Lib.hid (ownsRow_reads hol)
      obtain ⟨al, cl, rfl, -, -⟩ := id HRL.out
      have HO2 := Lib.hid (ownsRow_fr (S := fun _ => False) HO.out (Fr.of_below hb2) (fun k hk => ⟨(HO.out.lt k hk).2, id⟩))
      have HB2 := Lib.hid (HBi.out.trans (hb2.mono hz0))
      have hz2 := HB2.out.size
      clear hol hb2 hce KL
      simp only [List.length_map] at *
      go_wp2_with fail
      go_loopw [14, 17] (fun lv kv wl => ∃ (k : Nat) (R2 : List (List UInt8)), k ≤ L.length ∧ kv = .int .i64 k ∧ wl.ownsRow w.heap.size 9 1 lv R2.length (R2.map str) ∧ R2.Pairwise (· ≤ ·) ∧ R2.Perm (allB (ins.take i) ++ L.take k) ∧ Below w2.heap.size w2 wl) (fun _ kv _ => L.length - (intOf kv).toNat)
      case atStart => exact ⟨0, R, by omega, rfl, HO2.out, HS.out, by simpa using HP.out, Below.refl _ _⟩
      case round =>
        obtain ⟨k, R2, hk, rfl, hown, hsort, hperm, hbk⟩ := hrel
        have hR2 : R2.length ≤ 1000000 := by
          have := hperm.length_eq
          rw [List.length_append, List.length_take] at this
          omega
        have HOk := Lib.hid hown
        have HSk := Lib.hid hsort
        have HPk := Lib.hid hperm
        have HBk := Lib.hid hbk
        have hzk := hbk.size
        clear hown hsort hperm hbk
        by_cases hlk : k < L.length
        · obtain ⟨b3, o3, hix3, hce3⟩ := (HRL.out.below0 HBk.out).at (P := Tryz.prog) Tryz.underlying39 (by kernel_rfl) k (by simpa using hlk)
          simp only [List.getElem_map] at hce3
          have hlkc : ((k : Int) < (L.length : Int)) = True := eq_true (by omega)
          have HPN : Hid (∀ R3 : List (List UInt8), R3.Perm (L[k] :: R2) → R3.Perm (allB (ins.take i) ++ L.take (k + 1))) := Lib.hid (fun R3 h => by
            rw [List.take_succ_eq_append_getElem hlk, ← List.append_assoc]
            exact (h.trans (List.Perm.cons _ HPk.out)).trans (List.perm_append_singleton _ _).symm)
          have KY := Lib.hid (lay_any L[k] R2 _ w.heap.size wr HOk.out (by omega) hR2)
          generalize L[k] = x at *
          go_wp2_with fail
          refine KY.out.mono ?_
          rintro e w3 ⟨v3, rfl, ho3, hb3⟩
          have HO3 := Lib.hid ho3
          have HB3 := Lib.hid (HBk.out.trans (hb3.mono hzk))
          clear ho3 hb3
          go_wp2
          go_roundw
          case rel => exact ⟨k + 1, layB R2 x, by omega, by go_num, HO3.out, layB_sorted x HSk.out, HPN.out _ (layB_perm R2 x), HB3.out⟩
          case measure => simp [intOf]; omega
        · obtain rfl : k = L.length := by omega
          have hlkc : ((L.length : Int) < (L.length : Int)) = False := eq_false (by omega)
          have HPF : Hid (R2.Perm (allB (ins.take (i + 1)))) := Lib.hid (by
            have := HPk.out
            rw [List.take_length] at this
            rw [HN1.out]
            exact this)
          go_wp2
          go_roundw
          case rel => exact ⟨i + 1, R2, by omega, by go_num, HOk.out, HSk.out, HPF.out, HB2.out.trans (HBk.out.mono hz2)⟩
          case measure => simp [intOf]; omega
    · obtain rfl : i = ins.length := by omega
      have hlc : ((ins.length : Int) < (ins.length : Int)) = False := eq_false (by omega)
      have HIS : Hid (R = sortB (allB ins)) := Lib.hid (by
        have := HP.out
        rw [List.take_length] at this
        exact sorted_is HS.out this)
      have HEL : Hid (∀ x ∈ R, x.length ≤ 10001 * 8) := Lib.hid (fun x hx => by
        have h1 := endedL_mem hx
        rw [HIS.out, endedL_perm (sortB_perm _)] at h1
        have h2 := HE.out
        omega)
      have HRE : Hid ((endedL R).length ≤ 10001 * 8) := Lib.hid (by rw [HIS.out, endedL_perm (sortB_perm _)]; exact HE.out)
      have HRR := Lib.hid (ownsRow_reads HO.out)
      obtain ⟨ar, cr, rfl, -, -⟩ := id HRR.out
      have hRl := endedL_count R
      have hRE := HRE.out
      simp only [List.length_map] at *
      rw [← hW0]
      go_wp2_with fail
      go_loopw [7, 18] (fun ov iv wl => ∃ j : Nat, j ≤ R.length ∧ iv = .int .i64 j ∧ ov = str (endedL (Lib.compactUpTo R.toArray j)) ∧ Below W0.heap.size W0 wl) (fun _ iv _ => R.length - (intOf iv).toNat)
      case atStart => exact ⟨0, by omega, rfl, by simp [Lib.compactUpTo, endedL], (by rw [hW0]; exact Below.refl _ _)⟩
      case round =>
        obtain ⟨j, hj, rfl, rfl, hbj⟩ := hrel
        have HBj := Lib.hid hbj
        clear hbj
        by_cases hlj : j < R.length
        · obtain ⟨b3, o3, hix3, hce3⟩ := (HRR.out.below0 HBj.out).at (P := Tryz.prog) Tryz.underlying39 (by kernel_rfl) j (by simpa using hlj)
          simp only [List.getElem_map] at hce3
          have hljc : ((j : Int) < (R.length : Int)) = True := eq_true (by omega)
          have hs := HEL.out R[j] (List.getElem_mem _)
          have hol : (endedL (Lib.compactUpTo R.toArray j)).length ≤ 10001 * 8 := Nat.le_trans (compact_upto R j (by omega)) (Nat.le_trans (endedL_take R j) hRE)
          by_cases hj0 : j = 0
          · have hz0c : ((j : Int) == 0) = true := by rw [hj0]; rfl
            have HN : Hid (endedL (Lib.compactUpTo R.toArray (j + 1)) = endedL (Lib.compactUpTo R.toArray j) ++ (R[j] ++ [10])) := Lib.hid (by rw [upto_keep hlj (Or.inl hj0), endedL_snoc])
            clear hj0
            generalize R[j] = x at *
            generalize endedL (Lib.compactUpTo R.toArray j) = out at *
            have hz1 : ¬ 9223372036854775807 < out.length + x.length := by omega
            have hz2 : ¬ 9223372036854775807 < out.length + x.length + 1 := by omega
            go_wp2_with fail
            go_quiet (fail)
            go_wp2
            go_roundw
            case rel => exact ⟨j + 1, by omega, by go_num, by rw [HN.out]; simp [str_app], by first | exact HBj.out | exact below_drewN HBj.out _⟩
            case measure => simp [intOf]; omega
          · obtain ⟨q, rfl⟩ : ∃ q, j = q + 1 := ⟨j - 1, by omega⟩
            have hz0c : ((q : Int) + 1 == 0) = false := by rw [beq_eq_false_iff_ne]; omega
            obtain ⟨b4, o4, hix4, hce4⟩ := (HRR.out.below0 HBj.out).at (P := Tryz.prog) Tryz.underlying39 (by kernel_rfl) q (by simp; omega)
            simp only [List.getElem_map] at hce4
            have hix31 : ∀ w', (Instr.indexAt 39 (.slice ar R.length cr) (.int .i64 ((q : Int) + 1))).run Tryz.prog w' = .ok (.pointer (some ⟨b3, o3, none⟩)) w' := hix3
            have hsub : (q : Int) + 1 - 1 = (q : Int) := by omega
            have hw1 : IntKind.i64.wrap ((q : Int) + 1 - 1) = (q : Int) := by rw [hsub]; exact IntWalk.i64_in _ (by omega)
            have hw2 : IntKind.i64.wrap (q : Int) = (q : Int) := IntWalk.i64_in _ (by omega)
            by_cases heq : R[q + 1] = R[q]
            · have hd : (R[q + 1] == R[q]) = true := by simpa using heq
              have HN : Hid (endedL (Lib.compactUpTo R.toArray (q + 1 + 1)) = endedL (Lib.compactUpTo R.toArray (q + 1))) := Lib.hid (by rw [upto_skip hlj heq])
              clear heq hj0
              generalize R[q + 1] = x at *
              generalize R[q] = y at *
              generalize endedL (Lib.compactUpTo R.toArray (q + 1)) = out at *
              go_wp2_with fail
              go_quiet (fail)
              go_wp2
              go_roundw
              case rel => exact ⟨q + 1 + 1, by omega, by go_num, by rw [HN.out], by first | exact HBj.out | exact below_drewN HBj.out _⟩
              case measure => simp [intOf]; omega
            · have hd : (R[q + 1] == R[q]) = false := by simpa using heq
              have HN : Hid (endedL (Lib.compactUpTo R.toArray (q + 1 + 1)) = endedL (Lib.compactUpTo R.toArray (q + 1)) ++ (R[q + 1] ++ [10])) := Lib.hid (by rw [upto_keep hlj (Or.inr (fun _ => by simpa using heq)), endedL_snoc])
              clear heq hj0
              generalize R[q + 1] = x at *
              generalize R[q] = y at *
              generalize endedL (Lib.compactUpTo R.toArray (q + 1)) = out at *
              have hz1 : ¬ 9223372036854775807 < out.length + x.length := by omega
              have hz2 : ¬ 9223372036854775807 < out.length + x.length + 1 := by omega
              go_wp2_with fail
              go_quiet (fail)
              go_wp2
              go_roundw
              case rel => exact ⟨q + 1 + 1, by omega, by go_num, by rw [HN.out]; simp [str_app], by first | exact HBj.out | exact below_drewN HBj.out _⟩
              case measure => simp [intOf]; omega
        · obtain rfl : j = R.length := by omega
          have hljc : ((R.length : Int) < (R.length : Int)) = False := eq_false (by omega)
          have HF : Hid (endedL (sortedC onceB (allB ins)) = endedL (Lib.compactUpTo R.toArray R.length)) := Lib.hid (by
            have e0 : sortedC onceB (allB ins) = Lib.compact (sortB (allB ins)) := if_pos rfl
            rw [e0, ← HIS.out]
            rfl)
          go_wp2
          go_ret
          exact ⟨by rw [HF.out]; rfl, HBi.out.trans (HBj.out.mono hz0)⟩
end Go.Proofs.YtmkpeopebddnjaaGreatDoor
