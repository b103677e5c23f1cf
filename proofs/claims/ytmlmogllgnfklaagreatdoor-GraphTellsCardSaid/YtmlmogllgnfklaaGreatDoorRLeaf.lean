/-
  The reference: LeavesOf.
-/
import Derived.Test.YtmlmogllgnfklaaGreatDoorMadeF
import Derived.Test.YtmlmogllgnfklaaGreatDoorGraphP
import Derived.Test.YtmlmogllgnfklaaGreatDoorGAid
namespace Go.Proofs.YtmlmogllgnfklaaGreatDoor
open Go Go.RowKit Go.Kf Go.Sort Go.Proofs

/-- The leaves laid so far. -/
structure LvSt (X M : List (List UInt8)) : Prop where
  nd : M.Nodup
  sort : M.Pairwise (· ≤ ·)
  mem : ∀ s, s ∈ M ↔ s ∈ X
theorem LvSt.zero : LvSt [] [] := ⟨List.nodup_nil, List.Pairwise.nil, fun _ => Iff.rfl⟩
theorem LvSt.lay {X M : List (List UInt8)} {s : List UInt8} (h : LvSt X M) (hs : s ∉ M) : LvSt (X ++ [s]) (layB M s) := by
  have hp := layB_perm M s
  refine ⟨(hp.nodup_iff).2 (List.nodup_cons.2 ⟨hs, h.nd⟩), layB_sorted s h.sort, fun t => ?_⟩
  rw [hp.mem_iff, List.mem_cons, List.mem_append, List.mem_singleton, h.mem]
  exact ⟨fun q => q.elim Or.inr Or.inl, fun q => q.elim Or.inr Or.inl⟩
theorem LvSt.skip {X M : List (List UInt8)} {s : List UInt8} (h : LvSt X M) (hs : s ∈ M) : LvSt (X ++ [s]) M := by
  refine ⟨h.nd, h.sort, fun t => ?_⟩
  rw [List.mem_append, List.mem_singleton, h.mem]
  exact ⟨Or.inl, fun q => q.elim id (fun e => e ▸ (h.mem s).1 hs)⟩
theorem LvSt.len {X M : List (List UInt8)} (h : LvSt X M) : M.length ≤ X.length := nodup_sub M X h.nd (fun s hs => (h.mem s).1 hs)
theorem mem_compactB {l : List (List UInt8)} {s : List UInt8} (h : s ∈ l) : s ∈ Lib.compact l := by
  have hin : ∀ j (hj : j < l.length), Lib.keeps l.toArray j = true → l[j] ∈ Lib.compact l := fun j hj hk =>
    List.mem_map.2 ⟨j, List.mem_filter.2 ⟨List.mem_range.2 hj, hk⟩, by rw [getElem!_pos l.toArray j (by simpa using hj)]; simp⟩
  have key : ∀ j (hj : j < l.length), l[j] ∈ Lib.compact l := by
    intro j
    induction j with
    | zero => exact fun hj => hin 0 hj (Lib.keeps_lt_one _ 0 (by omega))
    | succ j ih =>
      intro hj
      by_cases hk : Lib.keeps l.toArray (j + 1) = true
      · exact hin _ hj hk
      · have e : l[j + 1] = l[j] := by
          unfold Lib.keeps at hk
          rw [getElem!_pos l.toArray (j + 1) (by simpa using hj), getElem!_pos l.toArray (j + 1 - 1) (by simp; omega)] at hk
          simpa using hk
        rw [e]
        exact ih (by omega)
  obtain ⟨j, hj, rfl⟩ := List.mem_iff_getElem.1 h
  exact key j hj
theorem LvSt.leaves {l : List RuleL} {M : List (List UInt8)} (h : LvSt (looseAll (l.map RuleL.out) l) M) : M = leavesB l := by
  have hr := leaves_rise l
  have hn : (leavesB l).Nodup := hr.imp (fun hab => hab.2)
  refine List.Perm.eq_of_pairwise (le := fun a b => decide (a ≤ b) = true) (fun a b _ _ h1 h2 => ?_) (h.sort.imp (fun hab => by simpa using hab)) (hr.imp (fun hab => by simpa using hab.1)) ((List.perm_ext_iff_of_nodup h.nd hn).2 (fun s => ?_))
  · exact List.le_antisymm (by simpa using h1) (by simpa using h2)
  · rw [h.mem]
    unfold leavesB
    constructor
    · intro hs
      exact mem_compactB ((sortB_perm _).mem_iff.2 hs)
    · intro hs
      exact (sortB_perm _).mem_iff.1 (compact_mem hs)
/-- Is it made? -/
def madeB (l : List RuleL) (s : List UInt8) (j : Nat) : Bool := (l.take j).any fun r => r.out == s
theorem madeB_succ {l : List RuleL} {s : List UInt8} {j : Nat} (h : j < l.length) : madeB l s (j + 1) = (madeB l s j || (l[j].out == s)) := by
  unfold madeB
  rw [List.take_succ_eq_append_getElem h, List.any_append]
  simp
theorem madeB_all (l : List RuleL) (s : List UInt8) : madeB l s l.length = (l.map RuleL.out).contains s := by
  unfold madeB
  rw [List.take_length, Bool.eq_iff_iff, List.any_eq_true, List.contains_iff_mem, List.mem_map]
  constructor
  · rintro ⟨r, hr, e⟩
    exact ⟨r, hr, by simpa using e⟩
  · rintro ⟨r, hr, e⟩
    exact ⟨r, hr, by simpa using e⟩

set_option maxRecDepth 100000 in
set_option maxHeartbeats 4000000 in
theorem leavesOf_any (R : List RV) (v : Value) (w : World) (hr : ReadsK 4 w v (R.map rvRow)) (hx : ∀ x ∈ R, Reads w x.2 (x.1.ins.map str)) (hn : R.length ≤ 100) (hi : ∀ x ∈ R, x.1.ins.length ≤ 1000) :
    Calls Tryz.prog 35 #[v] w fun e w' => ∃ u, e = .returned u ∧ w'.ownsRow w.heap.size 9 1 u (leavesB (R.map Prod.fst)).length ((leavesB (R.map Prod.fst)).map str) ∧ Below w.heap.size w w' := by
  have hrow : ∀ r ∈ R.map rvRow, r ≠ [] := fun r hr => by obtain ⟨x, -, rfl⟩ := List.mem_map.1 hr; simp [rvRow]
  obtain ⟨a, c, hv, hle, -⟩ := id hr
  rw [List.length_map] at hv hle
  subst hv
  have HRK := Lib.hid (fun wl (hb : Below w.heap.size w wl) => readsK_below0 hr hrow hb)
  have HI := Lib.hid (fun wl (hb : Below w.heap.size w wl) x (h : x ∈ R) => (hx x h).below0 hb)
  obtain ⟨L, hL⟩ : ∃ L, R.map Prod.fst = L := ⟨_, rfl⟩
  have hLn : L.length = R.length := by rw [← hL]; simp
  have hLR : ∀ i (h : i < R.length) (h2 : i < L.length), R[i].1 = L[i] := fun i h h2 => by simp only [← hL, List.getElem_map]
  obtain ⟨OUTS, hOUTS⟩ : ∃ o, L.map RuleL.out = o := ⟨_, rfl⟩
  have HLEN : Hid (∀ i k r, L[i]? = some r → (looseAll OUTS (L.take i) ++ looseB OUTS (r.ins.take k)).length ≤ 200000) := Lib.hid (fun i k r hri => by
    have hmem : ∀ r ∈ L, r.ins.length ≤ 1000 := fun r hr => by
      rw [← hL] at hr
      obtain ⟨x, hx, rfl⟩ := List.mem_map.1 hr
      exact hi x hx
    have h1 := loose_len OUTS (l := L.take i) (fun r hr => hmem r (List.mem_of_mem_take hr))
    have h2 : (looseB OUTS (r.ins.take k)).length ≤ (r.ins.take k).length := List.length_filter_le _ _
    have h3 := hmem r (List.mem_of_getElem? hri)
    rw [List.length_take] at h1 h2
    rw [List.length_append]
    have : 1000 * min i L.length ≤ 1000 * 100 := Nat.mul_le_mul_left _ (by omega)
    omega)
  have HIB : Hid (∀ i (h : i < L.length), L[i].ins.length ≤ 1000) := Lib.hid (fun i h => by
    obtain ⟨x, hx, e⟩ := List.mem_map.1 (show L[i] ∈ R.map Prod.fst by rw [hL]; exact List.getElem_mem h)
    have := hi x hx
    rw [e] at this
    exact this)
  rw [hL]
  have HLN := Lib.hid hLn
  have HLR := Lib.hid hLR
  have HOUTS := Lib.hid hOUTS
  clear hr hx hL hLn hLR hrow hOUTS hi
  go_enter Tryz.func35, Tryz.ntmps35
  go_wp2_with fail
  go_loopw [3, 4] (fun ov iv wl => ∃ (i : Nat) (M : List (List UInt8)), i ≤ R.length ∧ iv = .int .i64 i ∧ LvSt (looseAll OUTS (L.take i)) M ∧ wl.ownsRow w.heap.size 9 1 ov M.length (M.map str) ∧ Below w.heap.size w wl) (fun _ iv _ => R.length - (intOf iv).toNat)
  case atStart => exact ⟨0, [], by omega, rfl, LvSt.zero, World.ownsRow_nil _ _ _ _, Below.refl _ _⟩
  case round =>
    obtain ⟨i, M, hi, rfl, hlv, hown, hbi⟩ := hrel
    have HLV := Lib.hid hlv
    have HOW := Lib.hid hown
    have HBI := Lib.hid hbi
    by_cases hlt : i < R.length
    · have hlc : ((i : Int) < (R.length : Int)) = True := eq_true (by omega)
      have hiL : i < L.length := by rw [HLN.out]; exact hlt
      have HTK : Hid (looseAll OUTS (L.take (i + 1)) = looseAll OUTS (L.take i) ++ looseB OUTS L[i].ins) := Lib.hid (by rw [List.take_succ_eq_append_getElem hiL, looseAll_snoc])
      have HIN : Hid (∀ wl, Below w.heap.size w wl → ∃ b o u, (∀ w', (Instr.indexAt 22 (.slice a R.length c) (.int .i64 (i : Int))).run Tryz.prog w' = .ok (.pointer (some ⟨b, o, none⟩)) w') ∧ wl.cell? ⟨b, o + 3, none⟩ = some u ∧ Reads wl u (L[i].ins.map str)) := Lib.hid (fun wl hb => by
        obtain ⟨b, o, h1, -, h2⟩ := (HRK.out wl hb).at (P := Tryz.prog) Tryz.underlying22 (by kernel_rfl) i (by simpa using hlt)
        simp only [List.getElem_map] at h2
        refine ⟨b, o, _, h1, h2 3 _ rfl, ?_⟩
        have h3 := HI.out wl hb _ (List.getElem_mem hlt)
        rw [HLR.out i hlt hiL] at h3
        exact h3)
      have HLE : Hid (∀ k, (looseAll OUTS (L.take i) ++ looseB OUTS (L[i].ins.take k)).length ≤ 200000) := Lib.hid (fun k => HLEN.out i k _ (List.getElem?_eq_getElem hiL))
      have hil := HIB.out i hiL
      generalize L[i].ins = ins at *
      clear hlv hown hbi
      have hcl := HIN.out _ HBI.out
      obtain ⟨bi, oi, u, hixi, hci, hru⟩ := hcl
      obtain ⟨au, cu, hu, -, -⟩ := id hru
      rw [List.length_map] at hu
      clear hixi hci hru hu au cu u bi oi
      go_wp2_with fail
      go_loopw [3, 5] (fun ov kv wl => ∃ (k : Nat) (M : List (List UInt8)), k ≤ ins.length ∧ kv = .int .i64 k ∧ LvSt (looseAll OUTS (L.take i) ++ looseB OUTS (ins.take k)) M ∧ wl.ownsRow w.heap.size 9 1 ov M.length (M.map str) ∧ Below w.heap.size w wl) (fun _ kv _ => ins.length - (intOf kv).toNat)
      case atStart => exact ⟨0, M, by omega, rfl, by simpa [looseB] using HLV.out, HOW.out, HBI.out⟩
      case round =>
        obtain ⟨k, M1, hk, rfl, hlv, hown, hbk⟩ := hrel
        have HLV := Lib.hid hlv
        have HOW := Lib.hid hown
        have HBK := Lib.hid hbk
        obtain ⟨bi, oi, u, hixi, hci, hru⟩ := HIN.out _ hbk
        obtain ⟨au, cu, hu, -, -⟩ := id hru
        rw [List.length_map] at hu
        subst hu
        by_cases hlk : k < ins.length
        · have hlc2 : ((k : Int) < (ins.length : Int)) = True := eq_true (by omega)
          obtain ⟨b2, o2, hix2, hc2⟩ := hru.at (P := Tryz.prog) Tryz.underlying25 (by kernel_rfl) k (by simpa using hlk)
          simp only [List.getElem_map] at hc2
          have HTS : Hid (looseB OUTS (ins.take (k + 1)) = looseB OUTS (ins.take k) ++ if OUTS.contains ins[k] then [] else [ins[k]]) := Lib.hid (by rw [List.take_succ_eq_append_getElem hlk, looseB_snoc])
          generalize ins[k] = s at *
          clear hlv hown hbk hru
          go_wp2_with fail
          clear hixi hci hix2 hc2
          obtain ⟨W8, rfl⟩ : ∃ W, W = wr := ⟨_, rfl⟩
          go_loopw [7, 8] (fun mv jv wl => ∃ j : Nat, j ≤ R.length ∧ jv = .int .i64 j ∧ mv = .bool (madeB L s j) ∧ wl = W8) (fun _ jv _ => R.length - (intOf jv).toNat)
          case atStart => exact ⟨0, by omega, rfl, rfl, rfl⟩
          case round =>
            obtain ⟨j, hj, rfl, rfl, rfl⟩ := hrel
            by_cases hlj : j < R.length
            · have hlc3 : ((j : Int) < (R.length : Int)) = True := eq_true (by omega)
              have hjL : j < L.length := by rw [HLN.out]; exact hlj
              obtain ⟨bj, oj, hixj, -, hcej⟩ := (HRK.out _ HBK.out).at (P := Tryz.prog) Tryz.underlying22 (by kernel_rfl) j (by simpa using hlj)
              simp only [List.getElem_map] at hcej
              have hcj := hcej 0 _ rfl
              simp only [Nat.add_zero] at hcj
              rw [HLR.out j hlj hjL] at hcj
              have HMS := Lib.hid (madeB_succ (s := s) hjL)
              clear hcej
              cases hb : L[j].out == s with
              | true =>
                rw [hb] at HMS
                have HM1 : Hid (madeB L s (j + 1) = true) := Lib.hid (by rw [HMS.out]; simp)
                clear HMS
                generalize L[j].out = x at *
                generalize madeB L s j = mb at *
                go_wp2
                go_roundw
                case rel => exact ⟨j + 1, by omega, by go_num, by rw [HM1.out], by first | rfl | trivial⟩
                case measure => simp [intOf]; omega
              | false =>
                rw [hb] at HMS
                have HM1 : Hid (madeB L s (j + 1) = madeB L s j) := Lib.hid (by rw [HMS.out]; simp)
                clear HMS
                generalize L[j].out = x at *
                go_wp2
                go_roundw
                case rel => exact ⟨j + 1, by omega, by go_num, by rw [HM1.out], by first | rfl | trivial⟩
                case measure => simp [intOf]; omega
            · obtain rfl : j = R.length := by omega
              have hlc3 : ((R.length : Int) < (R.length : Int)) = False := eq_false (by omega)
              have hmd := madeB_all L s
              rw [HOUTS.out, HLN.out] at hmd
              cases ho : OUTS.contains s with
              | true =>
                rw [ho] at hmd HTS
                have HT2 : Hid (looseB OUTS (ins.take (k + 1)) = looseB OUTS (ins.take k)) := Lib.hid (by rw [HTS.out]; simp)
                have hm2 := hmd
                clear HTS ho
                go_wp2
                go_roundw
                case rel => exact ⟨k + 1, M1, by omega, by go_num, by rw [HT2.out]; exact HLV.out, HOW.out, HBK.out⟩
                case measure => simp [intOf]; omega
              | false =>
                rw [ho] at hmd HTS
                have HT2 : Hid (looseB OUTS (ins.take (k + 1)) = looseB OUTS (ins.take k) ++ [s]) := Lib.hid (by rw [HTS.out]; simp)
                have hro := ownsRow_reads HOW.out
                have KI := Lib.hid (rindex_any s M1 _ wr hro)
                have hln : M1.length ≤ 200000 := by
                  have h1 := HLV.out.len
                  have h2 := HLE.out k
                  omega
                clear HTS ho hro
                by_cases hms : s ∈ M1
                · have hz : (idxL s M1 < 0) = False := eq_false (by have := idxL_mem s M1; rw [decide_eq_true hms] at this; have := of_decide_eq_true this; omega)
                  have HL3 : Hid (LvSt (looseAll OUTS (L.take i) ++ looseB OUTS (ins.take (k + 1))) M1) := Lib.hid (by rw [HT2.out, ← List.append_assoc]; exact HLV.out.skip hms)
                  clear hms
                  generalize idxL s M1 = z at *
                  go_wp2_with fail
                  refine KI.out.mono ?_
                  rintro e w9 ⟨rfl, rfl⟩
                  go_wp2
                  go_roundw
                  case rel => exact ⟨k + 1, M1, by omega, by go_num, HL3.out, HOW.out, HBK.out⟩
                  case measure => simp [intOf]; omega
                · have hz : (idxL s M1 < 0) = True := eq_true (by have := idxL_mem s M1; rw [decide_eq_false hms] at this; have := of_decide_eq_false this; omega)
                  have HL3 : Hid (LvSt (looseAll OUTS (L.take i) ++ looseB OUTS (ins.take (k + 1))) (layB M1 s)) := Lib.hid (by rw [HT2.out, ← List.append_assoc]; exact HLV.out.lay hms)
                  have KL := Lib.hid (lay_any s M1 _ w.heap.size wr HOW.out HBK.out.size (by omega))
                  clear hms
                  generalize idxL s M1 = z at *
                  go_wp2_with fail
                  refine KI.out.mono ?_
                  rintro e w9 ⟨rfl, rfl⟩
                  go_wp2_with fail
                  refine KL.out.mono ?_
                  rintro e w9 ⟨v', rfl, ho9, hb9⟩
                  have HO9 := Lib.hid ho9
                  have HB9 := Lib.hid (HBK.out.trans (hb9.mono HBK.out.size))
                  clear ho9 hb9
                  go_wp2
                  go_roundw
                  case rel => exact ⟨k + 1, layB M1 s, by omega, by go_num, HL3.out, HO9.out, HB9.out⟩
                  case measure => simp [intOf]; omega
        · obtain rfl : k = ins.length := by omega
          have hlc2 : ((ins.length : Int) < (ins.length : Int)) = False := eq_false (by omega)
          have HL2 : Hid (LvSt (looseAll OUTS (L.take (i + 1))) M1) := Lib.hid (by rw [HTK.out]; have h := HLV.out; rw [List.take_length] at h; exact h)
          clear hlv hown hbk hru
          go_wp2
          go_roundw
          case rel => exact ⟨i + 1, M1, by omega, by go_num, HL2.out, HOW.out, HBK.out⟩
          case measure => simp [intOf]; omega
    · obtain rfl : i = R.length := by omega
      have hlc : ((R.length : Int) < (R.length : Int)) = False := eq_false (by omega)
      have hl := hlv
      rw [← HLN.out, List.take_length, ← HOUTS.out] at hl
      obtain rfl := hl.leaves
      have HO := Lib.hid hown
      clear hlv hown hbi hl
      go_wp2
      go_ret
      exact ⟨_, rfl, HO.out, HBI.out⟩
end Go.Proofs.YtmlmogllgnfklaaGreatDoor
