/-
  The walk of the law TreeActs.
-/
import Derived.Test.YtmkpeopebddnjaaGreatDoorTreeS
namespace Go.Proofs.YtmkpeopebddnjaaGreatDoor
open Go Go.RowKit Go.Kf Go.Sort

abbrev ActL := List UInt8 × List UInt8 × List UInt8
abbrev actRow (a : ActL) : List Value := [str a.1, str a.2.1, str a.2.2]
theorem matchV_codeA (S : Nat → Addr) (p s : List UInt8) : matchV S p s = codeV S (matchN p s) := by
  unfold matchV matchN
  split <;> rfl
theorem matchN_leA (p s : List UInt8) : matchN p s ≤ 12 := by
  unfold matchN
  split <;> decide
theorem removeC_le (p : List UInt8) (m : List Ent) : removeC p m ≤ 12 := by unfold removeC; split <;> decide
theorem putC_le (p b : List UInt8) (m : List Ent) : putC p b m ≤ 12 := by
  unfold putC
  split
  · decide
  · split
    · decide
    · split
      · decide
      · split <;> decide
/-- What the reference's tree says of a path. -/
theorem Tw.found {m L : List Ent} (h : Tw m L) {p v : List UInt8} (hk : mlook p m = some v) : ∃ i : Nat, findN p L = (i : Int) ∧ ∃ hi : i < L.length, L[i].2 = v := by
  rw [h.look] at hk
  obtain ⟨i, hpl, hi, hp, -, -⟩ := mplace_of_look (L := L) (p := p) (by rw [hk]; rfl)
  refine ⟨i, by unfold findN; rw [hpl], hi, ?_⟩
  have hm : (p, L[i].2) ∈ L := by rw [← hp]; exact List.getElem_mem hi
  have := (mlook_iff h.nodup).2 hm
  rw [hk] at this
  exact (Option.some.inj this).symm
theorem Tw.lost {m L : List Ent} (h : Tw m L) {p : List UInt8} (hk : mlook p m = none) : findN p L = -1 := by
  rw [h.look] at hk
  unfold findN
  rw [mplace_of_none hk]

set_option maxRecDepth 100000 in
set_option maxHeartbeats 8000000 in
theorem treeActs_main (v : Value) (acts : List ActL) (w : World) (S : Nat → Addr) (hr : ReadsK 3 w v (acts.map actRow)) (hl : acts.length ≤ 80) (hm : Ml w) (hE : ErrW w S) (ht : Tab w) :
    Calls Tryz.prog 3 #[v] w fun e w' => e = .returned (.bool true) ∧ Below w.heap.size w w' := by
  obtain ⟨a, cap, rfl, -, -⟩ := id hr
  simp only [List.length_map] at *
  have K0 := Lib.hid (treed_any w S hm hE ht)
  have HM := Lib.hid hm
  have HE := Lib.hid hE
  have HT := Lib.hid ht
  have HR := Lib.hid hr
  clear hm hE ht hr
  go_enter Tryz.func3, Tryz.ntmps3
  go_wp2_with fail
  refine K0.out.mono ?_
  rintro e w1 ⟨rfl, hb1⟩
  have HB1 := Lib.hid hb1
  clear hb1
  go_wp2_with fail
  refine (new_tree w1).mono ?_
  rintro e w2 ⟨tb, mb, rfl, htb, hmb, hT2, hb2⟩
  have hs1 := HB1.out.size
  have hs2 := hb2.size
  have hst : Tc w.heap.size w (w2.alloc (.cells #[.slice none 0 0] 29)) tb mb w2.heap.size (.slice none 0 0) [] [] :=
    ⟨hT2.below ((Below.refl _ _).alloc (Nat.le_refl _) _), ⟨heap_alloc_here _ _, World.ownsRow_nil _ _ _ _, fun e => by cases e⟩, ⟨by omega, by omega, by omega⟩, (HB1.out.trans (hb2.mono hs1)).alloc (by omega) _⟩
  have HST := Lib.hid hst
  clear hst hT2 hb2
  go_wp2_with fail
  obtain ⟨rb, hrb⟩ : ∃ rb, w2.heap.size = rb := ⟨_, rfl⟩
  rw [hrb] at HST
  generalize w2.alloc (.cells #[.slice none 0 0] 29) = w2' at *
  simp only [hrb]
  clear htb hmb hs1 hs2 hrb
  go_loopw [6, 7] (fun nv iv wr => ∃ (z : Int) (i : Nat) (lv : Value) (m L : List Ent), nv = .int .i64 z ∧ iv = .int .i64 i ∧ i ≤ acts.length ∧ Tw m L ∧ Tc w.heap.size w wr tb mb rb lv m L) (fun _ iv _ => acts.length - (intOf iv).toNat)
  case atStart => exact ⟨0, 0, _, [], [], rfl, rfl, by omega, Tw.init, HST.out⟩
  case round =>
    obtain ⟨z, i, lv, m, L, rfl, rfl, hi, htw, hst⟩ := hrel
    have HTW := Lib.hid htw
    have HS0 := Lib.hid hst
    clear htw hst HST
    by_cases hlt : i < acts.length
    · obtain ⟨b, o, hix, -, hce⟩ := HR.out.at (P := Tryz.prog) Tryz.underlying22 (by kernel_rfl) i (by simpa using hlt)
      have hbw : b < w.heap.size := lt_of_cell (hce 0 _ (by simp [actRow]; rfl))
      obtain ⟨kd, p, c, hask⟩ : ∃ kd p c, acts[i] = (kd, p, c) := ⟨_, _, _, rfl⟩
      have k0 : wr.cell? ⟨b, o, none⟩ = some (str kd) := (HS0.out.b.cell (p := ⟨b, o, none⟩) hbw).trans (hce 0 _ (by simp [hask, actRow]))
      have k1 : wr.cell? ⟨b, o + 1, none⟩ = some (str p) := (HS0.out.b.cell (p := ⟨b, o + 1, none⟩) hbw).trans (hce 1 _ (by simp [hask, actRow]))
      have k2 : wr.cell? ⟨b, o + 2, none⟩ = some (str c) := (HS0.out.b.cell (p := ⟨b, o + 2, none⟩) hbw).trans (hce 2 _ (by simp [hask, actRow]))
      clear hce hask
      have HBA := Lib.hid ((Below.refl wr.heap.size wr).alloc (Nat.le_refl _) (.cells #[str kd, str p, str c] 31))
      have HSA := Lib.hid (HS0.out.below HBA.out)
      have HA := Lib.hid (heap_alloc_here wr (.cells #[str kd, str p, str c] 31))
      obtain ⟨ab, hab⟩ : ∃ ab, wr.heap.size = ab := ⟨_, rfl⟩
      have HNE : Hid (ab ≠ mb ∧ ab ≠ rb ∧ ¬ lv.ownBlock = some ab) := Lib.hid (by
        have l1 := HS0.out.t.lt.2
        have l2 := lt_of_heap HS0.out.r.blk
        exact ⟨by omega, by omega, fun e => by have := (HS0.out.r.row.lt ab e).2; omega⟩)
      obtain ⟨z2, hz2⟩ : ∃ z2, IntKind.i64.wrap (z + (c.length : Int)) = z2 := ⟨_, rfl⟩
      have hz3 : RowKit.wrap64 (z + (c.length : Int)) = z2 := by rw [← IntWalk.i64_left]; exact hz2
      by_cases hbad2 : 100 < p.length
      · go_wp2_with fail
        go_ret
        exact ⟨rfl, HSA.out.b⟩
      by_cases hbad : 10000 < z2
      · have hwn2 : ((10000 : Int) < z2) = True := by simpa using hbad
        go_wp2_with fail
        go_ret
        exact ⟨rfl, HSA.out.b⟩
      have hg1 : p.length ≤ 100 := by omega
      clear hbad2
      rw [hab] at HA
      obtain ⟨wa, hwa⟩ : ∃ wa, wr.alloc (.cells #[str kd, str p, str c] 31) = wa := ⟨_, rfl⟩
      rw [hwa] at HA HSA HBA
      have hza : wa.heap.size = ab + 1 := by rw [← hwa]; simp [hab]
      have HZA := Lib.hid hza
      have a0 : wa.cell? ⟨ab, 0, none⟩ = some (str kd) := (cell_of_heap HA.out 0).trans rfl
      have a1 : wa.cell? ⟨ab, 1, none⟩ = some (str p) := (cell_of_heap HA.out 1).trans rfl
      have a2 : wa.cell? ⟨ab, 2, none⟩ = some (str c) := (cell_of_heap HA.out 2).trans rfl
      have CELLS : Hid (∀ wq : World, wq.heap[ab]? = some (.cells #[str kd, str p, str c] 31 (0, 0)) → wq.cell? ⟨ab, 0, none⟩ = some (str kd) ∧ wq.cell? ⟨ab, 1, none⟩ = some (str p) ∧ wq.cell? ⟨ab, 2, none⟩ = some (str c)) := Lib.hid (fun wq h =>
        ⟨(cell_of_heap h 0).trans rfl, (cell_of_heap h 1).trans rfl, (cell_of_heap h 2).trans rfl⟩)
      clear hza HBA HS0
      by_cases hkp : kd = [112, 117, 116]
      · have hd0 : (kd == [112, 117, 116]) = true := by simpa using hkp
        obtain ⟨q, hq⟩ : ∃ q, putC p c L = q := ⟨_, rfl⟩
        have HQ : Hid (putC p c m = q ∧ q ≤ 12) := Lib.hid ⟨by rw [HTW.out.putC, hq], by rw [← hq]; exact putC_le _ _ _⟩
        have HQL := Lib.hid hq
        clear hq hkp
        go_wp2_with fail
        go_region_held3 (fun w' => w'.cell? ⟨ab, 0, none⟩ = some (str kd) ∧ w'.cell? ⟨ab, 1, none⟩ = some (str p) ∧ w'.cell? ⟨ab, 2, none⟩ = some (str c))
          (first | exact CELLS.out _ HA5.out | exact CELLS.out _ HA4.out | exact CELLS.out _ HA3.out | exact CELLS.out _ HA.out)
          (first
            | (go_at_call 12
               refine (put_tree tb mb m p c _ S (by first | exact HSA.out.t | exact (HSA.out.below (Below.refl _ _).drew).t) (by first | exact HM.out.below HSA.out.b (Nat.le_refl _) | exact HM.out.below HSA.out.b.drew (Nat.le_refl _)) (by first | exact HE.out.below HSA.out.b (Nat.le_refl _) | exact HE.out.below HSA.out.b.drew (Nat.le_refl _)) (by omega) (by have := HTW.out.many; omega) (fun y hy => by have := HTW.out.keyLen hy; omega)).mono ?_
               rintro e w3 ⟨rfl, hT3, hF3⟩
               rw [HQ.out.1]
               have HS3 : Hid (Tc w.heap.size w w3 tb mb rb lv (putM p c m) L) := Lib.hid (by first | exact HSA.out.tstep hT3 hF3 | exact (HSA.out.below (Below.refl _ _).drew).tstep hT3 hF3)
               have HA3 : Hid (w3.heap[ab]? = some (.cells #[str kd, str p, str c] 31 (0, 0))) := Lib.hid ((hF3.block ab (by have := HZA.out; first | omega | (simp; omega)) HNE.out.1).trans HA.out)
               clear hT3 hF3)
            | (go_at_call 13
               refine (rput_any w.heap.size rb lv L p c _ HS3.out.r HS3.out.hB (by have := HTW.out.many; have := HTW.out.len; omega) (by omega)).mono ?_
               rintro e w4 ⟨rfl, lv5, hR4, hF4, hl4⟩
               rw [HQL.out]
               have HS4 := Lib.hid (HS3.out.rstep hR4 hF4)
               have HA4 := Lib.hid (HS3.out.keep_r hF4 HA3.out HNE.out.2.1 HNE.out.2.2)
               clear hR4 hF4 hl4)
            | (go_at_call 11
               refine (coded_c q HQ.out.2 (HE.out.below HS4.out.b (Nat.le_refl _))).mono ?_
               rintro e w5 ⟨rfl, hb5⟩
               have HS5 := Lib.hid (HS4.out.below hb5)
               have HA5 : Hid (w5.heap[ab]? = some (.cells #[str kd, str p, str c] 31 (0, 0))) := Lib.hid ((hb5.block ab (lt_of_heap HA4.out)).trans HA4.out)
               clear hb5))
        all_goals
          have hst5 := HS5.out
          have hA5 := HA5.out
          have htw5 : Tw (putM p c m) (rputM p c L) := HTW.out.put hg1
          clear HS5 HA5 HS4 HA4 HS3 HA3 HQ HQL
          generalize putM p c m = m5 at *
          generalize rputM p c L = L5 at *
          clear a0 a1 a2 HA HSA HTW
          have HE5 := Lib.hid hst5
          have HW5 := Lib.hid htw5
          have HC5 := Lib.hid hA5
          clear hst5 htw5 hA5
          have b1 : w5.cell? ⟨ab, 1, none⟩ = some (str p) := (CELLS.out _ HC5.out).2.1
          go_wp2_with fail
          have KG := get_tree tb mb m5 p w5 HE5.out.t
          have KF := rfind_any w.heap.size rb lv5 L5 p w5 HE5.out.r
          cases hk : mlook p m5 with
          | none =>
            rw [hk] at KG
            rw [HW5.out.lost hk] at KF
            simp only [Option.getD_none, Option.isSome_none] at KG
            have KG := Lib.hid KG
            have KF := Lib.hid KF
            clear hk
            refine KG.out.mono ?_
            rintro e w6 ⟨rfl, rfl⟩
            go_wp2_with fail
            refine KF.out.mono ?_
            rintro e w6 ⟨rfl, rfl⟩
            go_wp2
            go_roundw
            case rel => exact ⟨z2, i + 1, lv5, m5, L5, rfl, by go_num, by omega, HW5.out, HE5.out⟩
            case measure => simp [intOf]; omega
          | some vv =>
            rw [hk] at KG
            obtain ⟨ii, hfi, hii, hvv⟩ := HW5.out.found hk
            rw [hfi] at KF
            simp only [Option.getD_some, Option.isSome_some] at KG
            have KG := Lib.hid KG
            have KF := Lib.hid KF
            have hrr := HE5.out.r.reads
            have c5 := HE5.out.r.cell
            obtain ⟨a5, cap5, rfl, -, -⟩ := id hrr
            simp only [List.length_map] at *
            obtain ⟨b5, o5, hix5, -, hce5⟩ := hrr.at (P := Tryz.prog) Tryz.underlying27 (by kernel_rfl) ii (by simpa using hii)
            have e5 : w5.cell? ⟨b5, o5 + 1, none⟩ = some (str vv) := by rw [← hvv]; exact hce5 1 _ (by simp)
            clear hk hfi hvv hce5 hrr
            refine KG.out.mono ?_
            rintro e w6 ⟨rfl, rfl⟩
            go_wp2_with fail
            refine KF.out.mono ?_
            rintro e w6 ⟨rfl, rfl⟩
            go_wp2
            go_roundw
            case rel => exact ⟨z2, i + 1, _, m5, L5, rfl, by go_num, by omega, HW5.out, HE5.out⟩
            case measure => simp [intOf]; omega
      by_cases hkr : kd = [114, 101, 109, 111, 118, 101]
      · have hd0 : (kd == [112, 117, 116]) = false := by rw [hkr]; rfl
        have hd1 : (kd == [114, 101, 109, 111, 118, 101]) = true := by simpa using hkr
        obtain ⟨q, hq⟩ : ∃ q, removeC p L = q := ⟨_, rfl⟩
        have HQ : Hid (removeC p m = q ∧ q ≤ 12) := Lib.hid ⟨by rw [HTW.out.removeC, hq], by rw [← hq]; exact removeC_le _ _⟩
        have HQL := Lib.hid hq
        clear hq hkr
        go_wp2_with fail
        go_region_held3 (fun w' => w'.cell? ⟨ab, 0, none⟩ = some (str kd) ∧ w'.cell? ⟨ab, 1, none⟩ = some (str p) ∧ w'.cell? ⟨ab, 2, none⟩ = some (str c))
          (first | exact CELLS.out _ HA5.out | exact CELLS.out _ HA4.out | exact CELLS.out _ HA3.out | exact CELLS.out _ HA.out)
          (first
            | (go_at_call 14
               refine (remove_tree tb mb m p _ S (by first | exact HSA.out.t | exact (HSA.out.below (Below.refl _ _).drew).t) (by first | exact HE.out.below HSA.out.b (Nat.le_refl _) | exact HE.out.below HSA.out.b.drew (Nat.le_refl _))).mono ?_
               rintro e w3 ⟨rfl, hT3, hF3⟩
               rw [HQ.out.1]
               have HS3 : Hid (Tc w.heap.size w w3 tb mb rb lv (mdel p m) L) := Lib.hid (by first | exact HSA.out.tstep hT3 hF3 | exact (HSA.out.below (Below.refl _ _).drew).tstep hT3 hF3)
               have HA3 : Hid (w3.heap[ab]? = some (.cells #[str kd, str p, str c] 31 (0, 0))) := Lib.hid ((hF3.block ab (by have := HZA.out; first | omega | (simp; omega)) HNE.out.1).trans HA.out)
               clear hT3 hF3)
            | (go_at_call 15
               refine (rremove_any w.heap.size rb lv L p _ HS3.out.r HS3.out.hB (by have := HTW.out.many; have := HTW.out.len; omega)).mono ?_
               rintro e w4 ⟨rfl, lv5, hR4, hF4, hl4⟩
               rw [HQL.out]
               have hF4' := hF4.mono (S' := fun k => k = rb ∨ lv.ownBlock = some k) (Nat.le_refl _) (fun _ _ h => Or.inl h)
               have HS4 := Lib.hid (HS3.out.rstep hR4 hF4')
               have HA4 := Lib.hid (HS3.out.keep_r hF4' HA3.out HNE.out.2.1 HNE.out.2.2)
               clear hR4 hF4 hF4' hl4)
            | (go_at_call 11
               refine (coded_c q HQ.out.2 (HE.out.below HS4.out.b (Nat.le_refl _))).mono ?_
               rintro e w5 ⟨rfl, hb5⟩
               have HS5 := Lib.hid (HS4.out.below hb5)
               have HA5 : Hid (w5.heap[ab]? = some (.cells #[str kd, str p, str c] 31 (0, 0))) := Lib.hid ((hb5.block ab (lt_of_heap HA4.out)).trans HA4.out)
               clear hb5))
        all_goals
          have hst5 := HS5.out
          have hA5 := HA5.out
          have htw5 : Tw (mdel p m) (mdel p L) := HTW.out.del p
          clear HS5 HA5 HS4 HA4 HS3 HA3 HQ HQL
          generalize mdel p m = m5 at *
          generalize mdel p L = L5 at *
          clear a0 a1 a2 HA HSA HTW
          have HE5 := Lib.hid hst5
          have HW5 := Lib.hid htw5
          have HC5 := Lib.hid hA5
          clear hst5 htw5 hA5
          have b1 : w5.cell? ⟨ab, 1, none⟩ = some (str p) := (CELLS.out _ HC5.out).2.1
          go_wp2_with fail
          have KG := get_tree tb mb m5 p w5 HE5.out.t
          have KF := rfind_any w.heap.size rb lv5 L5 p w5 HE5.out.r
          cases hk : mlook p m5 with
          | none =>
            rw [hk] at KG
            rw [HW5.out.lost hk] at KF
            simp only [Option.getD_none, Option.isSome_none] at KG
            have KG := Lib.hid KG
            have KF := Lib.hid KF
            clear hk
            refine KG.out.mono ?_
            rintro e w6 ⟨rfl, rfl⟩
            go_wp2_with fail
            refine KF.out.mono ?_
            rintro e w6 ⟨rfl, rfl⟩
            go_wp2
            go_roundw
            case rel => exact ⟨z2, i + 1, lv5, m5, L5, rfl, by go_num, by omega, HW5.out, HE5.out⟩
            case measure => simp [intOf]; omega
          | some vv =>
            rw [hk] at KG
            obtain ⟨ii, hfi, hii, hvv⟩ := HW5.out.found hk
            rw [hfi] at KF
            simp only [Option.getD_some, Option.isSome_some] at KG
            have KG := Lib.hid KG
            have KF := Lib.hid KF
            have hrr := HE5.out.r.reads
            have c5 := HE5.out.r.cell
            obtain ⟨a5, cap5, rfl, -, -⟩ := id hrr
            simp only [List.length_map] at *
            obtain ⟨b5, o5, hix5, -, hce5⟩ := hrr.at (P := Tryz.prog) Tryz.underlying27 (by kernel_rfl) ii (by simpa using hii)
            have e5 : w5.cell? ⟨b5, o5 + 1, none⟩ = some (str vv) := by rw [← hvv]; exact hce5 1 _ (by simp)
            clear hk hfi hvv hce5 hrr
            refine KG.out.mono ?_
            rintro e w6 ⟨rfl, rfl⟩
            go_wp2_with fail
            refine KF.out.mono ?_
            rintro e w6 ⟨rfl, rfl⟩
            go_wp2
            go_roundw
            case rel => exact ⟨z2, i + 1, _, m5, L5, rfl, by go_num, by omega, HW5.out, HE5.out⟩
            case measure => simp [intOf]; omega
      have hd0 : (kd == [112, 117, 116]) = false := by simpa using hkp
      have hd1 : (kd == [114, 101, 109, 111, 118, 101]) = false := by simpa using hkr
      clear hkp hkr
      have hL60 : L.length ≤ 60 := by have := HTW.out.many; have := HTW.out.len; omega
      have KG := glob_tree tb mb m p wa S HSA.out.t (HM.out.below HSA.out.b (Nat.le_refl _)) (HE.out.below HSA.out.b (Nat.le_refl _)) HTW.out.nodup' (by have := HTW.out.many; omega) (fun x hx => by have := HTW.out.keyLen hx; omega) (by omega)
      rw [HTW.out.keys] at KG
      have KM := fun w' => matchOf_any p [97] w' (by omega) (by decide)
      obtain ⟨q, hq⟩ : ∃ q, matchN p [97] = q := ⟨_, rfl⟩
      have HQ : Hid (matchV S p [97] = codeV S q ∧ q ≤ 12) := Lib.hid ⟨by rw [matchV_codeA, hq], by rw [← hq]; exact matchN_leA _ _⟩
      rw [HQ.out.1] at KG
      rw [hq] at KM
      obtain ⟨mv, hmv⟩ : ∃ mv, codeV S q = mv := ⟨_, rfl⟩
      rw [hmv] at KG
      have HMV := Lib.hid hmv
      have KG := Lib.hid KG
      have KM := Lib.hid KM
      have HQN : Hid ((noMatch p [97] = true → q = 4) ∧ (noMatch p [97] = false → q = 0)) := Lib.hid ⟨fun h => by rw [← hq]; unfold matchN; rw [if_pos h], fun h => by rw [← hq]; unfold matchN; rw [if_neg (by rw [h]; decide)]⟩
      clear hq hmv
      go_wp2_with fail
      refine KG.out.mono ?_
      rintro e w3 ⟨vx, rfl, hx3, hb3⟩
      have HX3 := Lib.hid hx3
      have HS3 := Lib.hid (HSA.out.below hb3)
      have HA3 : Hid (w3.heap[ab]? = some (.cells #[str kd, str p, str c] 31 (0, 0))) := Lib.hid ((hb3.block ab (lt_of_heap HA.out)).trans HA.out)
      have g1 : w3.cell? ⟨ab, 1, none⟩ = some (str p) := (CELLS.out _ HA3.out).2.1
      obtain ⟨ax, nx, cx, hvx⟩ : ∃ ax nx cx, vx = .slice ax nx cx := by
        rcases hx3.2 with ⟨hv, _⟩ | ⟨g, cap, cur, hv, _⟩
        · exact ⟨_, _, _, hv⟩
        · exact ⟨_, _, _, hv⟩
      clear hx3 hb3 KG a0 a1 a2
      subst hvx
      go_wp2_with fail
      refine (KM.out w3).mono ?_
      rintro e w4 ⟨rfl, hb4⟩
      have HX4 := Lib.hid (ownsRow_fr (S := fun _ => False) HX3.out (Fr.of_below hb4) (fun k hk => ⟨(HX3.out.lt k hk).2, id⟩))
      have HS4 := Lib.hid (HS3.out.below hb4)
      have HA4 : Hid (w4.heap[ab]? = some (.cells #[str kd, str p, str c] 31 (0, 0))) := Lib.hid ((hb4.block ab (lt_of_heap HA3.out)).trans HA3.out)
      clear hb4 g1 KM HS3 HA3 HX3
      have hrr := HS4.out.r.reads
      have c4 := HS4.out.r.cell
      obtain ⟨a4, cap4, hlv4, -, -⟩ := id hrr
      rw [List.length_map] at hlv4
      subst hlv4
      have HRR := Lib.hid hrr
      have hkn : (ksOf L).length = L.length := List.length_map _
      have HTY : Hid (∀ wq, Below w4.heap.size w4 wq → Tc w.heap.size w wq tb mb rb (.slice a4 L.length cap4) m L) := Lib.hid (fun wq h => HS4.out.below h)
      clear hrr
      cases hnm : noMatch p [97] with
      | true =>
        have hq4 := HQN.out.1 hnm
        have hg0 : globL p (ksOf L) = [] := by unfold globL; rw [if_pos hnm]
        rw [hg0] at HX4
        subst hq4
        clear hnm hg0
        go_wp2_with fail
        go_loopw [13, 14] (fun want kv wl => want = .slice none 0 0 ∧ kv = .int .i64 0 ∧ wl = w4) (fun _ _ _ => 0)
        case atStart => exact ⟨rfl, rfl, rfl⟩
        case round =>
          obtain ⟨rfl, rfl, rfl⟩ := hrel
          have c1 := coded_c 4 (by decide) (HE.out.below HS4.out.b (Nat.le_refl _))
          rw [HMV.out, show ((4 : Nat) : Int) = 4 from rfl] at c1
          have C1 := Lib.hid c1
          clear c1
          by_cases hL0 : L.length = 0
          · go_wp2_with fail
            refine C1.out.mono ?_
            rintro e w5 ⟨rfl, hb5⟩
            have HS5 := Lib.hid (HS4.out.below hb5)
            have HA5 : Hid (w5.heap[ab]? = some (.cells #[str kd, str p, str c] 31 (0, 0))) := Lib.hid ((hb5.block ab (lt_of_heap HA4.out)).trans HA4.out)
            have KT := Lib.hid (sameTexts0 (.slice ax nx cx) (.slice none 0 0) [] [] w5 (ownsRow_reads (ownsRow_fr (S := fun _ => False) HX4.out (Fr.of_below hb5) (fun k hk => ⟨(HX4.out.lt k hk).2, id⟩))) (ownsRow_reads (World.ownsRow_nil w5 0 9 1)))
            clear hb5
            go_wp2_with fail
            refine KT.out.mono ?_
            rintro e w8 ⟨rfl, hb8⟩
            have hst5 := HS5.out.below hb8
            have hA5 : w8.heap[ab]? = some (.cells #[str kd, str p, str c] 31 (0, 0)) := (hb8.block ab (lt_of_heap HA5.out)).trans HA5.out
            have htw8 := HTW.out
            clear HX4 HS4 HA4 HS5 HA5 KT C1 HA HSA HTW HRR HTY hb8 c4
            generalize hlvq : Value.slice a4 L.length cap4 = lv5 at *
            clear hlvq
            have HE5 := Lib.hid hst5
            have HW5 := Lib.hid htw8
            have HC5 := Lib.hid hA5
            clear hst5 htw8 hA5
            have b1 : w8.cell? ⟨ab, 1, none⟩ = some (str p) := (CELLS.out _ HC5.out).2.1
            go_wp2_with fail
            have KG := get_tree tb mb m p w8 HE5.out.t
            have KF := rfind_any w.heap.size rb lv5 L p w8 HE5.out.r
            cases hk : mlook p m with
            | none =>
              rw [hk] at KG
              rw [HW5.out.lost hk] at KF
              simp only [Option.getD_none, Option.isSome_none] at KG
              have KG := Lib.hid KG
              have KF := Lib.hid KF
              clear hk
              refine KG.out.mono ?_
              rintro e w6 ⟨rfl, rfl⟩
              go_wp2_with fail
              refine KF.out.mono ?_
              rintro e w6 ⟨rfl, rfl⟩
              go_wp2
              go_roundw
              case rel => exact ⟨z2, i + 1, lv5, m, L, rfl, by go_num, by omega, HW5.out, HE5.out⟩
              case measure => simp [intOf]; omega
            | some vv =>
              obtain ⟨ii, hfi, hii, hvv⟩ := HW5.out.found hk
              exact absurd hii (by omega)
          · have hL1 : ((0 : Int) < (L.length : Int)) = True := by simp; omega
            go_wp2_with fail
            refine C1.out.mono ?_
            rintro e w5 ⟨rfl, hb5⟩
            have HS5 := Lib.hid (HS4.out.below hb5)
            have HA5 : Hid (w5.heap[ab]? = some (.cells #[str kd, str p, str c] 31 (0, 0))) := Lib.hid ((hb5.block ab (lt_of_heap HA4.out)).trans HA4.out)
            have KT := Lib.hid (sameTexts0 (.slice ax nx cx) (.slice none 0 0) [] [] w5 (ownsRow_reads (ownsRow_fr (S := fun _ => False) HX4.out (Fr.of_below hb5) (fun k hk => ⟨(HX4.out.lt k hk).2, id⟩))) (ownsRow_reads (World.ownsRow_nil w5 0 9 1)))
            clear hb5
            go_wp2_with fail
            refine KT.out.mono ?_
            rintro e w8 ⟨rfl, hb8⟩
            have hst5 := HS5.out.below hb8
            have hA5 : w8.heap[ab]? = some (.cells #[str kd, str p, str c] 31 (0, 0)) := (hb8.block ab (lt_of_heap HA5.out)).trans HA5.out
            have htw8 := HTW.out
            clear HX4 HS4 HA4 HS5 HA5 KT C1 HA HSA HTW HRR HTY hb8 c4
            generalize hlvq : Value.slice a4 L.length cap4 = lv5 at *
            clear hlvq
            have HE5 := Lib.hid hst5
            have HW5 := Lib.hid htw8
            have HC5 := Lib.hid hA5
            clear hst5 htw8 hA5
            have b1 : w8.cell? ⟨ab, 1, none⟩ = some (str p) := (CELLS.out _ HC5.out).2.1
            go_wp2_with fail
            have KG := get_tree tb mb m p w8 HE5.out.t
            have KF := rfind_any w.heap.size rb lv5 L p w8 HE5.out.r
            cases hk : mlook p m with
            | none =>
              rw [hk] at KG
              rw [HW5.out.lost hk] at KF
              simp only [Option.getD_none, Option.isSome_none] at KG
              have KG := Lib.hid KG
              have KF := Lib.hid KF
              clear hk
              refine KG.out.mono ?_
              rintro e w6 ⟨rfl, rfl⟩
              go_wp2_with fail
              refine KF.out.mono ?_
              rintro e w6 ⟨rfl, rfl⟩
              go_wp2
              go_roundw
              case rel => exact ⟨z2, i + 1, lv5, m, L, rfl, by go_num, by omega, HW5.out, HE5.out⟩
              case measure => simp [intOf]; omega
            | some vv =>
              rw [hk] at KG
              obtain ⟨ii, hfi, hii, hvv⟩ := HW5.out.found hk
              rw [hfi] at KF
              simp only [Option.getD_some, Option.isSome_some] at KG
              have KG := Lib.hid KG
              have KF := Lib.hid KF
              have hrr := HE5.out.r.reads
              have c5 := HE5.out.r.cell
              obtain ⟨a5, cap5, rfl, -, -⟩ := id hrr
              simp only [List.length_map] at *
              obtain ⟨b5, o5, hix5, -, hce5⟩ := hrr.at (P := Tryz.prog) Tryz.underlying27 (by kernel_rfl) ii (by simpa using hii)
              have e5 : w8.cell? ⟨b5, o5 + 1, none⟩ = some (str vv) := by rw [← hvv]; exact hce5 1 _ (by simp)
              clear hk hfi hvv hce5 hrr
              refine KG.out.mono ?_
              rintro e w6 ⟨rfl, rfl⟩
              go_wp2_with fail
              refine KF.out.mono ?_
              rintro e w6 ⟨rfl, rfl⟩
              go_wp2
              go_roundw
              case rel => exact ⟨z2, i + 1, _, m, L, rfl, by go_num, by omega, HW5.out, HE5.out⟩
              case measure => simp [intOf]; omega
      | false =>
        have hq0 := HQN.out.2 hnm
        have hg0 : globL p (ksOf L) = globK p (ksOf L) := by unfold globL; rw [if_neg (by rw [hnm]; decide)]
        rw [hg0] at HX4
        subst hq0
        clear hnm hg0
        have hz4 := HS4.out.hB
        go_wp2_with fail
        go_loopw [13, 14] (fun want kv wl => ∃ k : Nat, k ≤ L.length ∧ kv = .int .i64 k ∧ wl.ownsRow w4.heap.size 9 1 want (globK p ((ksOf L).take k)).length ((globK p ((ksOf L).take k)).map str) ∧ Below w4.heap.size w4 wl) (fun _ kv _ => L.length - (intOf kv).toNat)
        case atStart => exact ⟨0, by omega, rfl, by simpa [globK] using World.ownsRow_nil w4 _ _ _, Below.refl _ _⟩
        case round =>
          obtain ⟨k, hkl, rfl, hown, hbl⟩ := hrel
          have HO := Lib.hid hown
          have HB := Lib.hid hbl
          have hszr := hbl.size
          have HS7 := Lib.hid (HTY.out _ hbl)
          have HA7 : Hid (wr.heap[ab]? = some (.cells #[str kd, str p, str c] 31 (0, 0))) := Lib.hid ((hbl.block ab (lt_of_heap HA4.out)).trans HA4.out)
          have c7 := HS7.out.r.cell
          clear hown hbl
          by_cases hlt2 : k < L.length
          · have hlt3 : k < (ksOf L).length := by rw [hkn]; exact hlt2
            obtain ⟨b7, o7, hix7, -, hce7⟩ := HS7.out.r.reads.at (P := Tryz.prog) Tryz.underlying27 (by kernel_rfl) k (by simpa using hlt2)
            have e7 : wr.cell? ⟨b7, o7, none⟩ = some (str L[k].1) := hce7 0 _ (by simp)
            have g7 : wr.cell? ⟨ab, 1, none⟩ = some (str p) := (CELLS.out _ HA7.out).2.1
            have hp1 : L[k].1.length ≤ 100 := (HTW.out.path _ (List.getElem_mem hlt2)).2.1
            have HTK : Hid ((ksOf L).take (k + 1) = (ksOf L).take k ++ [L[k].1]) := Lib.hid (by rw [List.take_succ_eq_append_getElem hlt3]; simp)
            have hgl : (globK p ((ksOf L).take k)).length ≤ 1000 := Nat.le_trans (globK_le _ _) (by rw [List.length_take, hkn]; have := HTW.out.many; have := HTW.out.len; omega)
            obtain ⟨s, hs⟩ : ∃ s, L[k].1 = s := ⟨_, rfl⟩
            rw [hs] at e7 hp1 HTK
            clear hce7 hs
            have K1 := fun w' => matchOf_any p s w' (by omega) (by omega)
            have KS : Hid (∀ wq, Below wr.heap.size wr wq → wq.cell? ⟨ab, 1, none⟩ = some (str p) ∧ wq.cell? ⟨rb, 0, none⟩ = some (.slice a4 L.length cap4) ∧ wq.cell? ⟨b7, o7, none⟩ = some (str s)) := Lib.hid (fun wq hq =>
              ⟨(hq.cell (p := ⟨ab, 1, none⟩) (lt_of_cell g7)).trans g7, (hq.cell (p := ⟨rb, 0, none⟩) (lt_of_cell c7)).trans c7, (hq.cell (p := ⟨b7, o7, none⟩) (lt_of_cell e7)).trans e7⟩)
            have BR := Lib.hid (Below.refl wr.heap.size wr)
            obtain ⟨mn, hmn⟩ : ∃ mn, ((matchN p s : Nat) : Int) = mn := ⟨_, rfl⟩
            simp only [hmn] at K1
            clear hmn
            cases hmb : matchB p s with
            | true =>
              simp only [hmb] at K1
              have K1 := Lib.hid K1
              have HG : Hid (globK p ((ksOf L).take (k + 1)) = globK p ((ksOf L).take k) ++ [s]) := Lib.hid (by rw [HTK.out, globK_snoc_t hmb])
              clear hmb
              go_wp2_with fail
              go_region_held3 (fun w' => w'.cell? ⟨ab, 1, none⟩ = some (str p) ∧ w'.cell? ⟨rb, 0, none⟩ = some (.slice a4 L.length cap4) ∧ w'.cell? ⟨b7, o7, none⟩ = some (str s))
                (first | exact KS.out _ HQ7.out | exact KS.out _ BR.out.drew)
                (first | (go_at_call 17
                          refine (K1.out _).mono ?_
                          rintro e w6 ⟨rfl, hb6⟩
                          have HQ7 : Hid (Below wr.heap.size wr w6) := Lib.hid (by first | exact hb6 | exact BR.out.drew.trans hb6)
                          clear hb6))
              all_goals
                obtain ⟨j1, j2, j3⟩ := KS.out _ HQ7.out
                have HO6 := Lib.hid (ownsRow_fr (S := fun _ => False) HO.out (Fr.of_below HQ7.out) (fun k hk => ⟨(HO.out.lt k hk).2, id⟩))
                have hz6 := HQ7.out.size
                go_wp2_with (first
                  | (at_builtin
                     refine wpList_app _ rfl (.tmp 100) (.tmp 109) 39 rfl tyStrsG w4.heap.size u13 _ _ rfl (HO6.out.alloc _) ⟨w6.heap.size, 0, none⟩ 1 1 [str s] rfl rfl (news_one ?_) ?_ (by decide) ?_ ?_ ?_
                     · simp [go_sem]
                     · intro u hu; simp at hu; subst hu; rfl
                     · omega
                     · simp; omega
                     intro v9 w9 ho9 hg9 hloc9))
                go_roundw
                case rel =>
                  refine ⟨k + 1, by omega, by go_num, ?_, ?_⟩
                  · rw [HG.out]
                    simp only [List.map_append, List.map_cons, List.map_nil, List.length_append, List.length_cons, List.length_nil]
                    exact ho9
                  · exact ((HB.out.trans (HQ7.out.mono hszr)).alloc (by omega) _).grown hg9 (by simp; omega) (fun r hr => owned_from HO.out hr)
                case measure => simp [intOf]; omega
            | false =>
              simp only [hmb] at K1
              have K1 := Lib.hid K1
              have HG : Hid (globK p ((ksOf L).take (k + 1)) = globK p ((ksOf L).take k)) := Lib.hid (by rw [HTK.out, globK_snoc_f hmb])
              clear hmb
              go_wp2_with fail
              go_region_held3 (fun w' => w'.cell? ⟨ab, 1, none⟩ = some (str p) ∧ w'.cell? ⟨rb, 0, none⟩ = some (.slice a4 L.length cap4) ∧ w'.cell? ⟨b7, o7, none⟩ = some (str s))
                (first | exact KS.out _ HQ7.out | exact KS.out _ BR.out.drew)
                (first | (go_at_call 17
                          refine (K1.out _).mono ?_
                          rintro e w6 ⟨rfl, hb6⟩
                          have HQ7 : Hid (Below wr.heap.size wr w6) := Lib.hid (by first | exact hb6 | exact BR.out.drew.trans hb6)
                          clear hb6))
              all_goals
                have HO6 := Lib.hid (ownsRow_fr (S := fun _ => False) HO.out (Fr.of_below HQ7.out) (fun k hk => ⟨(HO.out.lt k hk).2, id⟩))
                go_wp2
                go_roundw
                case rel => exact ⟨k + 1, by omega, by go_num, by rw [HG.out]; exact HO6.out, HB.out.trans (HQ7.out.mono hszr)⟩
                case measure => simp [intOf]; omega
          · obtain rfl : k = L.length := by omega
            have hO := HO.out
            rw [List.take_of_length_le (by rw [hkn]; exact Nat.le_refl _)] at hO
            have HW7 := Lib.hid hO
            have HX7 := Lib.hid (ownsRow_fr (S := fun _ => False) HX4.out (Fr.of_below HB.out) (fun k hk => ⟨(HX4.out.lt k hk).2, id⟩))
            obtain ⟨aw, nw, cw, hvw⟩ : ∃ aw nw cw, u13 = .slice aw nw cw := by
              rcases hO.2 with ⟨hv, _⟩ | ⟨g, cap, cur, hv, _⟩
              · exact ⟨_, _, _, hv⟩
              · exact ⟨_, _, _, hv⟩
            subst hvw
            have c1 := coded_c 0 (by decide) (HE.out.below HS7.out.b (Nat.le_refl _))
            rw [HMV.out, show ((0 : Nat) : Int) = 0 from rfl] at c1
            have C1 := Lib.hid c1
            clear c1 hO HO
            go_wp2_with fail
            refine C1.out.mono ?_
            rintro e w5 ⟨rfl, hb5⟩
            have HS5 := Lib.hid (HS7.out.below hb5)
            have HA5 : Hid (w5.heap[ab]? = some (.cells #[str kd, str p, str c] 31 (0, 0))) := Lib.hid ((hb5.block ab (lt_of_heap HA7.out)).trans HA7.out)
            have KT := Lib.hid (sameTexts0 (.slice ax nx cx) (.slice aw nw cw) (globK p (ksOf L)) (globK p (ksOf L)) w5 (ownsRow_reads (ownsRow_fr (S := fun _ => False) HX7.out (Fr.of_below hb5) (fun k hk => ⟨(HX7.out.lt k hk).2, id⟩))) (ownsRow_reads (ownsRow_fr (S := fun _ => False) HW7.out (Fr.of_below hb5) (fun k hk => ⟨(HW7.out.lt k hk).2, id⟩))))
            have hbb : (globK p (ksOf L) == globK p (ksOf L)) = true := by simp
            rw [hbb] at KT
            clear hb5 hbb
            go_wp2_with fail
            refine KT.out.mono ?_
            rintro e w8 ⟨rfl, hb8⟩
            have hst5 := HS5.out.below hb8
            have hA5 : w8.heap[ab]? = some (.cells #[str kd, str p, str c] 31 (0, 0)) := (hb8.block ab (lt_of_heap HA5.out)).trans HA5.out
            have htw8 := HTW.out
            clear HX4 HS4 HA4 HS5 HA5 KT C1 HA HSA HTW HRR HTY HX7 HW7 HS7 HA7 hb8 c4 c7
            generalize hlvq : Value.slice a4 L.length cap4 = lv5 at *
            clear hlvq
            have HE5 := Lib.hid hst5
            have HW5 := Lib.hid htw8
            have HC5 := Lib.hid hA5
            clear hst5 htw8 hA5
            have b1 : w8.cell? ⟨ab, 1, none⟩ = some (str p) := (CELLS.out _ HC5.out).2.1
            go_wp2_with fail
            have KG := get_tree tb mb m p w8 HE5.out.t
            have KF := rfind_any w.heap.size rb lv5 L p w8 HE5.out.r
            cases hk : mlook p m with
            | none =>
              rw [hk] at KG
              rw [HW5.out.lost hk] at KF
              simp only [Option.getD_none, Option.isSome_none] at KG
              have KG := Lib.hid KG
              have KF := Lib.hid KF
              clear hk
              refine KG.out.mono ?_
              rintro e w6 ⟨rfl, rfl⟩
              go_wp2_with fail
              refine KF.out.mono ?_
              rintro e w6 ⟨rfl, rfl⟩
              go_wp2
              go_roundw
              case rel => exact ⟨z2, i + 1, lv5, m, L, rfl, by go_num, by omega, HW5.out, HE5.out⟩
              case measure => simp [intOf]; omega
            | some vv =>
              rw [hk] at KG
              obtain ⟨ii, hfi, hii, hvv⟩ := HW5.out.found hk
              rw [hfi] at KF
              simp only [Option.getD_some, Option.isSome_some] at KG
              have KG := Lib.hid KG
              have KF := Lib.hid KF
              have hrr := HE5.out.r.reads
              have c5 := HE5.out.r.cell
              obtain ⟨a5, cap5, rfl, -, -⟩ := id hrr
              simp only [List.length_map] at *
              obtain ⟨b5, o5, hix5, -, hce5⟩ := hrr.at (P := Tryz.prog) Tryz.underlying27 (by kernel_rfl) ii (by simpa using hii)
              have e5 : w8.cell? ⟨b5, o5 + 1, none⟩ = some (str vv) := by rw [← hvv]; exact hce5 1 _ (by simp)
              clear hk hfi hvv hce5 hrr
              refine KG.out.mono ?_
              rintro e w6 ⟨rfl, rfl⟩
              go_wp2_with fail
              refine KF.out.mono ?_
              rintro e w6 ⟨rfl, rfl⟩
              go_wp2
              go_roundw
              case rel => exact ⟨z2, i + 1, _, m, L, rfl, by go_num, by omega, HW5.out, HE5.out⟩
              case measure => simp [intOf]; omega
    · obtain rfl : i = acts.length := by omega
      have b3 := HS0.out.b
      have KT := text_tree tb mb m wr HS0.out.t (tab_below HT.out b3 (Nat.le_refl _)) HTW.out.nodup' (by have := HTW.out.many; omega) (fun x hx => by have := HTW.out.keyLen hx; omega) (fun p => by have := HTW.out.getLen p; omega)
      rw [HTW.out.lines] at KT
      have KT := Lib.hid KT
      go_wp2_with fail
      refine KT.out.mono ?_
      rintro e w3 ⟨rfl, hb3⟩
      have HS3 := Lib.hid (HS0.out.below hb3)
      have hlL : L.length ≤ 60 := by have := HTW.out.many; have := HTW.out.len; omega
      have KR := Lib.hid (rtext_any w.heap.size rb lv L w3 HS3.out.r (by omega) (fun x hx => by have := HTW.out.path x hx; omega))
      clear hb3 KT
      go_wp2_with fail
      refine KR.out.mono ?_
      rintro e w4 ⟨rfl, hb4⟩
      have HS4 := Lib.hid (HS3.out.below hb4)
      have KP := Lib.hid (paths_tree tb mb m w4 HS4.out.t HTW.out.nodup' (by have := HTW.out.many; omega) (fun x hx => by have := HTW.out.keyLen hx; omega))
      clear hb4 KR HS3
      go_wp2_with fail
      refine KP.out.mono ?_
      rintro e w5 ⟨v1, rfl, hr1, hb5⟩
      have HS5 := Lib.hid (HS4.out.below hb5)
      have HR1 := Lib.hid hr1
      have KQ := Lib.hid (rpaths_any w.heap.size rb lv L w5 HS5.out.r (by omega))
      clear hb5 hr1 KP HS4
      go_wp2_with fail
      refine KQ.out.mono ?_
      rintro e w6 ⟨v2, rfl, hr2, hb6⟩
      have HS6 := Lib.hid (HS5.out.below hb6)
      have KS := Lib.hid (sameTexts0 v1 v2 (sortK m) (ksOf L) w6 (ownsRow_reads (ownsRow_fr (S := fun _ => False) HR1.out (Fr.of_below hb6) (fun k hk => ⟨(HR1.out.lt k hk).2, id⟩))) (ownsRow_reads hr2))
      have hbb : (sortK m == ksOf L) = true := by rw [HTW.out.keys]; simp
      rw [hbb] at KS
      clear hb6 hr2 KQ HS5 hbb
      go_wp2_with fail
      refine KS.out.mono ?_
      rintro e w7 ⟨rfl, hb7⟩
      have HS7 := Lib.hid (HS6.out.below hb7)
      clear hb7
      go_wp2
      go_ret
      exact ⟨rfl, HS7.out.b⟩
end Go.Proofs.YtmkpeopebddnjaaGreatDoor
