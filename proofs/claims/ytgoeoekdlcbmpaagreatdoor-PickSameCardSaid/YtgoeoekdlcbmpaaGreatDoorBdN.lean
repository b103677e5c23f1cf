/-
  The walk of the law PickSame.
-/
import Derived.Test.YtgoeoekdlcbmpaaGreatDoorBdM
import Derived.Test.YtgoeoekdlcbmpaaGreatDoorBdK
import Derived.Test.YtgoeoekdlcbmpaaGreatDoorBdL
import Derived.Test.YtgoeoekdlcbmpaaGreatDoorBdF

namespace Go.Proofs.YtgoeoekdlcbmpaaGreatDoor
open Go Go.RowKit Go.Kf Go.Sort Go.Proofs

set_option maxRecDepth 100000 in
set_option maxHeartbeats 8000000 in
theorem pickSame_all (fs : List Ent) (vf : Value) (R : List RV) (v : Value) (one two : List Int) (v1 v2 : Value) (w : World) (S : Nat → Addr) (hfr : ReadsK 2 w vf (fs.map fileRow)) (hr : ReadsK 4 w v (R.map rvRow)) (hi : ∀ x ∈ R, Reads w x.2 (x.1.ins.map str) ∧ NilOr x.2)
    (hr1 : Reads w v1 (one.map (Value.int .i64))) (hc1 : Roomy v1) (hz1 : ∀ z ∈ one, I64 z) (hr2 : Reads w v2 (two.map (Value.int .i64))) (hc2 : Roomy v2) (hz2 : ∀ z ∈ two, I64 z) (hm : Ml w) (hE : BErr w S) (hN : NErr w) (ht : Tab w) :
    Calls Tryz.prog 5 #[vf, v, v1, v2] w fun e w' => e = .returned (.bool true) ∧ Below w.heap.size w w' := by
  have hrow : ∀ r ∈ R.map rvRow, r ≠ [] := fun r hr => by obtain ⟨x, -, rfl⟩ := List.mem_map.1 hr; simp [rvRow]
  have hrowf : ∀ r ∈ fs.map fileRow, r ≠ [] := fun r hr => by obtain ⟨x, -, rfl⟩ := List.mem_map.1 hr; simp [fileRow]
  obtain ⟨a, c, hv, hle, -⟩ := id hr
  rw [List.length_map] at hv hle
  subst hv
  obtain ⟨a1, c1, hv1, hle1, -⟩ := id hr1
  rw [List.length_map] at hv1 hle1
  subst hv1
  obtain ⟨a2, c2, hv2, hle2, -⟩ := id hr2
  rw [List.length_map] at hv2 hle2
  subst hv2
  have KW := Lib.hid (picked_any w S hm hE hN ht)
  have KLF := Lib.hid (fun w1 (hb : Below w.heap.size w w1) => longFiles3_any vf fs w1 (readsK_below0 hfr hrowf hb))
  have KL := Lib.hid (fun w1 (hb : Below w.heap.size w w1) => longRules_any R (.slice a R.length c) 12 w1 (readsK_below0 hr hrow hb) (fun x hx => (hi x hx).1.below0 hb) (by decide))
  have KT := Lib.hid (fun w1 (hb : Below w.heap.size w w1) (hF : FewFiles fs) => fileTree3_any vf fs w1 S (readsK_below0 hfr hrowf hb) hF (hm.below hb (Nat.le_refl _)) (hE.below hb).t)
  have KO := Lib.hid (fun w1 (hb : Below w.heap.size w w1) (hs : ∀ x ∈ R, ShortR x.1) (hn : R.length ≤ 1000) => ownRules_any R (.slice a R.length c) w1 (readsK_below0 hr hrow hb) (fun x hx => ⟨(hi x hx).1.below0 hb, (hi x hx).2, by have := (hs x hx).2.2.2.1; omega⟩) hn)
  have KB := Lib.hid (fun w1 (hb : Below w.heap.size w w1) (tb mb : Nat) (m : List Ent) (R' : List RV) (v' : Value) (outs : List (List UInt8)) (vo : Value) (h : ∃ B, OwnAt B w1 v' R') (hs : ∀ x ∈ R', ShortR x.1) (h2 : R'.length ≤ 1000) (hT : TAt w1 tb mb m) (hO : Reads w1 vo (outs.map str)) (ho : outs.length ≤ 1000) =>
    bnew_any (S := S) w1 outs vo none (own_rulesT h).1 (own_rulesT h).2 hT hO ho (hm.below hb (Nat.le_refl _)) (hE.below hb).k (hE.below hb).l (hN.below hb (Nat.le_refl _)) (tab_below ht hb (Nat.le_refl _)) (short_bounds hs) h2)
  have HRC := Lib.hid (fun w1 (hb : Below w.heap.size w w1) => readsK_below0 hr hrow hb)
  have HR1 := Lib.hid (fun w1 (hb : Below w.heap.size w w1) => hr1.below0 hb)
  have HR2 := Lib.hid (fun w1 (hb : Below w.heap.size w w1) => hr2.below0 hb)
  have HC1 := Lib.hid hc1
  have HC2 := Lib.hid hc2
  have HZ1 := Lib.hid hz1
  have HZ2 := Lib.hid hz2
  have HE := Lib.hid ((⟨hm, hE, hN, ht⟩ : Ml w ∧ BErr w S ∧ NErr w ∧ Tab w))
  have hml : (R.map Prod.fst).length = R.length := List.length_map _
  have HML := Lib.hid hml
  clear hfr hr hi hm hE hN ht hrow hrowf hml hr1 hr2 hc1 hc2 hz1 hz2
  go_enter Tryz.func5, Tryz.ntmps5
  go_wp2_with fail
  refine KW.out.mono ?_
  rintro e w1 ⟨rfl, hb1⟩
  have HB1 := Lib.hid hb1
  clear hb1
  go_wp2_with fail
  refine (KLF.out w1 HB1.out).mono ?_
  rintro e w2 ⟨rfl, rfl | ⟨rfl, hff⟩⟩
  · go_wp2
    go_ret
    exact ⟨rfl, HB1.out⟩
  have HFF := Lib.hid hff
  clear hff
  go_wp2_with fail
  refine (KL.out w1 HB1.out).mono ?_
  rintro e w2 ⟨rfl, rfl | ⟨rfl, hn, hs⟩⟩
  · go_wp2
    go_ret
    exact ⟨rfl, HB1.out⟩
  have HS := Lib.hid hs
  have hn12 : R.length ≤ 41 := by omega
  clear hn hs
  by_cases hol : 60 < one.length
  · have hol2 : (60 < (one.length : Int)) = True := eq_true (by omega)
    go_wp2
    go_ret
    exact ⟨rfl, HB1.out⟩
  have hol2 : (60 < (one.length : Int)) = False := eq_false (by omega)
  by_cases hom : 60 < two.length
  · have hom2 : (60 < (two.length : Int)) = True := eq_true (by omega)
    go_wp2
    go_ret
    exact ⟨rfl, HB1.out⟩
  have hom2 : (60 < (two.length : Int)) = False := eq_false (by omega)
  have KT1 := Lib.hid (KT.out w1 HB1.out HFF.out)
  go_wp2_with fail
  refine KT1.out.mono ?_
  rintro e w2 ⟨tb, mb, rb, lv, rfl, htc⟩
  have HTW := Lib.hid (files_tw' HFF.out)
  have HB2 := Lib.hid (HB1.out.trans (htc.b.mono HB1.out.size))
  have HT2 := Lib.hid htc.t
  generalize hfm : filesM fs = m at *
  generalize hfl : filesL fs = L at *
  clear htc hfm hfl KT1
  go_wp2_with fail
  have hw2 := HB2.out.size
  go_loopw [12, 13] (fun uv iv wl => ∃ j : Nat, j ≤ R.length ∧ iv = .int .i64 j ∧ wl.ownsRow w2.heap.size 9 1 uv j ((((R.map Prod.fst).take j).map RuleL.out).map str) ∧ Below w2.heap.size w2 wl) (fun _ iv _ => R.length - (intOf iv).toNat)
  case atStart => exact ⟨0, by omega, rfl, World.ownsRow_nil _ _ _ _, Below.refl _ _⟩
  case round =>
    obtain ⟨j, hj, rfl, hown, hbj⟩ := hrel
    have HO := Lib.hid hown
    have HB := Lib.hid hbj
    have hzj := hbj.size
    by_cases hlt : j < R.length
    · have hlc : ((j : Int) < (R.length : Int)) = True := eq_true (by omega)
      obtain ⟨b, o, hix, -, hce⟩ := (HRC.out wr (HB2.out.trans (hbj.mono HB2.out.size))).at (P := Tryz.prog) Tryz.underlying23 (by kernel_rfl) j (by simpa using hlt)
      simp only [List.getElem_map] at hce
      have hc0 := hce 0 _ rfl
      simp only [Nat.add_zero] at hc0
      have HTK : Hid (((R.map Prod.fst).take (j + 1)).map RuleL.out = ((R.map Prod.fst).take j).map RuleL.out ++ [R[j].1.out]) := Lib.hid (by
        rw [List.take_succ_eq_append_getElem (by simpa using hlt), List.map_append, List.map_singleton, List.getElem_map])
      have hlen : (((R.map Prod.fst).take j).map RuleL.out).length = j := by simp; omega
      generalize ((R.map Prod.fst).take j).map RuleL.out = ys at *
      generalize R[j].1.out = y at *
      clear hown hbj hce
      go_wp2_with (first
        | (at_builtin
           refine wpList_app _ rfl _ _ 32 rfl tyStrsK w2.heap.size _ _ _ rfl (HO.out.alloc _) ⟨wr.heap.size, 0, none⟩ 1 1 [str y] rfl rfl (news_one ?_) ?_ (by decide) ?_ ?_ ?_
           · rw [cell_of_heap (heap_alloc_here wr _)]; rfl
           · intro u hu; simp at hu; subst hu; rfl
           · omega
           · simp; omega
           intro v6 w6 ho6 hg6 hloc6
           have HO6 : Hid (w6.ownsRow w2.heap.size 9 1 v6 (j + 1) ((ys ++ [y]).map str)) := Lib.hid (by simpa using ho6)
           have HB6 : Hid (Below w2.heap.size w2 w6) := Lib.hid ((HB.out.alloc hzj _).grown hg6 (by simp; omega) (fun q hq => (HO.out.lt q hq).1))
           clear ho6 hg6 hloc6))
      go_wp2
      go_roundw
      case rel => exact ⟨j + 1, by omega, by go_num, by rw [HTK.out]; exact HO6.out, HB6.out⟩
      case measure => simp [intOf]; omega
    · obtain rfl : j = R.length := by omega
      have hlc : ((R.length : Int) < (R.length : Int)) = False := eq_false (by omega)
      rw [List.take_of_length_le (by simp)] at hown
      have hro := ownsRow_reads hown
      have HRO := Lib.hid (fun wl (hb : Below wr.heap.size wr wl) => hro.below0 hb)
      have HBR := Lib.hid (HB2.out.trans (hbj.mono HB2.out.size))
      have HTR := Lib.hid (HT2.out.below hbj)
      have KO3 := Lib.hid (KO.out wr HBR.out HS.out (by omega))
      have hbr := HBR.out.size
      clear hown hbj hro HO HB
      go_wp2_with fail
      refine KO3.out.mono ?_
      rintro e w3 ⟨v3, R3, rfl, he3, ho3, hb3⟩
      have HB3 := Lib.hid (HBR.out.trans (hb3.mono hbr))
      have HR3 := Lib.hid hb3
      have hl3 : R3.length = R.length := by have := congrArg List.length he3; simpa using this
      have KB3 := Lib.hid (KB.out w3 HB3.out tb mb m R3 v3 ((R.map Prod.fst).map RuleL.out) _ ⟨_, ho3⟩ (short_other HS.out he3) (by omega) (HTR.out.below hb3) (HRO.out w3 hb3) (by simp; omega))
      rw [he3] at KB3
      clear he3 ho3 hb3 KO3
      go_wp2_with fail
      refine KB3.out.mono ?_
      rintro e w4 ⟨ha4, hb4⟩
      have HB4 := Lib.hid (HB3.out.trans (hb4.mono HB3.out.size))
      have HR4 := Lib.hid (HR3.out.trans (hb4.mono HR3.out.size))
      have KO5 := Lib.hid (KO.out w4 HB4.out HS.out (by omega))
      have hz34 := HB3.out.size
      have hs4 := hb4.size
      have hz4 := HB4.out.size
      rcases once_new2 ha4 with ⟨⟨T, x, rfl⟩, hno⟩ | ⟨o, D, rfl, hord, hcv, hat, hD⟩
      · have HNO := Lib.hid hno
        clear ha4 hb4 KB3 hno
        go_wp2_with fail
        refine KO5.out.mono ?_
        rintro e w5 ⟨v5, R5, rfl, he5, ho5, hb5⟩
        have HB5 := Lib.hid (HB4.out.trans (hb5.mono hz4))
        have hl5 : R5.length = R.length := by have := congrArg List.length he5; simpa using this
        have hr5 := HR4.out.trans (hb5.mono HR4.out.size)
        have KB5 := Lib.hid (KB.out w5 HB5.out tb mb m R5 v5 ((R.map Prod.fst).map RuleL.out) _ ⟨_, ho5⟩ (short_other HS.out he5) (by omega) (HTR.out.below hr5) (HRO.out w5 hr5) (by simp; omega))
        rw [he5] at KB5
        clear he5 ho5 hb5 KO5 hr5
        go_wp2_with fail
        refine KB5.out.mono ?_
        rintro e w6 ⟨ha6, hb6⟩
        have HB6 := Lib.hid (HB5.out.trans (hb6.mono HB5.out.size))
        rcases once_new2 ha6 with ⟨⟨T, x, rfl⟩, -⟩ | ⟨o, D, rfl, hord, -⟩
        · clear ha6 hb6 KB5
          go_wp2
          go_ret
          exact ⟨by simp, HB6.out⟩
        · exact absurd hord (HNO.out o)
      have HORD := Lib.hid hord
      have HA4 := Lib.hid hat
      have HD := Lib.hid hD
      clear ha4 hb4 KB3 hat hD hord
      go_wp2_with fail
      refine KO5.out.mono ?_
      rintro e w5 ⟨v5, R5, rfl, he5, ho5, hb5⟩
      have HB5 := Lib.hid (HB4.out.trans (hb5.mono hz4))
      have HA5 := Lib.hid (HA4.out.below hb5)
      have hl5 : R5.length = R.length := by have := congrArg List.length he5; simpa using this
      have hr5 := HR4.out.trans (hb5.mono HR4.out.size)
      have hz45 := hb5.size
      have KB5 := Lib.hid (KB.out w5 HB5.out tb mb m R5 v5 ((R.map Prod.fst).map RuleL.out) _ ⟨_, ho5⟩ (short_other HS.out he5) (by omega) (HTR.out.below hr5) (HRO.out w5 hr5) (by simp; omega))
      rw [he5] at KB5
      clear he5 ho5 hb5 KO5 hr5
      go_wp2_with fail
      refine KB5.out.mono ?_
      rintro e w6 ⟨ha6, hb6⟩
      have HB6 := Lib.hid (HB5.out.trans (hb6.mono HB5.out.size))
      rcases once_new2 ha6 with ⟨-, hno⟩ | ⟨o6, E, rfl, -, hcw, hat6, hE0⟩
      · exact absurd HORD.out (hno o)
      obtain ⟨P, hP⟩ : ∃ P, List.range (R.map Prod.fst).length = P := ⟨_, rfl⟩
      rw [hP] at hat6 hE0
      have HP := Lib.hid hP
      have HPO : Hid (Ord (R.map Prod.fst) P o) := Lib.hid (by rw [← hP]; exact HORD.out)
      have HDQ : Hid (∀ q, D.has P q → w.heap.size ≤ q ∧ q < w4.heap.size) := Lib.hid (fun q hq => by
        rw [← hP] at hq
        exact ⟨by have := HD.out q hq; omega, HA4.out.lt hq⟩)
      have HEQ : Hid (∀ q, E.has P q → w5.heap.size ≤ q ∧ q < w6.heap.size) := Lib.hid (fun q hq => ⟨hE0 q hq, hat6.lt hq⟩)
      have hA6 : BAt S (R.map Prod.fst) P m D w6 (fun _ => st0) := by
        rw [← hP]
        exact HA5.out.below hb6
      have HBA : Hid (BO S (R.map Prod.fst) P m D 0 0 w.heap.size (.slice none 0 0) none (fun _ => st0) w6) := Lib.hid (BO.made hA6 (fun q hq => (HDQ.out q hq).1) hcv (fun q hq => hq.elim) (fun q _ hf => hf) (fun c h => by cases h))
      have HBB : Hid (BO S (R.map Prod.fst) P m E 0 0 w.heap.size (.slice none 0 0) none (fun _ => st0) w6) := Lib.hid (BO.made hat6 (fun q hq => by have := (HEQ.out q hq).1; omega) hcw (fun q hq => hq.elim) (fun q _ hf => hf) (fun c h => by cases h))
      have HENV : Hid (BEnv S (R.map Prod.fst) m w) := Lib.hid (once_env HS.out (tw_bound HTW.out) HE.out)
      have KPA := Lib.hid (pickRun_any w6 HBA.out HPO.out w rfl HENV.out HB6.out (.slice a1 one.length c1) one (fun wl hf => HR1.out wl (HBA.out.base rfl HB6.out (lv' := .slice none 0 0) (c' := none) ⟨hf, fun q hq => hq.elim⟩)) HC1.out (by omega) HZ1.out)
      have hz56 := hb6.size
      clear ha6 hb6 KB5 hat6 hE0 hA6 hP
      go_wp2_with fail
      refine KPA.out.mono ?_
      rintro e w7 ⟨ks1, js1, c1', st1', ca, sa, lva, u1, rfl, hpr1, har1, hown1, hbo1, htu1⟩
      have hsa := hpr1.stepsL.trans har1.stepsL.1
      have hea := har1.stepsL.2
      have HSA := Lib.hid hsa
      have HEA := Lib.hid hea
      obtain rfl := pick_none hsa
      generalize ks1 ++ js1 = xs at *
      have HB7 := Lib.hid (HBA.out.base rfl HB6.out htu1)
      have HBA7 := Lib.hid hbo1
      have HBB7 : Hid (BO S (R.map Prod.fst) P m E 0 0 w.heap.size (.slice none 0 0) none (fun _ => st0) w7) := Lib.hid (HBB.out.fr htu1.1 (fun q hq => by
        have h1 := hq.elim (HEQ.out q) (fun h => h.elim)
        refine ⟨h1.2, fun hs => ?_⟩
        rcases hs with h2 | h2
        · have := (HDQ.out q (Or.inr h2)).2; omega
        · exact h2))
      have hz67 := htu1.1.size
      have HOW1 := Lib.hid hown1
      have KPB := Lib.hid (pickRun_any w7 HBB7.out HPO.out w rfl HENV.out HB7.out (.slice a2 two.length c2) two (fun wl hf => HR2.out wl (HBB7.out.base rfl HB7.out (lv' := .slice none 0 0) (c' := none) ⟨hf, fun q hq => hq.elim⟩)) HC2.out (by omega) HZ2.out)
      clear hpr1 har1 hown1 hbo1 htu1 hsa hea KPA
      go_wp2_with fail
      refine KPB.out.mono ?_
      rintro e w8 ⟨ks2, js2, c2', st2', cb, sb, lvb, u2, rfl, hpr2, har2, hown2, hbo2, htu2⟩
      have hsb := hpr2.stepsL.trans har2.stepsL.1
      have heb := har2.stepsL.2
      obtain rfl := pick_none hsb
      generalize ks2 ++ js2 = ys at *
      have hsp := same_picks HPO.out HSA.out hsb HEA.out heb
      have HSP := Lib.hid hsp
      have HB8 := Lib.hid (HBB7.out.base rfl HB7.out htu2)
      have HBB8 := Lib.hid hbo2
      have HBA8 := Lib.hid (HBA7.out.fr htu2.1 (fun q hq => by
        have h1 := hq.elim (HDQ.out q) (fun h => h.elim)
        refine ⟨by omega, fun hs => ?_⟩
        rcases hs with h2 | h2
        · have := (HEQ.out q (Or.inr h2)).1; omega
        · exact h2))
      have how1 := HBB7.out.ints HOW1.out htu2.1
      have hru1 := reads_ints how1
      have hru2 := reads_ints hown2
      have HX := Lib.hid (fun wl (hb : Below w8.heap.size w8 wl) => hru1.below0 hb)
      have HY := Lib.hid (fun wl (hb : Below w8.heap.size w8 wl) => hru2.below0 hb)
      obtain ⟨b1, d1, hu1, -, -⟩ := id hru1
      obtain ⟨b2, d2, hu2, -, -⟩ := id hru2
      rw [List.length_map] at hu1 hu2
      rw [← hsp.len] at hu2
      have HYL := Lib.hid hsp.len
      subst hu1
      subst hu2
      have hxl : xs.length ≤ 41 := by
        have h1 := hsp.few
        have h2 := HPO.out.ok.many
        omega
      have HXB : Hid (∀ i (h : i < xs.length), xs[i] < R.length) := Lib.hid (fun i h => by
        have := HSP.out.inx _ (List.getElem_mem h)
        have h2 := HPO.out.ok.lt _ this
        rwa [HML.out] at h2)
      have HYB : Hid (∀ i (h : i < ys.length), ys[i] < R.length) := Lib.hid (fun i h => by
        have := HSP.out.iny _ (List.getElem_mem h)
        have h2 := HPO.out.ok.lt _ this
        rwa [HML.out] at h2)
      have KCA := Lib.hid (bcount_any w8 HBA8.out.at_ HPO.out.ok)
      have KCB := Lib.hid (fun wl (hb : Below w8.heap.size w8 wl) => bcount_any wl (HBB8.out.at_.below hb) HPO.out.ok)
      rw [← hsp.ran.1, ← hsp.ran.2.1, ← hsp.ran.2.2.1, ← hsp.ran.2.2.2] at KCB
      generalize cntP P sa isRan = n1 at *
      generalize cntP P sa isHit = n2 at *
      generalize cntP P sa isFailed = n3 at *
      generalize cntP P sa isLeft = n4 at *
      clear hpr2 har2 hown2 hbo2 htu2 hsb heb KPB how1 hru1 hru2 hsp
      go_wp2_with fail
      refine KCA.out.mono ?_
      rintro e w9 ⟨rfl, hb9⟩
      have HB9 := Lib.hid hb9
      have KCB9 := Lib.hid (KCB.out w9 hb9)
      clear hb9 KCA
      go_wp2_with fail
      refine KCB9.out.mono ?_
      rintro e w10 ⟨rfl, hb10⟩
      have hb810 := HB9.out.trans (hb10.mono HB9.out.size)
      have HB10 := Lib.hid hb810
      have hmk := ints_make R.length (by omega) w10
      obtain ⟨W, hW⟩ : ∃ W, w10.alloc (.cells ((List.replicate R.length 0).map intE).toArray 3) = W := ⟨_, rfl⟩
      have hAW : Below w10.heap.size w10 W := by rw [← hW]; exact (Below.refl _ w10).alloc (Nat.le_refl _) _
      have hNW : Nums W w10.heap.size (cntRow R.length [] []) := by
        rw [cntRow_nil, ← hW]
        exact heap_alloc_here w10 _
      rw [hW] at hmk
      have HBW := Lib.hid (hb810.trans (hAW.mono hb810.size))
      have HNW := Lib.hid hNW
      have hz810 := hb810.size
      generalize hg : w10.heap.size = g at *
      clear hb10 hb810 KCB9 hAW hNW hg
      go_wp2_with fail
      go_loopw [21] (fun iv wl => ∃ i : Nat, i ≤ xs.length ∧ iv = .int .i64 i ∧ Nums wl g (cntRow R.length (xs.take i) (ys.take i)) ∧ Below w8.heap.size w8 wl) (fun iv _ => xs.length - (intOf iv).toNat)
      case atStart => exact ⟨0, by omega, rfl, HNW.out, HBW.out⟩
      case round =>
        obtain ⟨i, hi, rfl, hnu, hbi⟩ := hrel
        have HNU := Lib.hid hnu
        have HBI := Lib.hid hbi
        by_cases hlt : i < xs.length
        · have hlc : ((i : Int) < (xs.length : Int)) = True := eq_true (by omega)
          have hyt : i < ys.length := by have := HYL.out; omega
          obtain ⟨b3, o3, hix3, hce3⟩ := (HX.out wr hbi).at (P := Tryz.prog) Tryz.underlying24 (by kernel_rfl) i (by simpa using hlt)
          obtain ⟨b4, o4, hix4, hce4⟩ := (HY.out wr hbi).at (P := Tryz.prog) Tryz.underlying24 (by kernel_rfl) i (by simpa using hyt)
          simp only [List.getElem_map] at hce3 hce4
          have hxb := HXB.out i hlt
          have hyb := HYB.out i hyt
          have HTX : Hid (xs.take (i + 1) = xs.take i ++ [xs[i]]) := Lib.hid (List.take_succ_eq_append_getElem hlt)
          have HTY : Hid (ys.take (i + 1) = ys.take i ++ [ys[i]]) := Lib.hid (List.take_succ_eq_append_getElem hyt)
          have hcl1 : (xs.take i).length ≤ 41 := by rw [List.length_take]; omega
          have hcl2 : (ys.take i).length ≤ 41 := by have := HYL.out; rw [List.length_take]; omega
          have HCEY : Hid (∀ wl, Below w8.heap.size w8 wl → ∀ b o, (∀ w', (Instr.indexAt 24 (.slice b2 xs.length d2) (.int .i64 (i : Int))).run Tryz.prog w' = .ok (.pointer (some ⟨b, o, none⟩)) w') → wl.cell? ⟨b, o, none⟩ = some (intE ys[i])) := Lib.hid (fun wl hb b o h => by
            obtain ⟨b', o', h1, h2⟩ := (HY.out wl hb).at (P := Tryz.prog) Tryz.underlying24 (by kernel_rfl) i (by simpa using hyt)
            simp only [List.getElem_map] at h2
            have := (h wl).symm.trans (h1 wl)
            cases this
            exact h2)
          generalize xs[i] = x at *
          generalize ys[i] = y at *
          have e1 : ((x : Int) < 0) = False := eq_false (by omega)
          have e2 : ((R.length : Int) ≤ (x : Int)) = False := eq_false (by omega)
          have e3 : ((y : Int) < 0) = False := eq_false (by omega)
          have e4 : ((R.length : Int) ≤ (y : Int)) = False := eq_false (by omega)
          have hixx := idx_at (P := Tryz.prog) (T := 24) (E := 3) Tryz.underlying24 (by kernel_rfl) g R.length R.length x hxb
          have hixy := idx_at (P := Tryz.prog) (T := 24) (E := 3) Tryz.underlying24 (by kernel_rfl) g R.length R.length y hyb
          have hcx := Nums.at hnu (cntRow_at (xs.take i) (ys.take i) hxb)
          have hfx := VRow.frozen hnu x
          have hbx : (xs.take i).count x + (ys.take i).count x ≤ 82 := by
            have h1 := List.count_le_length (a := x) (l := xs.take i)
            have h2 := List.count_le_length (a := x) (l := ys.take i)
            omega
          have hn1 := Nums.put hnu x ((xs.take i).count x + (ys.take i).count x + 1)
          rw [cntRow_x] at hn1
          have hb1 : Below w8.heap.size w8 (wr.setCell ⟨g, x, none⟩ (intE ((xs.take i).count x + (ys.take i).count x + 1))) := hbi.setCell (p := ⟨g, x, none⟩) hz810 _
          have hcy := Nums.at hn1 (cntRow_at (xs.take i ++ [x]) (ys.take i) hyb)
          have hfy := VRow.frozen hn1 y
          have hyy := HCEY.out _ hb1 _ _ hix4
          have hby : (xs.take i ++ [x]).count y + (ys.take i).count y ≤ 83 := by
            have h1 := List.count_le_length (a := y) (l := xs.take i ++ [x])
            have h2 := List.count_le_length (a := y) (l := ys.take i)
            rw [List.length_append, List.length_singleton] at h1
            omega
          have hn2 := Nums.put hn1 y ((xs.take i ++ [x]).count y + (ys.take i).count y + 1)
          rw [cntRow_y] at hn2
          have hb2 := hb1.setCell (p := ⟨g, y, none⟩) hz810 (intE ((xs.take i ++ [x]).count y + (ys.take i).count y + 1))
          generalize (xs.take i ++ [x]).count y + (ys.take i).count y = cy at *
          generalize (xs.take i).count x + (ys.take i).count x = cx at *
          rw [← HTX.out, ← HTY.out] at hn2
          replace hcy : (wr.setCell ⟨g, x, none⟩ (.int .i64 ((cx : Int) + 1))).cell? ⟨g, y, none⟩ = some (.int .i64 (cy : Int)) := hcy
          replace hfy : (wr.setCell ⟨g, x, none⟩ (.int .i64 ((cx : Int) + 1))).frozen? ⟨g, y, none⟩ = false := hfy
          replace hyy : (wr.setCell ⟨g, x, none⟩ (.int .i64 ((cx : Int) + 1))).cell? ⟨b4, o4, none⟩ = some (.int .i64 (y : Int)) := hyy
          have HN2 := Lib.hid hn2
          have HB2' := Lib.hid hb2
          clear hnu hbi hn1 hb1 hn2 hb2 HCEY
          go_wp2
          go_roundw
          case rel => exact ⟨i + 1, by omega, by go_num, HN2.out, HB2'.out⟩
          case measure => simp [intOf]; omega
        · have HIX : Hid (i = xs.length) := Lib.hid (by omega)
          have hlc : ((i : Int) < (xs.length : Int)) = False := eq_false (by omega)
          have HNF : Hid (Nums wr g (cntRow R.length xs ys)) := Lib.hid (by
            have h1 := HNU.out
            rw [HIX.out, List.take_length, HYL.out, List.take_length] at h1
            exact h1)
          clear hnu hbi
          go_wp2_with fail
          have hzf := HBI.out.size
          generalize wr = wF at *
          go_loopw [22] (fun iv wl => ∃ x : Nat, x ≤ R.length ∧ iv = .int .i64 x ∧ Below wF.heap.size wF wl) (fun iv _ => R.length - (intOf iv).toNat)
          case atStart => exact ⟨0, by omega, rfl, Below.refl _ _⟩
          case round =>
            obtain ⟨x, hx, rfl, hbx⟩ := hrel
            have HBX := Lib.hid hbx
            have hzx := hbx.size
            by_cases hlx : x < R.length
            · have hlcx : ((x : Int) < (R.length : Int)) = True := eq_true (by omega)
              have hxP : x ∈ P := by rw [← HP.out, List.mem_range, HML.out]; exact hlx
              have hsm := HSP.out.same x hxP
              have HTWO := Lib.hid (HSP.out.two x)
              have KRA := Lib.hid (fun wl (hb : Below wF.heap.size wF wl) => bResult_any wl (HBA8.out.at_.below (HBI.out.trans (hb.mono hzf))) hxP)
              have KRB := Lib.hid (fun wl (hb : Below wF.heap.size wF wl) => bResult_any wl (HBB8.out.at_.below (HBI.out.trans (hb.mono hzf))) hxP)
              have KSA := Lib.hid (fun wl (hb : Below wF.heap.size wF wl) => bState_any wl (HBA8.out.at_.below (HBI.out.trans (hb.mono hzf))) hxP (HBA8.out.inv.one x hxP))
              have KSB := Lib.hid (fun wl (hb : Below wF.heap.size wF wl) => bState_any wl (HBB8.out.at_.below (HBI.out.trans (hb.mono hzf))) hxP (HBB8.out.inv.one x hxP))
              rw [← hsm.2] at KRB
              rw [← hsm.1] at KSB
              generalize (resOf (sa x)).1 = pt at *
              generalize (resOf (sa x)).2 = pb at *
              generalize stName (sa x).state = pn at *
              have hixx := idx_at (P := Tryz.prog) (T := 24) (E := 3) Tryz.underlying24 (by kernel_rfl) g R.length R.length x hlx
              have HCC : Hid (∀ wl, Below wF.heap.size wF wl → wl.cell? ⟨g, x, none⟩ = some (intE (xs.count x + ys.count x))) := Lib.hid (fun wl hb => Nums.at (VRow.below0 HNF.out hb) (cntRow_at xs ys hlx))
              generalize xs.count x + ys.count x = cc at *
              clear hbx hsm
              go_wp2_with fail
              refine (KRA.out wr HBX.out).mono ?_
              rintro e w11 ⟨rfl, hb11⟩
              have HB11 := Lib.hid (HBX.out.trans (hb11.mono hzx))
              clear hb11
              have hz11 := HB11.out.size
              go_wp2_with fail
              refine (KRB.out _ HB11.out).mono ?_
              rintro e w12 ⟨rfl, hb12⟩
              have HB12 := Lib.hid (HB11.out.trans (hb12.mono hz11))
              clear hb12
              have hz12 := HB12.out.size
              go_wp2_with fail
              refine (KSA.out _ HB12.out).mono ?_
              rintro e w13 ⟨rfl, hb13⟩
              have HB13 := Lib.hid (HB12.out.trans (hb13.mono hz12))
              clear hb13
              have hz13 := HB13.out.size
              go_wp2_with fail
              refine (KSB.out _ HB13.out).mono ?_
              rintro e w14 ⟨rfl, hb14⟩
              have HB14 := Lib.hid (HB13.out.trans (hb14.mono hz13))
              clear hb14
              have hcc := HCC.out _ HB14.out
              rcases HTWO.out with h0 | h0
              · rw [h0] at hcc
                clear HTWO h0
                go_wp2
                go_roundw
                case rel => exact ⟨x + 1, by omega, by go_num, HB14.out⟩
                case measure => simp [intOf]; omega
              · rw [h0] at hcc
                clear HTWO h0
                go_wp2
                go_roundw
                case rel => exact ⟨x + 1, by omega, by go_num, HB14.out⟩
                case measure => simp [intOf]; omega
            · have HXE : Hid (x = R.length) := Lib.hid (by omega)
              have hlcx : ((x : Int) < (R.length : Int)) = False := eq_false (by omega)
              clear hbx
              go_wp2
              go_ret
              exact ⟨rfl, HB8.out.trans ((HBI.out.trans (HBX.out.mono hzf)).mono HB8.out.size)⟩
end Go.Proofs.YtgoeoekdlcbmpaaGreatDoor
