/-
  The walk of the law BuildSame.
-/
import Derived.Test.YtgoeoekdlcbmpaaGreatDoorBdQ
import Derived.Test.YtgoeoekdlcbmpaaGreatDoorBdH
import Derived.Test.YtgoeoekdlcbmpaaGreatDoorBdK
import Derived.Test.YtgoeoekdlcbmpaaGreatDoorBdF
import Derived.BigQuiet
import Derived.Deep.RegionHeld3

namespace Go.Proofs.YtgoeoekdlcbmpaaGreatDoor
open Go Go.RowKit Go.Kf Go.Sort Go.Proofs

set_option maxRecDepth 100000 in
set_option maxHeartbeats 8000000 in
theorem buildSame_all (fs : List Ent) (vf : Value) (R : List RV) (v : Value) (runs : List Int) (vr : Value) (many : Int) (w : World) (S : Nat → Addr) (hfr : ReadsK 2 w vf (fs.map fileRow)) (hr : ReadsK 4 w v (R.map rvRow)) (hi : ∀ x ∈ R, Reads w x.2 (x.1.ins.map str) ∧ NilOr x.2)
    (hrr : Reads w vr (runs.map (Value.int .i64))) (hm : Ml w) (hE : BErr w S) (hN : NErr w) (ht : Tab w) :
    Calls Tryz.prog 4 #[vf, v, vr, .int .i64 many] w fun e w' => e = .returned (.bool true) ∧ Below w.heap.size w w' := by
  have hrow : ∀ r ∈ R.map rvRow, r ≠ [] := fun r hr => by obtain ⟨x, -, rfl⟩ := List.mem_map.1 hr; simp [rvRow]
  have hrowf : ∀ r ∈ fs.map fileRow, r ≠ [] := fun r hr => by obtain ⟨x, -, rfl⟩ := List.mem_map.1 hr; simp [fileRow]
  obtain ⟨a, c, hv, hle, -⟩ := id hr
  rw [List.length_map] at hv hle
  subst hv
  obtain ⟨ar, cr, hvr, hler, -⟩ := id hrr
  rw [List.length_map] at hvr hler
  subst hvr
  have KW := Lib.hid (built_any w S hm hE hN ht)
  have KLF := Lib.hid (fun w1 (hb : Below w.heap.size w w1) => longFiles2_any vf fs w1 (readsK_below0 hfr hrowf hb))
  have KL := Lib.hid (fun w1 (hb : Below w.heap.size w w1) => longRules_any R (.slice a R.length c) 12 w1 (readsK_below0 hr hrow hb) (fun x hx => (hi x hx).1.below0 hb) (by decide))
  have KT := Lib.hid (fun w1 (hb : Below w.heap.size w w1) (hF : FewFiles fs) => fileTree2_any vf fs w1 S (readsK_below0 hfr hrowf hb) hF (hm.below hb (Nat.le_refl _)) (hE.below hb).t)
  have KO := Lib.hid (fun w1 (hb : Below w.heap.size w w1) (hs : ∀ x ∈ R, ShortR x.1) (hn : R.length ≤ 1000) => ownRules_any R (.slice a R.length c) w1 (readsK_below0 hr hrow hb) (fun x hx => ⟨(hi x hx).1.below0 hb, (hi x hx).2, by have := (hs x hx).2.2.2.1; omega⟩) hn)
  have KB := Lib.hid (fun w1 (hb : Below w.heap.size w w1) (tb mb : Nat) (m : List Ent) (R' : List RV) (v' : Value) (outs : List (List UInt8)) (vo : Value) (ca : Option Addr) (h : ∃ B, OwnAt B w1 v' R') (hs : ∀ x ∈ R', ShortR x.1) (h2 : R'.length ≤ 1000) (hT : TAt w1 tb mb m) (hO : Reads w1 vo (outs.map str)) (ho : outs.length ≤ 1000) =>
    bnew_any (S := S) w1 outs vo ca (own_rulesT h).1 (own_rulesT h).2 hT hO ho (hm.below hb (Nat.le_refl _)) (hE.below hb).k (hE.below hb).l (hN.below hb (Nat.le_refl _)) (tab_below ht hb (Nat.le_refl _)) (short_bounds hs) h2)
  have KWO := Lib.hid (fun w1 (hb : Below w.heap.size w w1) (tb mb : Nat) (m : List Ent) (R' : List RV) (v' : Value) (out : List UInt8) (h : ∃ B, OwnAt B w1 v' R') (hs : ∀ x ∈ R', ShortR x.1) (h2 : R'.length ≤ 1000) (hT : TAt w1 tb mb m) (hf : ∀ p b, mlook p m = some b → b.length ≤ 2000) =>
    wof_any (S := S) w1 out (own_rulesT h).1 (own_rulesT h).2 hT (hm.below hb (Nat.le_refl _)) (hE.below hb).k (hE.below hb).l (hN.below hb (Nat.le_refl _)) (tab_below ht hb (Nat.le_refl _)) (short_bounds hs) hf h2)
  have HRC := Lib.hid (fun w1 (hb : Below w.heap.size w w1) => readsK_below0 hr hrow hb)
  have HRR := Lib.hid (fun w1 (hb : Below w.heap.size w w1) => hrr.below0 hb)
  have HE := Lib.hid (fun w1 (hb : Below w.heap.size w w1) => (⟨hm.below hb (Nat.le_refl _), hE.below hb, hN.below hb (Nat.le_refl _), tab_below ht hb (Nat.le_refl _)⟩ : Ml w1 ∧ BErr w1 S ∧ NErr w1 ∧ Tab w1))
  have hml : (R.map Prod.fst).length = R.length := List.length_map _
  have HML := Lib.hid hml
  clear hfr hr hi hm hE hN ht hrow hrowf hml hrr
  go_enter Tryz.func4, Tryz.ntmps4
  go_wp2_with fail
  refine KW.out.mono ?_
  rintro e w1 ⟨rfl, hb1⟩
  have HB1 := Lib.hid hb1
  clear hb1
  go_wp2_with fail
  refine (KLF.out w1 HB1.out).mono ?_
  rintro e w2 ⟨rfl, rfl | ⟨rfl, hff⟩⟩
  · go_wp2
    go_ret
    exact ⟨rfl, HB1.out⟩
  have HFF := Lib.hid hff
  clear hff
  go_wp2_with fail
  refine (KL.out w1 HB1.out).mono ?_
  rintro e w2 ⟨rfl, rfl | ⟨rfl, hn, hs⟩⟩
  · go_wp2
    go_ret
    exact ⟨rfl, HB1.out⟩
  have HS := Lib.hid hs
  have hn12 : R.length ≤ 41 := by omega
  clear hn hs
  by_cases hol : 60 < runs.length
  · have hol2 : (60 < (runs.length : Int)) = True := eq_true (by omega)
    go_wp2
    go_ret
    exact ⟨rfl, HB1.out⟩
  have hol2 : (60 < (runs.length : Int)) = False := eq_false (by omega)
  by_cases hm1 : many < 1
  · have hm1' : (many < 1) = True := eq_true hm1
    go_wp2
    go_ret
    exact ⟨rfl, HB1.out⟩
  have hm1' : (many < 1) = False := eq_false hm1
  by_cases hm2 : 100 < many
  · have hm2' : (100 < many) = True := eq_true hm2
    go_wp2
    go_ret
    exact ⟨rfl, HB1.out⟩
  have hm2' : (100 < many) = False := eq_false hm2
  obtain ⟨mn, rfl⟩ : ∃ k : Nat, many = k := ⟨many.toNat, by omega⟩
  have HMN : Hid (1 ≤ mn ∧ mn ≤ 100) := Lib.hid (by omega)
  have KT1 := Lib.hid (KT.out w1 HB1.out HFF.out)
  go_wp2_with fail
  refine KT1.out.mono ?_
  rintro e w2 ⟨tb, mb, rb, lv, rfl, htc⟩
  have HTW := Lib.hid (files_tw' HFF.out)
  have HB2 := Lib.hid (HB1.out.trans (htc.b.mono HB1.out.size))
  have HT2 := Lib.hid htc.t
  generalize hfm : filesM fs = m at *
  generalize hfl : filesL fs = L at *
  have KC := Lib.hid (new_ok mn w2 HMN.out.1 HMN.out.2)
  clear htc hfm hfl KT1
  have hw2 := HB2.out.size
  go_wp2_with fail
  refine KC.out.mono ?_
  rintro e w3 ⟨pb, cb, rfl, hpb, hcb, hC3, hb3⟩
  have HC3 := Lib.hid hC3
  have HB3 := Lib.hid hb3
  have HWL := Lib.hid (fun (wl : World) (hb : Below w2.heap.size w2 wl) => HB2.out.trans (hb.mono HB2.out.size))
  have hz23 := hb3.size
  clear hC3 hb3 KC
  go_wp2_with fail
  go_loopw [14, 15] (fun uv iv wl => ∃ j : Nat, j ≤ R.length ∧ iv = .int .i64 j ∧ wl.ownsRow w3.heap.size 9 1 uv j ((((R.map Prod.fst).take j).map RuleL.out).map str) ∧ Below w3.heap.size w3 wl) (fun _ iv _ => R.length - (intOf iv).toNat)
  case atStart => exact ⟨0, by omega, rfl, World.ownsRow_nil _ _ _ _, Below.refl _ _⟩
  case round =>
    obtain ⟨j, hj, rfl, hown, hbj⟩ := hrel
    have HO := Lib.hid hown
    have HB := Lib.hid hbj
    have hzj := hbj.size
    by_cases hlt : j < R.length
    · have hlc : ((j : Int) < (R.length : Int)) = True := eq_true (by omega)
      obtain ⟨b, o, hix, -, hce⟩ := (HRC.out wr (HWL.out wr (HB3.out.trans (hbj.mono HB3.out.size)))).at (P := Tryz.prog) Tryz.underlying23 (by kernel_rfl) j (by simpa using hlt)
      simp only [List.getElem_map] at hce
      have hc0 := hce 0 _ rfl
      simp only [Nat.add_zero] at hc0
      have HTK : Hid (((R.map Prod.fst).take (j + 1)).map RuleL.out = ((R.map Prod.fst).take j).map RuleL.out ++ [R[j].1.out]) := Lib.hid (by
        rw [List.take_succ_eq_append_getElem (by simpa using hlt), List.map_append, List.map_singleton, List.getElem_map])
      have hlen : (((R.map Prod.fst).take j).map RuleL.out).length = j := by simp; omega
      generalize ((R.map Prod.fst).take j).map RuleL.out = ys at *
      generalize R[j].1.out = y at *
      clear hown hbj hce
      go_wp2_with (first
        | (at_builtin
           refine wpList_app _ rfl _ _ 32 rfl tyStrsK w3.heap.size _ _ _ rfl (HO.out.alloc _) ⟨wr.heap.size, 0, none⟩ 1 1 [str y] rfl rfl (news_one ?_) ?_ (by decide) ?_ ?_ ?_
           · rw [cell_of_heap (heap_alloc_here wr _)]; rfl
           · intro u hu; simp at hu; subst hu; rfl
           · omega
           · simp; omega
           intro v6 w6 ho6 hg6 hloc6
           have HO6 : Hid (w6.ownsRow w3.heap.size 9 1 v6 (j + 1) ((ys ++ [y]).map str)) := Lib.hid (by simpa using ho6)
           have HB6 : Hid (Below w3.heap.size w3 w6) := Lib.hid ((HB.out.alloc hzj _).grown hg6 (by simp; omega) (fun q hq => (HO.out.lt q hq).1))
           clear ho6 hg6 hloc6))
      go_wp2
      go_roundw
      case rel => exact ⟨j + 1, by omega, by go_num, by rw [HTK.out]; exact HO6.out, HB6.out⟩
      case measure => simp [intOf]; omega
    · obtain rfl : j = R.length := by omega
      have hlc : ((R.length : Int) < (R.length : Int)) = False := eq_false (by omega)
      rw [List.take_of_length_le (by simp)] at hown
      have hro := ownsRow_reads hown
      have HRO := Lib.hid (fun wl (hb : Below wr.heap.size wr wl) => hro.below0 hb)
      have HBR := Lib.hid (HB3.out.trans (hbj.mono HB3.out.size))
      have hbr := HBR.out.size
      have hbj3 := hbj.size
      have HCR := Lib.hid (HC3.out.below hbj)
      have KO3 := Lib.hid (KO.out wr (HWL.out wr HBR.out) HS.out (by omega))
      clear hown hbj hro HO HB
      go_wp2_with fail
      refine KO3.out.mono ?_
      rintro e w4 ⟨v4, R4, rfl, he4, ho4, hb4⟩
      have HB4 := Lib.hid (HBR.out.trans (hb4.mono hbr))
      have HR4 := Lib.hid hb4
      have hl4 : R4.length = R.length := by have := congrArg List.length he4; simpa using this
      have KB4 := Lib.hid (KB.out w4 (HWL.out w4 HB4.out) tb mb m R4 v4 ((R.map Prod.fst).map RuleL.out) _ (some ⟨pb, 0, none⟩) ⟨_, ho4⟩ (short_other HS.out he4) (by omega) (HT2.out.below HB4.out) (HRO.out w4 hb4) (by simp; omega))
      rw [he4] at KB4
      have hz4 := HB4.out.size
      have hzr4 := hb4.size
      clear he4 ho4 hb4 KO3
      go_wp2_with fail
      refine KB4.out.mono ?_
      rintro e w5 ⟨ha5, hb5⟩
      have HB5 := Lib.hid (HB4.out.trans (hb5.mono HB4.out.size))
      have HR5 := Lib.hid (HR4.out.trans (hb5.mono HR4.out.size))
      have KO6 := Lib.hid (KO.out w5 (HWL.out w5 HB5.out) HS.out (by omega))
      have hz45 := hb5.size
      rcases once_new2 ha5 with ⟨⟨T, x, rfl⟩, hno⟩ | ⟨o, D, rfl, hord, hcv, hat, hD⟩
      · have HNO := Lib.hid hno
        clear ha5 hb5 KB4 hno
        go_wp2_with fail
        refine KO6.out.mono ?_
        rintro e w6 ⟨v6, R6, rfl, he6, ho6, hb6⟩
        have HB6 := Lib.hid (HB5.out.trans (hb6.mono HB5.out.size))
        have hl6 : R6.length = R.length := by have := congrArg List.length he6; simpa using this
        have hr6 := HR5.out.trans (hb6.mono HR5.out.size)
        have HR6 := Lib.hid hr6
        have KB6 := Lib.hid (KB.out w6 (HWL.out w6 HB6.out) tb mb m R6 v6 ((R.map Prod.fst).map RuleL.out) _ none ⟨_, ho6⟩ (short_other HS.out he6) (by omega) (HT2.out.below HB6.out) (HRO.out w6 hr6) (by simp; omega))
        rw [he6] at KB6
        clear he6 ho6 hb6 KO6 hr6
        go_wp2_with fail
        refine KB6.out.mono ?_
        rintro e w7 ⟨ha7, hb7⟩
        have HB7 := Lib.hid (HB6.out.trans (hb7.mono HB6.out.size))
        have HR7 := Lib.hid (HR6.out.trans (hb7.mono HR6.out.size))
        have KO8 := Lib.hid (KO.out w7 (HWL.out w7 HB7.out) HS.out (by omega))
        rcases once_new2 ha7 with ⟨⟨T, x, rfl⟩, -⟩ | ⟨o, D, -, hord, -⟩
        case inr => exact absurd hord (HNO.out o)
        clear ha7 hb7 KB6
        go_wp2_with fail
        refine KO8.out.mono ?_
        rintro e w8 ⟨v8, R8, rfl, he8, ho8, hb8⟩
        have HB8 := Lib.hid (HB7.out.trans (hb8.mono HB7.out.size))
        have hl8 : R8.length = R.length := by have := congrArg List.length he8; simpa using this
        have hr8 := HR7.out.trans (hb8.mono HR7.out.size)
        have KB8 := Lib.hid (KB.out w8 (HWL.out w8 HB8.out) tb mb m R8 v8 ((R.map Prod.fst).map RuleL.out) _ (some ⟨pb, 0, none⟩) ⟨_, ho8⟩ (short_other HS.out he8) (by omega) (HT2.out.below HB8.out) (HRO.out w8 hr8) (by simp; omega))
        rw [he8] at KB8
        clear he8 ho8 hb8 KO8 hr8
        go_wp2_with fail
        refine KB8.out.mono ?_
        rintro e w9 ⟨ha9, hb9⟩
        have HB9 := Lib.hid (HB8.out.trans (hb9.mono HB8.out.size))
        rcases once_new2 ha9 with ⟨⟨T, x, rfl⟩, -⟩ | ⟨o, D, -, hord, -⟩
        case inr => exact absurd hord (HNO.out o)
        clear ha9 hb9 KB8
        go_wp2
        go_ret
        exact ⟨by simp, HWL.out _ HB9.out⟩
      have HORD := Lib.hid hord
      have HA5 := Lib.hid hat
      have HD := Lib.hid hD
      clear ha5 hb5 KB4 hat hD hord
      go_wp2_with fail
      refine KO6.out.mono ?_
      rintro e w6 ⟨v6, R6, rfl, he6, ho6, hb6⟩
      have HB6 := Lib.hid (HB5.out.trans (hb6.mono HB5.out.size))
      have hl6 : R6.length = R.length := by have := congrArg List.length he6; simpa using this
      have hr6 := HR5.out.trans (hb6.mono HR5.out.size)
      have HR6 := Lib.hid hr6
      have hz56 := hb6.size
      have HA6 := Lib.hid (HA5.out.below hb6)
      have KB6 := Lib.hid (KB.out w6 (HWL.out w6 HB6.out) tb mb m R6 v6 ((R.map Prod.fst).map RuleL.out) _ none ⟨_, ho6⟩ (short_other HS.out he6) (by omega) (HT2.out.below HB6.out) (HRO.out w6 hr6) (by simp; omega))
      rw [he6] at KB6
      clear he6 ho6 hb6 KO6 hr6
      go_wp2_with fail
      refine KB6.out.mono ?_
      rintro e w7 ⟨ha7, hb7⟩
      have HB7 := Lib.hid (HB6.out.trans (hb7.mono HB6.out.size))
      have HR7 := Lib.hid (HR6.out.trans (hb7.mono HR6.out.size))
      have KO8 := Lib.hid (KO.out w7 (HWL.out w7 HB7.out) HS.out (by omega))
      have hz67 := hb7.size
      have HA7 := Lib.hid (HA6.out.below hb7)
      rcases once_new2 ha7 with ⟨-, hno⟩ | ⟨o7, E, rfl, -, hcw, hat7, hE0⟩
      · exact absurd HORD.out (hno o)
      have HE7 := Lib.hid hat7
      have HEB := Lib.hid hE0
      clear ha7 hb7 KB6 hat7 hE0
      go_wp2_with fail
      refine KO8.out.mono ?_
      rintro e w8 ⟨v8, R8, rfl, he8, ho8, hb8⟩
      have HB8 := Lib.hid (HB7.out.trans (hb8.mono HB7.out.size))
      have hl8 : R8.length = R.length := by have := congrArg List.length he8; simpa using this
      have hr8 := HR7.out.trans (hb8.mono HR7.out.size)
      have hz78 := hb8.size
      have HA8 := Lib.hid (HA7.out.below hb8)
      have HE8 := Lib.hid (HE7.out.below hb8)
      have KB8 := Lib.hid (KB.out w8 (HWL.out w8 HB8.out) tb mb m R8 v8 ((R.map Prod.fst).map RuleL.out) _ (some ⟨pb, 0, none⟩) ⟨_, ho8⟩ (short_other HS.out he8) (by omega) (HT2.out.below HB8.out) (HRO.out w8 hr8) (by simp; omega))
      rw [he8] at KB8
      clear he8 ho8 hb8 KO8
      go_wp2_with fail
      refine KB8.out.mono ?_
      rintro e w9 ⟨ha9, hb9⟩
      have HB9 := Lib.hid (HB8.out.trans (hb9.mono HB8.out.size))
      have hz89 := hb9.size
      rcases once_new2 ha9 with ⟨-, hno⟩ | ⟨o9, G, rfl, -, hcg, hat9, hG0⟩
      · exact absurd HORD.out (hno o)
      obtain ⟨P, hP⟩ : ∃ P, List.range (R.map Prod.fst).length = P := ⟨_, rfl⟩
      rw [hP] at hat9 hG0
      have HP := Lib.hid hP
      have HPO : Hid (Ord (R.map Prod.fst) P o) := Lib.hid (by rw [← hP]; exact HORD.out)
      have HDQ : Hid (∀ q, D.has P q → w4.heap.size ≤ q ∧ q < w5.heap.size) := Lib.hid (fun q hq => by
        rw [← hP] at hq
        exact ⟨HD.out q hq, HA5.out.lt hq⟩)
      have HEQ : Hid (∀ q, E.has P q → w6.heap.size ≤ q ∧ q < w7.heap.size) := Lib.hid (fun q hq => by
        rw [← hP] at hq
        exact ⟨HEB.out q hq, HE7.out.lt hq⟩)
      have HGQ : Hid (∀ q, G.has P q → w8.heap.size ≤ q ∧ q < w9.heap.size) := Lib.hid (fun q hq => ⟨hG0 q hq, hat9.lt hq⟩)
      have HFQ : Hid (∀ q, foot pb cb (.slice none 0 0) q → w2.heap.size ≤ q ∧ q < w3.heap.size) := Lib.hid (fun q hq => by
        refine ⟨?_, HC3.out.lt hq⟩
        rcases hq with rfl | rfl | hq
        · exact hpb
        · exact hcb
        · cases hq)
      have hA9 : BAt S (R.map Prod.fst) P m D w9 (fun _ => st0) := by rw [← hP]; exact HA8.out.below hb9
      have hE9 : BAt S (R.map Prod.fst) P m E w9 (fun _ => st0) := by rw [← hP]; exact HE8.out.below hb9
      have hC9 : CacheAt w9 pb cb (.slice none 0 0) mn [] [] := HCR.out.below (hr8.trans (hb9.mono hr8.size))
      have HRO9 := Lib.hid hr8
      have hcok : COk (some ⟨mn, [], []⟩) := fun c h => by
        cases h
        exact ⟨CSt.zero HMN.out.1 HMN.out.2, CInv.zero _⟩
      have HBD : Hid (BO S (R.map Prod.fst) P m D pb cb w2.heap.size (.slice none 0 0) (some ⟨mn, [], []⟩) (fun _ => st0) w9) := Lib.hid (BO.made hA9 (fun q hq => by have := (HDQ.out q hq).1; omega) ⟨hcv, hC9⟩ (fun q hq => (HFQ.out q hq).1) (fun q hq hf => by have := (HDQ.out q hq).1; have := (HFQ.out q hf).2; omega) hcok)
      have HBE : Hid (BO S (R.map Prod.fst) P m E pb cb w2.heap.size (.slice none 0 0) none (fun _ => st0) w9) := Lib.hid (BO.made hE9 (fun q hq => by have := (HEQ.out q hq).1; omega) hcw (fun q hq => hq.elim) (fun q _ hf => hf) (fun c h => by cases h))
      have HG9 := Lib.hid hat9
      have HCG := Lib.hid hcg
      have HENV : Hid (BEnv S (R.map Prod.fst) m w2) := Lib.hid (once_env HS.out (tw_bound HTW.out) (HE.out w2 HB2.out))
      clear ha9 hb9 KB8 hat9 hG0 hA9 hE9 hC9 hcok hr8 hP
      go_wp2_with fail
      go_loopw [22] (fun iv wl => ∃ (i : Nat) (c1 : Option CS) (s1 : Nat → St) (lv1 : Value), i ≤ runs.length ∧ iv = .int .i64 i ∧ Steps (R.map Prod.fst) P (fun p => mlook p m) (some ⟨mn, [], []⟩) (fun _ => st0) c1 s1 ∧ BO S (R.map Prod.fst) P m D pb cb w2.heap.size lv1 c1 s1 wl ∧ Turned D P pb cb (.slice none 0 0) (some ⟨mn, [], []⟩) w9 lv1 c1 wl) (fun iv _ => runs.length - (intOf iv).toNat)
      case atStart => exact ⟨0, _, _, _, by omega, rfl, .refl, HBD.out, Turned.refl _ _ _ _ _ _ _⟩
      case round =>
        obtain ⟨i, c1, s1, lv1, hi, rfl, hst, hbo, htu⟩ := hrel
        have HST := Lib.hid hst
        have HBO := Lib.hid hbo
        have HTU := Lib.hid htu
        have hbw := HBD.out.base rfl HB9.out htu
        have HBW := Lib.hid hbw
        by_cases hlt : i < runs.length
        · have hlc : ((i : Int) < (runs.length : Int)) = True := eq_true (by omega)
          obtain ⟨b, of, hix, hce⟩ := (HRR.out wr (HWL.out wr hbw)).at (P := Tryz.prog) Tryz.underlying24 (by kernel_rfl) i (by simpa using hlt)
          simp only [List.getElem_map] at hce
          generalize runs[i] = z at *
          have KRU := Lib.hid (brun_any wr hbo HPO.out w2 rfl HENV.out hbw z)
          clear hst hbo htu hbw
          go_wp2_with fail
          refine KRU.out.mono ?_
          rintro e w10 ⟨hit, code, c2, s2, lv2, rfl, hrel, hbo2, htu2⟩
          have HST2 := Lib.hid (HST.out.trans hrel.steps)
          have HBO2 := Lib.hid hbo2
          have HTU2 := Lib.hid (HTU.out.trans htu2)
          clear hrel hbo2 htu2 KRU
          go_wp2
          go_roundw
          case rel => exact ⟨i + 1, c2, s2, lv2, by omega, by go_num, HST2.out, HBO2.out, HTU2.out⟩
          case measure => simp [intOf]; omega
        · have HIX : Hid (i = runs.length) := Lib.hid (by omega)
          have hlc : ((i : Int) < (runs.length : Int)) = False := eq_false (by omega)
          have KAA := Lib.hid (ball_any wr hbo HPO.out w2 rfl HENV.out hbw)
          clear hst hbo htu hbw
          go_wp2_with fail
          refine KAA.out.mono ?_
          rintro e w10 ⟨ka, c2, sa, lv2, rfl, hra, hbo2, htu2⟩
          have HSA := Lib.hid hra.steps
          have HBO2 := Lib.hid hbo2
          have HTU2 := Lib.hid (HTU.out.trans htu2)
          clear hra hbo2 htu2 KAA
          have HC0 : Hid (COk (some ⟨mn, [], []⟩)) := Lib.hid HBD.out.cok
          have hco := ((HST.out.trans HSA.out.1).inv HPO.out (BInv.zero _ _ _) HC0.out).2.2
          obtain ⟨cs2, rfl⟩ : ∃ cs2, c2 = some cs2 := by
            cases c2 with
            | none => cases hco
            | some cs2 => exact ⟨cs2, rfl⟩
          have HFT : Hid (∀ q, foot pb cb lv2 q → (w2.heap.size ≤ q ∧ q < w3.heap.size) ∨ w9.heap.size ≤ q) := Lib.hid (fun q hq => (HTU2.out.2 q hq).elim (fun h => Or.inl (HFQ.out q h)) Or.inr)
          have hb10 := HBD.out.base rfl HB9.out HTU2.out
          have hz10 := HTU2.out.1.size
          obtain ⟨X, hX⟩ : ∃ W, w10.alloc (.cells #[.int .i64 (cntP P sa isRan : Int), .int .i64 (cntP P sa isHit : Int), .int .i64 (cntP P sa isFailed : Int), .int .i64 (cntP P sa isLeft : Int)] 52) = W := ⟨_, rfl⟩
          have hbX : Below w10.heap.size w10 X := by rw [← hX]; exact (Below.refl _ w10).alloc (Nat.le_refl _) _
          have hgX : X.heap[w10.heap.size]? = some (.cells #[.int .i64 (cntP P sa isRan : Int), .int .i64 (cntP P sa isHit : Int), .int .i64 (cntP P sa isFailed : Int), .int .i64 (cntP P sa isLeft : Int)] 52 (0, 0)) := by rw [← hX]; exact heap_alloc_here w10 _
          have HGX := Lib.hid hgX
          have hzX : X.heap.size = w10.heap.size + 1 := by rw [← hX]; simp
          have HBX := Lib.hid (hb10.trans (hbX.mono hb10.size))
          have HDX := Lib.hid (HBO2.out.below hbX)
          have hE10 := HBE.out.fr HTU2.out.1 (fun q hq => by
            have h1 := hq.elim (HEQ.out q) (fun h => h.elim)
            refine ⟨by omega, fun hs => ?_⟩
            rcases hs with h2 | h2
            · have := (HDQ.out q (Or.inr h2)).2; omega
            · have := (HFQ.out q h2).2; omega)
          have HEX := Lib.hid (hE10.below hbX)
          have hG10 : BAt S (R.map Prod.fst) P m G w10 (fun _ => st0) := HG9.out.of_fr HTU2.out.1 (fun q hq => by
            have h1 := HGQ.out q hq
            refine ⟨h1.2, fun hs => ?_⟩
            rcases hs with h2 | h2
            · have := (HDQ.out q (Or.inr h2)).2; omega
            · have := (HFQ.out q h2).2; omega)
          have HGX' := Lib.hid (hG10.below hbX)
          have KAB := Lib.hid (ball_any X HEX.out HPO.out w2 rfl HENV.out HBX.out)
          clear hgX hE10 hG10 hb10 hbX hco
          go_wp2_with fail
          refine KAB.out.mono ?_
          rintro e w11 ⟨kb, cb', sb, lvb, rfl, hrb, hboE, htuE⟩
          have HSB := Lib.hid hrb.steps
          have HE11 := Lib.hid hboE
          have hfE := htuE.1
          have hz11 := hfE.size
          have HES : Hid (∀ q, (E.steps P q ∨ cfoot pb cb (.slice none 0 0) none q) → w6.heap.size ≤ q ∧ q < w7.heap.size) := Lib.hid (fun q hq => hq.elim (fun h => HEQ.out q (Or.inr h)) (fun h => h.elim))
          have hb11 := HEX.out.base rfl HBX.out htuE
          have hD11 := HDX.out.fr hfE (fun q hq => ⟨HDX.out.lt hq, fun hs => by
            have h2 := HES.out q hs
            rcases hq with h3 | h3
            · have := (HDQ.out q h3).2; omega
            · rcases HFT.out q h3 with h4 | h4 <;> omega⟩)
          have hG11 := HGX'.out.of_fr hfE (fun q hq => ⟨HGX'.out.lt hq, fun hs => by
            have h2 := HES.out q hs
            have := (HGQ.out q hq).1; omega⟩)
          have hgX11 := (hfE.block _ (by omega : w10.heap.size < X.heap.size) (fun hs => by have := HES.out _ hs; omega)).trans HGX.out
          obtain ⟨Y, hY⟩ : ∃ W, w11.alloc (.cells #[.int .i64 (cntP P sb isRan : Int), .int .i64 (cntP P sb isHit : Int), .int .i64 (cntP P sb isFailed : Int), .int .i64 (cntP P sb isLeft : Int)] 52) = W := ⟨_, rfl⟩
          have hbY : Below w11.heap.size w11 Y := by rw [← hY]; exact (Below.refl _ w11).alloc (Nat.le_refl _) _
          have HGYX := Lib.hid ((hbY.block _ (by omega : w10.heap.size < w11.heap.size)).trans hgX11)
          have HGYY : Hid (Y.heap[w11.heap.size]? = some (.cells #[.int .i64 (cntP P sb isRan : Int), .int .i64 (cntP P sb isHit : Int), .int .i64 (cntP P sb isFailed : Int), .int .i64 (cntP P sb isLeft : Int)] 52 (0, 0))) := Lib.hid (by rw [← hY]; exact heap_alloc_here w11 _)
          have hzY : Y.heap.size = w11.heap.size + 1 := by rw [← hY]; simp
          have HBY := Lib.hid (hb11.trans (hbY.mono hb11.size))
          have HDY := Lib.hid (hD11.below hbY)
          have HEY := Lib.hid (hboE.below hbY)
          have HGB : Hid (BO S (R.map Prod.fst) P m G pb cb w2.heap.size lv2 (some cs2) (fun _ => st0) Y) := Lib.hid ⟨hG11.below hbY, ⟨HCG.out, (hD11.below hbY).cache.2⟩, fun q hq => hq.elim (fun h => by have := (HGQ.out q (Or.inr h)).1; omega) (fun h => HBO2.out.low q (Or.inr h)), fun q hq hf => by
            have h1 := HGQ.out q hq
            rcases HFT.out q hf with h4 | h4 <;> omega, BInv.zero _ _ _, HBO2.out.cok⟩
          have KAD := Lib.hid (ball_any Y HGB.out HPO.out w2 rfl HENV.out HBY.out)
          clear hrb hboE htuE hfE hb11 hD11 hG11 hgX11 hbY KAB
          go_wp2_with fail
          refine KAD.out.mono ?_
          rintro e w12 ⟨kd, c3, sd, lv3, rfl, hrd, hboG, htuG⟩
          have HSD := Lib.hid hrd.steps
          have hfG := htuG.1
          have hz12 := hfG.size
          have HGS : Hid (∀ q, (G.steps P q ∨ cfoot pb cb lv2 (some cs2) q) → ((w8.heap.size ≤ q ∧ q < w9.heap.size) ∨ (w2.heap.size ≤ q ∧ q < w3.heap.size) ∨ w9.heap.size ≤ q) ∧ q < w10.heap.size) := Lib.hid (fun q hq => by
            rcases hq with h | h
            · have h1 := HGQ.out q (Or.inr h)
              exact ⟨Or.inl h1, by omega⟩
            · have h1 := HFT.out q h
              exact ⟨Or.inr h1, HBO2.out.lt (Or.inr h)⟩)
          have hb12 := HGB.out.base rfl HBY.out htuG
          have hD12 := HDY.out.at_.of_fr hfG (fun q hq => ⟨HDY.out.at_.lt hq, fun hs => by
            have h3 := HDQ.out q hq
            rcases hs with h | h
            · have := (HGQ.out q (Or.inr h)).1; omega
            · exact HBO2.out.apart q hq h⟩)
          have hE12 := HEY.out.at_.of_fr hfG (fun q hq => ⟨HEY.out.at_.lt hq, fun hs => by
            have h3 := HEQ.out q hq
            have h4 := (HGS.out q hs).1
            omega⟩)
          have hgX12 := (hfG.block _ (by omega : w10.heap.size < Y.heap.size) (fun hs => by have := (HGS.out _ hs).2; omega)).trans HGYX.out
          have hgY12 := (hfG.block _ (by omega : w11.heap.size < Y.heap.size) (fun hs => by have := (HGS.out _ hs).2; omega)).trans HGYY.out
          obtain ⟨Z, hZ⟩ : ∃ W, w12.alloc (.cells #[.int .i64 (cntP P sd isRan : Int), .int .i64 (cntP P sd isHit : Int), .int .i64 (cntP P sd isFailed : Int), .int .i64 (cntP P sd isLeft : Int)] 52) = W := ⟨_, rfl⟩
          have hbZ : Below w12.heap.size w12 Z := by rw [← hZ]; exact (Below.refl _ w12).alloc (Nat.le_refl _) _
          have hgXZ := (hbZ.block _ (by omega : w10.heap.size < w12.heap.size)).trans hgX12
          have hgYZ := (hbZ.block _ (by omega : w11.heap.size < w12.heap.size)).trans hgY12
          have hgZZ : Z.heap[w12.heap.size]? = some (.cells #[.int .i64 (cntP P sd isRan : Int), .int .i64 (cntP P sd isHit : Int), .int .i64 (cntP P sd isFailed : Int), .int .i64 (cntP P sd isLeft : Int)] 52 (0, 0)) := by rw [← hZ]; exact heap_alloc_here w12 _
          have HBZ := Lib.hid (hb12.trans (hbZ.mono hb12.size))
          have HDZ := Lib.hid (hD12.below hbZ)
          have HEZ := Lib.hid (hE12.below hbZ)
          have HGZ := Lib.hid (hboG.at_.below hbZ)
          have hsm := same_builds HPO.out (tw_bound HTW.out) HMN.out.1 HMN.out.2 HST.out HSA.out.1 HSA.out.2 HSB.out.1 HSB.out.2 HSD.out.1 HSD.out.2
          have HSM := Lib.hid hsm
          have HID : Hid ((∀ i ∈ P, 1 ≤ (sa i).state ∧ (sa i).state ≤ 4)) := Lib.hid HBO2.out.inv.one
          obtain ⟨⟨x0, x1, x2, x3⟩, -⟩ := four_free hgXZ
          obtain ⟨⟨y0, y1, y2, y3⟩, -⟩ := four_free hgYZ
          obtain ⟨⟨z0, z1, z2, z3⟩, -⟩ := four_free hgZZ
          have hPl : P.length = R.length := by rw [← HP.out, List.length_range, HML.out]
          have sx := hsm.x
          have sy := hsm.y
          have sy0 := hsm.y0
          have sz := hsm.z
          have HFU := Lib.hid hsm.full
          generalize cntP P sa isRan = a1 at *
          generalize cntP P sa isHit = a2 at *
          generalize cntP P sa isFailed = a3 at *
          generalize cntP P sa isLeft = a4 at *
          generalize cntP P sb isRan = b1 at *
          generalize cntP P sb isHit = b2 at *
          generalize cntP P sb isFailed = b3 at *
          generalize cntP P sb isLeft = b4 at *
          generalize cntP P sd isRan = d1 at *
          generalize cntP P sd isHit = d2 at *
          generalize cntP P sd isFailed = d3 at *
          generalize cntP P sd isLeft = d4 at *
          have q1 : ((a1 : Int) + (a2 : Int) + (a3 : Int) + (a4 : Int) == (R.length : Int)) = true := by rw [beq_iff_eq]; omega
          have q1p : ((a1 : Int) + (a2 : Int) + (a3 : Int) + (a4 : Int) = (R.length : Int)) = True := eq_true (by omega)
          have q1b : ((a1 : Int) + (a2 : Int) + (a3 : Int) + (a4 : Int) != (R.length : Int)) = false := by rw [bne_eq_false_iff_eq]; omega
          have q2 : ((b1 : Int) + (b3 : Int) + (b4 : Int) == (R.length : Int)) = true := by rw [beq_iff_eq]; omega
          have q2p : ((b1 : Int) + (b3 : Int) + (b4 : Int) = (R.length : Int)) = True := eq_true (by omega)
          have q2b : ((b1 : Int) + (b3 : Int) + (b4 : Int) != (R.length : Int)) = false := by rw [bne_eq_false_iff_eq]; omega
          have q3 : ((d1 : Int) + (d2 : Int) + (d3 : Int) + (d4 : Int) == (R.length : Int)) = true := by rw [beq_iff_eq]; omega
          have q3p : ((d1 : Int) + (d2 : Int) + (d3 : Int) + (d4 : Int) = (R.length : Int)) = True := eq_true (by omega)
          have q3b : ((d1 : Int) + (d2 : Int) + (d3 : Int) + (d4 : Int) != (R.length : Int)) = false := by rw [bne_eq_false_iff_eq]; omega
          have q4 : ((b2 : Int) == 0) = true := by rw [beq_iff_eq]; omega
          have q4p : ((b2 : Int) = 0) = True := eq_true (by omega)
          have q4b : ((b2 : Int) != 0) = false := by rw [bne_eq_false_iff_eq]; omega
          have q4n : (b2 = 0) = True := eq_true (by omega)
          have la : a1 ≤ 41 ∧ a2 ≤ 41 ∧ a3 ≤ 41 ∧ a4 ≤ 41 := by omega
          have lb : b1 ≤ 41 ∧ b2 ≤ 41 ∧ b3 ≤ 41 ∧ b4 ≤ 41 := by omega
          have ld : d1 ≤ 41 ∧ d2 ≤ 41 ∧ d3 ≤ 41 ∧ d4 ≤ 41 := by omega
          obtain ⟨la1, la2, la3, la4⟩ := la
          obtain ⟨lb1, lb2, lb3, lb4⟩ := lb
          obtain ⟨ld1, ld2, ld3, ld4⟩ := ld
          have HPL := Lib.hid hPl
          clear hrd hboG htuG hfG hb12 hD12 hE12 hgX12 hgY12 hbZ hgXZ hgYZ hgZZ KAD hsm sx sy sy0 sz hPl
          by_cases hfull : R.length ≤ mn
          case' pos =>
            have f1 : ((R.length : Int) ≤ (mn : Int)) = True := eq_true (by omega)
            have f1n : (R.length ≤ mn) = True := eq_true hfull
            have hfu := HFU.out (by have := HPL.out; omega)
            have f2 : ((0 : Int) < (d1 : Int)) = False := eq_false (by omega)
            have f2n : (0 < d1) = False := eq_false (by omega)
            have f3 : ((d2 : Int) == (a1 : Int) + (a2 : Int)) = true := by rw [beq_iff_eq]; omega
            have f3p : ((d2 : Int) = (a1 : Int) + (a2 : Int)) = True := eq_true (by omega)
            have f3b : ((d2 : Int) != (a1 : Int) + (a2 : Int)) = false := by rw [bne_eq_false_iff_eq]; omega
            clear hfu
          case' neg =>
            have f1 : ((R.length : Int) ≤ (mn : Int)) = False := eq_false (by omega)
            have f1n : (R.length ≤ mn) = False := eq_false hfull
          all_goals
            clear hfull
            go_wp2_with fail
            clear x0 x1 x2 x3 y0 y1 y2 y3 z0 z1 z2 z3 q1 q2 q3 q4 q1p q2p q3p q4p q1b q2b q3b q4b q4n
            go_loopw [27] (fun iv wl => ∃ x : Nat, x ≤ R.length ∧ iv = .int .i64 x ∧ Below Z.heap.size Z wl) (fun iv _ => R.length - (intOf iv).toNat)
            case atStart => exact ⟨0, by omega, rfl, Below.refl _ _⟩
            case round =>
              obtain ⟨x, hx, rfl, hbx⟩ := hrel
              have HXX := Lib.hid hbx
              have hzZ := HBZ.out.size
              have hzx := hbx.size
              have HB2X := Lib.hid (HBZ.out.trans (hbx.mono hzZ))
              have hwx := HWL.out wr HB2X.out
              by_cases hlx : x < R.length
              · have hlcx : ((x : Int) < (R.length : Int)) = True := eq_true (by omega)
                have hxP : x ∈ P := by rw [← HP.out, List.mem_range, HML.out]; exact hlx
                obtain ⟨b, of, hix, -, hce⟩ := (HRC.out wr hwx).at (P := Tryz.prog) Tryz.underlying23 (by kernel_rfl) x (by simpa using hlx)
                simp only [List.getElem_map] at hce
                have hc0 := hce 0 _ rfl
                simp only [Nat.add_zero] at hc0
                have hot : R[x].1.out = ((R.map Prod.fst).getD x noR).out := by rw [getD_at (by rw [HML.out]; exact hlx), List.getElem_map]
                rw [hot] at hc0
                have hlb := lt_of_cell hc0
                have hw := HSM.out.want x hxP
                have hrb := HSM.out.rb x hxP
                have hrd := HSM.out.rd x hxP
                obtain ⟨ot, hote⟩ : ∃ ot, ((R.map Prod.fst).getD x noR).out = ot := ⟨_, rfl⟩
                have HOF := Lib.hid (fun (B : Nat) (e : Ending) (w' : World) (h : WOfAns S (R.map Prod.fst) (fun p => mlook p m) ot B e w') => of_out (S := S) HORD.out (by rw [HML.out]; exact hlx) (by rw [hote]; exact h))
                rw [hote] at hw HOF hc0
                have HCE : Hid (∀ wl, Below wr.heap.size wr wl → wl.cell? ⟨b, of, none⟩ = some (str ot)) := Lib.hid (fun wl hb => (hb.cell hlb).trans hc0)
                have KOO := Lib.hid (fun wl (hb : Below wr.heap.size wr wl) => (KO.out wl (hwx.trans (hb.mono hwx.size)) HS.out (by omega)).mono fun e w' h => (by
                  obtain ⟨v', R', h1, h2, h3, h4⟩ := h
                  exact ⟨⟨v', R', wl.heap.size, h1, h2, h3⟩, hb.trans (h4.mono hb.size)⟩ : (∃ v' R' B, e = .returned v' ∧ R'.map Prod.fst = R.map Prod.fst ∧ OwnAt B w' v' R') ∧ Below wr.heap.size wr w'))
                have KWW := Lib.hid (fun wl (v' : Value) (R' : List RV) (B : Nat) (hb : Below wr.heap.size wr wl) (he : R'.map Prod.fst = R.map Prod.fst) (ho : OwnAt B wl v' R') => (KWO.out wl (hwx.trans (hb.mono hwx.size)) tb mb m R' v' ot ⟨_, ho⟩ (short_other HS.out he) (by have := congrArg List.length he; simp only [List.length_map] at this; omega) (HT2.out.below (HB2X.out.trans (hb.mono HB2X.out.size))) (tw_bound HTW.out)).mono fun e w' h => (by
                  obtain ⟨h1, h2⟩ := h
                  rw [he] at h1
                  exact ⟨HOF.out _ _ _ h1, hb.trans (h2.mono hb.size)⟩ : e = .returned (.tuple #[str (wantV (R.map Prod.fst) (fun p => mlook p m) ot).2, errN S (wantV (R.map Prod.fst) (fun p => mlook p m) ot).1]) ∧ Below wr.heap.size wr w'))
                have KRA := Lib.hid (fun wl (hb : Below wr.heap.size wr wl) => bResult_any wl (HDZ.out.below (HXX.out.trans (hb.mono hzx))) hxP)
                have KRB := Lib.hid (fun wl (hb : Below wr.heap.size wr wl) => bResult_any wl (HEZ.out.below (HXX.out.trans (hb.mono hzx))) hxP)
                have KRD := Lib.hid (fun wl (hb : Below wr.heap.size wr wl) => bResult_any wl (HGZ.out.below (HXX.out.trans (hb.mono hzx))) hxP)
                rw [hrb] at KRB
                rw [hrd] at KRD
                rw [hw.1] at KWW
                have hw2 := hw.2
                generalize (resOf (sa x)).1 = pt at *
                generalize (resOf (sa x)).2 = pbb at *
                generalize (wantV (R.map Prod.fst) (fun p => mlook p m) ot).1 = cc at *
                clear hw hrb hrd hce hot hote hbx hwx HOF
                rcases errN_two S cc with ⟨hz, he⟩ | ⟨hz, ad, he⟩
                case' inl => obtain rfl : pbb = true := hw2.1 hz
                case' inr =>
                  obtain rfl : pbb = false := by
                    cases pbb with
                    | false => rfl
                    | true => exact absurd (hw2.2 rfl) hz
                all_goals
                  rw [he] at KWW
                  clear hz he hw2
                  go_wp2_with fail
                  go_region_held3 (fun w' => w'.cell? ⟨b, of, none⟩ = some (str ot))
                    (first | exact HCE.out _ hb14 | exact HCE.out _ hb13 | exact HCE.out _ (Below.refl _ _) | exact HCE.out _ (Below.refl _ _).drew)
                    (first
                      | (go_at_call 14
                         refine (KOO.out _ ?_).mono ?_
                         · first | exact Below.refl _ _ | exact (Below.refl _ _).drew
                         rintro e w13 ⟨⟨v13, R13, B13, rfl, he13, ho13⟩, hb13⟩)
                      | (go_at_call 22
                         refine (KWW.out _ v13 R13 B13 ?_ he13 ?_).mono ?_
                         · first | exact hb13 | exact hb13.drew
                         · first | exact ho13
                         rintro e w14 ⟨rfl, hb14⟩))
                  have HB14 := Lib.hid hb14
                  have hz14 := hb14.size
                  clear hb13 hb14 he13 ho13 KOO KWW HCE
                  go_wp2_with fail
                  refine (KRA.out _ HB14.out).mono ?_
                  rintro e w15 ⟨rfl, hb15⟩
                  have HB15 := Lib.hid (HB14.out.trans (hb15.mono hz14))
                  clear hb15
                  have hz15 := HB15.out.size
                  go_wp2_with fail
                  refine (KRB.out _ HB15.out).mono ?_
                  rintro e w16 ⟨rfl, hb16⟩
                  have HB16 := Lib.hid (HB15.out.trans (hb16.mono hz15))
                  clear hb16
                  have hz16 := HB16.out.size
                  go_wp2_with fail
                  refine (KRD.out _ HB16.out).mono ?_
                  rintro e w17 ⟨rfl, hb17⟩
                  have HB17 := Lib.hid (HXX.out.trans ((HB16.out.trans (hb17.mono hz16)).mono hzx))
                  clear hb17
                  go_wp2
                  go_roundw
                  case rel => exact ⟨x + 1, by omega, by go_num, HB17.out⟩
                  case measure => simp [intOf]; omega
              · have HXE : Hid (x = R.length) := Lib.hid (by omega)
                have hlcx : ((x : Int) < (R.length : Int)) = False := eq_false (by omega)
                have KOA := Lib.hid (fun wl (hb : Below wr.heap.size wr wl) => bOver_any wl (HDZ.out.below (HXX.out.trans (hb.mono hzx))) HPO.out.ok)
                have KOB := Lib.hid (fun wl (hb : Below wr.heap.size wr wl) => bOver_any wl (HEZ.out.below (HXX.out.trans (hb.mono hzx))) HPO.out.ok)
                have KOD := Lib.hid (fun wl (hb : Below wr.heap.size wr wl) => bOver_any wl (HGZ.out.below (HXX.out.trans (hb.mono hzx))) HPO.out.ok)
                rw [HSM.out.oa] at KOA
                rw [HSM.out.ob] at KOB
                rw [HSM.out.od] at KOD
                have HWX := Lib.hid hwx
                clear hbx hwx
                go_wp2_with fail
                refine (KOA.out wr (Below.refl _ _)).mono ?_
                rintro e w13 ⟨rfl, hb13⟩
                have HB13 := Lib.hid hb13
                clear hb13
                go_wp2_with fail
                refine (KOB.out _ HB13.out).mono ?_
                rintro e w14 ⟨rfl, hb14⟩
                have HB14 := Lib.hid (HB13.out.trans (hb14.mono HB13.out.size))
                clear hb14
                go_wp2_with fail
                refine (KOD.out _ HB14.out).mono ?_
                rintro e w15 ⟨rfl, hb15⟩
                have HB15 := Lib.hid (HB14.out.trans (hb15.mono HB14.out.size))
                clear hb15
                go_wp2
                go_ret
                exact ⟨rfl, HWX.out.trans (HB15.out.mono HWX.out.size)⟩
end Go.Proofs.YtgoeoekdlcbmpaaGreatDoor
