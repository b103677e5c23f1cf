/-
  The walk of the law BuildOnce.   Steps: built, longFiles, LongRules, len(runs); fileTree; loop (append the outs); OwnRules, build.New; make; loop (Ready, loop (State, loop (NeedsRule, State)), Run, store); loop (State, loop (NeedsRule, State)); Over.
-/
import Derived.Test.YtgoeoekdlcbmpaaGreatDoorBdE
import Derived.Test.YtgoeoekdlcbmpaaGreatDoorPkQ
import Derived.Test.YtgoeoekdlcbmpaaGreatDoorPkI
import Derived.Test.YtgoeoekdlcbmpaaGreatDoorPkG
import Derived.Test.YtgoeoekdlcbmpaaGreatDoorWtA

namespace Go.Proofs.YtgoeoekdlcbmpaaGreatDoor
open Go Go.RowKit Go.Kf Go.Sort Go.Proofs

theorem once_env {R : List RV} {S : Nat → Addr} {m : List Ent} {w : World} (hs : ∀ x ∈ R, ShortR x.1) (hf : ∀ p b, mlook p m = some b → b.length ≤ 2000) (h : Ml w ∧ BErr w S ∧ NErr w ∧ Tab w) : BEnv S (R.map Prod.fst) m w :=
  ⟨h.1, h.2.1, h.2.2.1, h.2.2.2, fun r hr => by
    obtain ⟨x, hx, rfl⟩ := List.mem_map.1 hr
    obtain ⟨h1, h2, h3, h4⟩ := hs x hx
    exact ⟨by omega, by omega, by omega, fun s hs => by have := h4.2.1 s hs; omega, by have := h4.1; omega⟩, hf⟩

set_option maxRecDepth 100000 in
set_option maxHeartbeats 8000000 in
theorem buildOnce_all (fs : List Ent) (vf : Value) (R : List RV) (v : Value) (runs : List Int) (vr : Value) (w : World) (S : Nat → Addr) (hfr : ReadsK 2 w vf (fs.map fileRow)) (hr : ReadsK 4 w v (R.map rvRow)) (hi : ∀ x ∈ R, Reads w x.2 (x.1.ins.map str) ∧ NilOr x.2) (hrr : Reads w vr (runs.map (Value.int .i64))) (hm : Ml w) (hE : BErr w S) (hN : NErr w) (ht : Tab w) :
    Calls Tryz.prog 3 #[vf, v, vr] w fun e w' => e = .returned (.bool true) ∧ Below w.heap.size w w' := by
  have hrow : ∀ r ∈ R.map rvRow, r ≠ [] := fun r hr => by obtain ⟨x, -, rfl⟩ := List.mem_map.1 hr; simp [rvRow]
  have hrowf : ∀ r ∈ fs.map fileRow, r ≠ [] := fun r hr => by obtain ⟨x, -, rfl⟩ := List.mem_map.1 hr; simp [fileRow]
  obtain ⟨a, c, hv, hle, -⟩ := id hr
  rw [List.length_map] at hv hle
  subst hv
  obtain ⟨ar, cr, hvr, hler, -⟩ := id hrr
  rw [List.length_map] at hvr hler
  subst hvr
  have KW := Lib.hid (built_any w S hm hE hN ht)
  have KLF := Lib.hid (fun w1 (hb : Below w.heap.size w w1) => longFiles2_any vf fs w1 (readsK_below0 hfr hrowf hb))
  have KL := Lib.hid (fun w1 (hb : Below w.heap.size w w1) => longRules_any R (.slice a R.length c) 12 w1 (readsK_below0 hr hrow hb) (fun x hx => (hi x hx).1.below0 hb) (by decide))
  have KT := Lib.hid (fun w1 (hb : Below w.heap.size w w1) (hF : FewFiles fs) => fileTree2_any vf fs w1 S (readsK_below0 hfr hrowf hb) hF (hm.below hb (Nat.le_refl _)) (hE.below hb).t)
  have KO := Lib.hid (fun w1 (hb : Below w.heap.size w w1) (hs : ∀ x ∈ R, ShortR x.1) (hn : R.length ≤ 1000) => ownRules_any R (.slice a R.length c) w1 (readsK_below0 hr hrow hb) (fun x hx => ⟨(hi x hx).1.below0 hb, (hi x hx).2, by have := (hs x hx).2.2.2.1; omega⟩) hn)
  have KB := Lib.hid (fun w1 (hb : Below w.heap.size w w1) (tb mb : Nat) (m : List Ent) (R' : List RV) (v' : Value) (outs : List (List UInt8)) (vo : Value) (h : ∃ B, OwnAt B w1 v' R') (hs : ∀ x ∈ R', ShortR x.1) (h2 : R'.length ≤ 1000) (hT : TAt w1 tb mb m) (hO : Reads w1 vo (outs.map str)) (ho : outs.length ≤ 1000) =>
    bnew_any (S := S) w1 outs vo none (own_rulesT h).1 (own_rulesT h).2 hT hO ho (hm.below hb (Nat.le_refl _)) (hE.below hb).k (hE.below hb).l (hN.below hb (Nat.le_refl _)) (tab_below ht hb (Nat.le_refl _)) (short_bounds hs) h2)
  have KN := Lib.hid (fun w1 (hb : Below w.heap.size w w1) (i k : Nat) (hi1 : i < R.length) (hk1 : k < R.length) => needs_any R (.slice a R.length c) i k w1 (readsK_below0 hr hrow hb) (fun x hx => (hi x hx).1.below0 hb) hi1 hk1)
  have HRC := Lib.hid (fun w1 (hb : Below w.heap.size w w1) => readsK_below0 hr hrow hb)
  have HRR := Lib.hid (fun w1 (hb : Below w.heap.size w w1) => hrr.below0 hb)
  have HE := Lib.hid (fun w1 (hb : Below w.heap.size w w1) => (⟨hm.below hb (Nat.le_refl _), hE.below hb, hN.below hb (Nat.le_refl _), tab_below ht hb (Nat.le_refl _)⟩ : Ml w1 ∧ BErr w1 S ∧ NErr w1 ∧ Tab w1))
  have HSI0 := Lib.hid (fun (hs : ∀ x ∈ R, ShortR x.1) (r : RuleL) (hr : r ∈ R.map Prod.fst) => (by obtain ⟨x, hx, rfl⟩ := List.mem_map.1 hr; have := (hs x hx).2.2.2.1; omega : r.ins.length ≤ 1000))
  have hml : (R.map Prod.fst).length = R.length := List.length_map _
  have HML := Lib.hid hml
  clear hfr hr hi hm hE hN ht hrow hrowf hml hrr
  go_enter Tryz.func3, Tryz.ntmps3
  go_wp2_with fail
  refine KW.out.mono ?_
  rintro e w1 ⟨rfl, hb1⟩
  have HB1 := Lib.hid hb1
  clear hb1
  go_wp2_with fail
  refine (KLF.out w1 HB1.out).mono ?_
  rintro e w2 ⟨rfl, rfl | ⟨rfl, hff⟩⟩
  · go_wp2
    go_ret
    exact ⟨rfl, HB1.out⟩
  have HFF := Lib.hid hff
  clear hff
  go_wp2_with fail
  refine (KL.out w1 HB1.out).mono ?_
  rintro e w2 ⟨rfl, rfl | ⟨rfl, hn, hs⟩⟩
  · go_wp2
    go_ret
    exact ⟨rfl, HB1.out⟩
  have HS := Lib.hid hs
  have HSI := Lib.hid (HSI0.out hs)
  have hn12 : R.length ≤ 41 := by omega
  clear hn hs
  by_cases hol : 60 < runs.length
  · have hol2 : (60 < (runs.length : Int)) = True := eq_true (by omega)
    go_wp2
    go_ret
    exact ⟨rfl, HB1.out⟩
  have hol2 : (60 < (runs.length : Int)) = False := eq_false (by omega)
  have KT1 := Lib.hid (KT.out w1 HB1.out HFF.out)
  go_wp2_with fail
  refine KT1.out.mono ?_
  rintro e w2 ⟨tb, mb, rb, lv, rfl, htc⟩
  have HTW := Lib.hid (files_tw' HFF.out)
  have HB2 := Lib.hid (HB1.out.trans (htc.b.mono HB1.out.size))
  have HT2 := Lib.hid htc.t
  generalize hfm : filesM fs = m at *
  generalize hfl : filesL fs = L at *
  clear htc hfm hfl KT1
  go_wp2_with fail
  have hw2 := HB2.out.size
  go_loopw [10, 11] (fun uv iv wl => ∃ j : Nat, j ≤ R.length ∧ iv = .int .i64 j ∧ wl.ownsRow w2.heap.size 9 1 uv j ((((R.map Prod.fst).take j).map RuleL.out).map str) ∧ Below w2.heap.size w2 wl) (fun _ iv _ => R.length - (intOf iv).toNat)
  case atStart => exact ⟨0, by omega, rfl, World.ownsRow_nil _ _ _ _, Below.refl _ _⟩
  case round =>
    obtain ⟨j, hj, rfl, hown, hbj⟩ := hrel
    have HO := Lib.hid hown
    have HB := Lib.hid hbj
    have hzj := hbj.size
    by_cases hlt : j < R.length
    · have hlc : ((j : Int) < (R.length : Int)) = True := eq_true (by omega)
      obtain ⟨b, o, hix, -, hce⟩ := (HRC.out wr (HB2.out.trans (hbj.mono HB2.out.size))).at (P := Tryz.prog) Tryz.underlying23 (by kernel_rfl) j (by simpa using hlt)
      simp only [List.getElem_map] at hce
      have hc0 := hce 0 _ rfl
      simp only [Nat.add_zero] at hc0
      have HTK : Hid (((R.map Prod.fst).take (j + 1)).map RuleL.out = ((R.map Prod.fst).take j).map RuleL.out ++ [R[j].1.out]) := Lib.hid (by
        rw [List.take_succ_eq_append_getElem (by simpa using hlt), List.map_append, List.map_singleton, List.getElem_map])
      have hlen : (((R.map Prod.fst).take j).map RuleL.out).length = j := by simp; omega
      generalize ((R.map Prod.fst).take j).map RuleL.out = ys at *
      generalize R[j].1.out = y at *
      clear hown hbj hce
      go_wp2_with (first
        | (at_builtin
           refine wpList_app _ rfl _ _ 32 rfl tyStrsK w2.heap.size _ _ _ rfl (HO.out.alloc _) ⟨wr.heap.size, 0, none⟩ 1 1 [str y] rfl rfl (news_one ?_) ?_ (by decide) ?_ ?_ ?_
           · rw [cell_of_heap (heap_alloc_here wr _)]; rfl
           · intro u hu; simp at hu; subst hu; rfl
           · omega
           · simp; omega
           intro v6 w6 ho6 hg6 hloc6
           have HO6 : Hid (w6.ownsRow w2.heap.size 9 1 v6 (j + 1) ((ys ++ [y]).map str)) := Lib.hid (by simpa using ho6)
           have HB6 : Hid (Below w2.heap.size w2 w6) := Lib.hid ((HB.out.alloc hzj _).grown hg6 (by simp; omega) (fun q hq => (HO.out.lt q hq).1))
           clear ho6 hg6 hloc6))
      go_wp2
      go_roundw
      case rel => exact ⟨j + 1, by omega, by go_num, by rw [HTK.out]; exact HO6.out, HB6.out⟩
      case measure => simp [intOf]; omega
    · obtain rfl : j = R.length := by omega
      have hlc : ((R.length : Int) < (R.length : Int)) = False := eq_false (by omega)
      rw [List.take_of_length_le (by simp)] at hown
      have hro := ownsRow_reads hown
      have HRO := Lib.hid (fun wl (hb : Below wr.heap.size wr wl) => hro.below0 hb)
      have HBR := Lib.hid (HB2.out.trans (hbj.mono HB2.out.size))
      have KO3 := Lib.hid (KO.out wr HBR.out HS.out (by omega))
      have HTR := Lib.hid (HT2.out.below hbj)
      have hbr := HBR.out.size
      clear hown hbj hro HO HB
      go_wp2_with fail
      refine KO3.out.mono ?_
      rintro e w3 ⟨v3, R3, rfl, he3, ho3, hb3⟩
      have HB3 := Lib.hid (HBR.out.trans (hb3.mono hbr))
      have hl3 : R3.length = R.length := by have := congrArg List.length he3; simpa using this
      have KB3 := Lib.hid (KB.out w3 HB3.out tb mb m R3 v3 ((R.map Prod.fst).map RuleL.out) _ ⟨_, ho3⟩ (short_other HS.out he3) (by omega) (HTR.out.below hb3) (HRO.out w3 hb3) (by simp; omega))
      rw [he3] at KB3
      clear he3 ho3 hb3 KO3
      go_wp2_with fail
      refine KB3.out.mono ?_
      rintro e w4 ⟨ha4, hb4⟩
      have HB4 := Lib.hid (HB3.out.trans (hb4.mono HB3.out.size))
      rcases once_new ha4 with ⟨T, x, rfl⟩ | ⟨o, D, rfl, hord, hcv, hat, hD⟩
      · clear ha4 hb4 KB3
        go_wp2
        go_ret
        exact ⟨by simp, HB4.out⟩
      have hz34 := HB3.out.size
      have hs4 := hb4.size
      have hmk := make_bools R.length (by omega) w4
      obtain ⟨W5, hW5⟩ : ∃ W, w4.alloc (.cells ((List.replicate R.length false).map Value.bool).toArray 4) = W := ⟨_, rfl⟩
      have hA5 : Below w4.heap.size w4 W5 := hW5 ▸ (Below.refl _ w4).alloc (Nat.le_refl _) _
      have hb5 : Bits W5 w4.heap.size (bitsOf R.length []) := by
        rw [bitsOf_nil, ← hW5]
        exact heap_alloc_here w4 _
      rw [hW5] at hmk
      have HB5 := Lib.hid (HB4.out.trans (hA5.mono HB4.out.size))
      have HA5 := Lib.hid (hat.below hA5)
      have HT5 := Lib.hid hb5
      have HDL : Hid (∀ q, D.has (List.range (R.map Prod.fst).length) q → w.heap.size ≤ q ∧ q < w4.heap.size) := Lib.hid (fun q hq => ⟨by have := hD q hq; omega, hat.lt hq⟩)
      have HORD := Lib.hid hord
      have HENV := Lib.hid (fun w1 (hb : Below w.heap.size w w1) => once_env HS.out (tw_bound HTW.out) (HE.out w1 hb))
      have hg5 : w.heap.size ≤ w4.heap.size := by omega
      clear ha4 hb4 KB3 hat hD hord hA5 hb5 hW5
      go_wp2_with fail
      go_loopw [15] (fun iv wl => ∃ (i : Nat) (ks : List Nat) (st : Nat → St), i ≤ runs.length + R.length ∧ iv = .int .i64 i ∧ OnceInv (R.map Prod.fst) (fun p => mlook p m) runs.length ks st i ∧ BAt S (R.map Prod.fst) (List.range (R.map Prod.fst).length) m D wl st ∧ Bits wl w4.heap.size (bitsOf R.length ks) ∧ Below w.heap.size w wl) (fun iv _ => runs.length + R.length - (intOf iv).toNat)
      case atStart => exact ⟨0, [], _, by omega, rfl, OnceInv.zero _ _ _, HA5.out, HT5.out, HB5.out⟩
      case round =>
        obtain ⟨i, ks, st, hi, rfl, hinv, hat, hbt, hbw⟩ := hrel
        have HINV := Lib.hid hinv
        have HAT := Lib.hid hat
        have HBT := Lib.hid hbt
        have HBW := Lib.hid hbw
        have hbi := hinv.binv HORD.out
        have HBI := Lib.hid hbi
        by_cases hlt : i < runs.length + R.length
        · have hlc : ((i : Int) < ((runs.length : Int) + (R.length : Int))) = True := eq_true (by omega)
          have KRD := Lib.hid (bReady_any wr hat HORD.out.ok HSI.out)
          clear hinv hat hbt hbw hbi
          go_wp2_with fail
          refine KRD.out.mono ?_
          rintro e w6 ⟨u, rfl, ho6, hb6⟩
          have hro := reads_ints ho6
          have HRU := Lib.hid (fun wl (hb : Below w6.heap.size w6 wl) => hro.below0 hb)
          obtain ⟨au, cu, hu, -, -⟩ := id hro
          rw [List.length_map] at hu
          subst hu
          have HRL : Hid (∀ k ∈ readyL (R.map Prod.fst) (List.range (R.map Prod.fst).length) st, k < R.length ∧ ReadyP (R.map Prod.fst) st k) := Lib.hid (fun k hk => by
            obtain ⟨h1, h2⟩ := List.mem_filter.1 hk
            have := List.mem_range.1 h1
            rw [HML.out] at this
            exact ⟨this, readyB_iff.1 h2⟩)
          have hrdl : (readyL (R.map Prod.fst) (List.range (R.map Prod.fst).length) st).length ≤ R.length := by
            have : (readyL (R.map Prod.fst) (List.range (R.map Prod.fst).length) st).length ≤ (List.range (R.map Prod.fst).length).length := List.length_filter_le _ _
            have h2 := HML.out
            rw [List.length_range] at this
            omega
          have HRD : Hid (readyL (R.map Prod.fst) (List.range (R.map Prod.fst).length) st = [] → ∀ k ∈ List.range (R.map Prod.fst).length, (st k).state ≠ 1) := Lib.hid (fun h => over_all HORD.out.ok HBI.out h)
          have HAT6 := Lib.hid (HAT.out.below hb6)
          have HB6 := Lib.hid hb6
          have HBW6 := Lib.hid (HBW.out.trans (hb6.mono HBW.out.size))
          generalize readyL (R.map Prod.fst) (List.range (R.map Prod.fst).length) st = rd at *
          clear ho6 hb6 hro KRD
          go_wp2_with fail
          go_loopw [17] (fun kv wl => ∃ k : Nat, k ≤ rd.length ∧ kv = .int .i64 k ∧ Below w6.heap.size w6 wl) (fun kv _ => rd.length - (intOf kv).toNat)
          case atStart => exact ⟨0, by omega, rfl, Below.refl _ _⟩
          case round =>
            obtain ⟨k, hk, rfl, hbk⟩ := hrel
            have HBK := Lib.hid hbk
            have hz6 := HBW6.out.size
            by_cases hlk : k < rd.length
            · have hlc2 : ((k : Int) < (rd.length : Int)) = True := eq_true (by omega)
              obtain ⟨b, o, hix, hce⟩ := (HRU.out _ hbk).at (P := Tryz.prog) Tryz.underlying24 (by kernel_rfl) k (by simpa using hlk)
              simp only [List.getElem_map] at hce
              obtain ⟨hjn, hjr⟩ := HRL.out _ (List.getElem_mem hlk)
              generalize rd[k] = j at *
              have HJR := Lib.hid hjr
              have e1 : ((j : Int) < 0) = False := eq_false (by omega)
              have e2 : ((R.length : Int) ≤ (j : Int)) = False := eq_false (by omega)
              have hat6 := HAT6.out.below hbk
              have KS := Lib.hid (bState_any wr hat6 (List.mem_range.2 (by rw [HML.out]; exact hjn)) (by rw [hjr.1]; exact ⟨Nat.le_refl _, by decide⟩))
              rw [hjr.1] at KS
              clear hbk hat6 hjr
              go_wp2_with fail
              refine KS.out.mono ?_
              rintro e w7 ⟨rfl, hb7⟩
              have HB7 := Lib.hid (HBK.out.trans (hb7.mono HBK.out.size))
              have hz7 := hb7.size
              clear hb7 KS
              simp only [stName]
              go_wp2_with fail
              go_loopw [19] (fun mv wl => ∃ q : Nat, q ≤ R.length ∧ mv = .int .i64 q ∧ Below w6.heap.size w6 wl) (fun mv _ => R.length - (intOf mv).toNat)
              case atStart => exact ⟨0, by omega, rfl, HB7.out⟩
              case round =>
                obtain ⟨q, hq, rfl, hbq⟩ := hrel
                have HBQ := Lib.hid hbq
                by_cases hlq : q < R.length
                · have hlc3 : ((q : Int) < (R.length : Int)) = True := eq_true (by omega)
                  have K := Lib.hid (KN.out wr (HBW6.out.trans (hbq.mono hz6)) j q hjn hlq)
                  have hzq := hbq.size
                  cases hnb : needB (R.map Prod.fst) j q with
                  | false =>
                    rw [hnb] at K
                    clear hbq hnb
                    go_wp2_with fail
                    refine K.out.mono ?_
                    rintro e w8 ⟨rfl, hb8⟩
                    have HB8 := Lib.hid (HBQ.out.trans (hb8.mono hzq))
                    clear hb8
                    go_wp2
                    go_roundw
                    case rel => exact ⟨q + 1, by omega, by go_num, HB8.out⟩
                    case measure => simp [intOf]; omega
                  | true =>
                    rw [hnb] at K
                    have hqs := HJR.out.2 q (need_edges (by rw [HML.out]; exact hlq) hnb)
                    have HQS := Lib.hid hqs
                    clear hbq hnb
                    go_wp2_with fail
                    refine K.out.mono ?_
                    rintro e w8 ⟨rfl, hb8⟩
                    have hb68 := HBQ.out.trans (hb8.mono hzq)
                    have KS := Lib.hid (bState_any w8 (HAT6.out.below hb68) (List.mem_range.2 (by rw [HML.out]; exact hlq)) (by rw [hqs]; exact ⟨by decide, by decide⟩))
                    rw [hqs] at KS
                    have HB8 := Lib.hid hb68
                    have hz8 := hb68.size
                    clear hb8 hb68 hqs
                    go_wp2_with fail
                    refine KS.out.mono ?_
                    rintro e w9 ⟨rfl, hb9⟩
                    have HB9 := Lib.hid (HB8.out.trans (hb9.mono hz8))
                    clear hb9
                    simp only [stName]
                    go_wp2
                    go_roundw
                    case rel => exact ⟨q + 1, by omega, by go_num, HB9.out⟩
                    case measure => simp [intOf]; omega
                · obtain rfl : q = R.length := by omega
                  have hlc3 : ((R.length : Int) < (R.length : Int)) = False := eq_false (by omega)
                  clear hbq
                  go_wp2
                  go_roundw
                  case rel => exact ⟨k + 1, by omega, by go_num, HBQ.out⟩
                  case measure => simp [intOf]; omega
            · obtain rfl : k = rd.length := by omega
              have hlc2 : ((rd.length : Int) < (rd.length : Int)) = False := eq_false (by omega)
              clear hbk
              by_cases hir : i < runs.length
              · have hlc4 : ((i : Int) < (runs.length : Int)) = True := eq_true (by omega)
                have hi41 : i ≤ 60 := by omega
                obtain ⟨b, o, hix, hce⟩ := (HRR.out wr (HBW6.out.trans (HBK.out.mono hz6))).at (P := Tryz.prog) Tryz.underlying24 (by kernel_rfl) i (by simpa using hir)
                simp only [List.getElem_map] at hce
                generalize runs[i] = z at *
                have hat6 := HAT6.out.below HBK.out
                have hbw7 := HBW6.out.trans (HBK.out.mono hz6)
                have KRU := Lib.hid (brunN_any wr hat6 HORD.out.ok (HENV.out wr hbw7) HBI.out hcv z)
                have HAT7 := Lib.hid hat6
                have HBW7 := Lib.hid hbw7
                have HBT7 := Lib.hid (VRow.below0 HBT.out (HB6.out.trans (HBK.out.mono HB6.out.size)))
                clear hat6 hbw7
                go_wp2_with fail
                refine KRU.out.mono ?_
                rintro e w8 ⟨hit, code, st', rfl, hrel, hat8, hfr8⟩
                have hz7 := HBW7.out.size
                have HAT8 := Lib.hid hat8
                have hgs : ¬ D.steps (List.range (R.map Prod.fst).length) w4.heap.size := fun h => by have := (HDL.out _ (Or.inr h)).2; omega
                have hbt8 : Bits w8 w4.heap.size (bitsOf R.length ks) := (hfr8.block _ (lt_of_heap HBT7.out) hgs).trans HBT7.out
                have HBT8 := Lib.hid hbt8
                have HBW8 := Lib.hid (HBW7.out.trans ((hfr8.mono hz7 (fun _ _ h => h)).below (fun q _ h => by have := (HDL.out q (Or.inr h)).1; omega)))
                rcases once_run hrel with ⟨hc, rfl⟩ | ⟨rfl, k, hkP, rfl, hkr, hgo⟩
                · rcases errN_two S code with ⟨h, -⟩ | ⟨-, ad, he⟩
                  · exact absurd h hc
                  rw [he]
                  clear hrel hat8 hfr8 hbt8 KRU
                  go_wp2
                  go_roundw
                  case rel => exact ⟨i + 1, ks, _, by omega, by go_num, HINV.out.skip hir, HAT8.out, HBT8.out, HBW8.out⟩
                  case measure => simp [intOf]; omega
                · obtain ⟨hinv9, hkn⟩ := HINV.out.go hkP hkr hgo
                  have HINV9 := Lib.hid hinv9
                  have hkl : k < R.length := by have := List.mem_range.1 hkP; have h2 := HML.out; omega
                  have e1 : ((k : Int) < 0) = False := eq_false (by omega)
                  have e2 : ((R.length : Int) ≤ (k : Int)) = False := eq_false (by omega)
                  have hixk := idx_at (P := Tryz.prog) (T := 41) (E := 4) Tryz.underlying41 (by kernel_rfl) w4.heap.size R.length R.length k hkl
                  have hck := Bits.at hbt8 (k := k) (by rw [bitsOf_len]; exact hkl)
                  rw [bitsOf_at, show ks.contains k = false by rw [Bool.eq_false_iff]; intro h; exact hkn (List.contains_iff_mem.1 h)] at hck
                  have hfz : ∀ j, w8.frozen? ⟨w4.heap.size, j, none⟩ = false := VRow.frozen hbt8
                  have hbp := Bits.put hbt8 k true
                  rw [bitsOf_set] at hbp
                  have HBP := Lib.hid hbp
                  have HBN := Lib.hid (HBW8.out.setCell (p := ⟨w4.heap.size, k, none⟩) hg5 (.bool true))
                  have HAN := Lib.hid (hat8.of_fr (Fr.setCell (S := fun q => q = w4.heap.size) (p := ⟨w4.heap.size, k, none⟩) (Fr.refl w8.heap.size _ w8) (fun _ => rfl) (.bool true)) (fun q hq => ⟨hat8.lt hq, fun e => by have := (HDL.out q hq).2; omega⟩))
                  clear hrel hat8 hfr8 hbt8 KRU hgo hinv9 hkn hbp hkr
                  simp only [errN, if_pos]
                  go_wp2
                  go_roundw
                  case rel => exact ⟨i + 1, ks ++ [k], st', by omega, by go_num, HINV9.out, HAN.out, HBP.out, HBN.out⟩
                  case measure => simp [intOf]; omega
              · have hlc4 : ((i : Int) < (runs.length : Int)) = False := eq_false (by omega)
                by_cases hr0 : rd.length = 0
                · have hlc5 : ((0 : Int) < (rd.length : Int)) = False := eq_false (by omega)
                  have hlc5n : (0 < rd.length) = False := eq_false (by omega)
                  have HOV := Lib.hid (HRD.out (List.length_eq_zero_iff.1 hr0))
                  clear hr0
                  have HATF := Lib.hid (HAT6.out.below HBK.out)
                  have HBTF := Lib.hid (VRow.below0 HBT.out (HB6.out.trans (HBK.out.mono HB6.out.size)))
                  have HBWF := Lib.hid (HBW6.out.trans (HBK.out.mono hz6))
                  go_wp2_with fail
                  have HSTT := Lib.hid (end_states HBI.out HOV.out)
                  have HRN := Lib.hid (fun k (hk : k < (R.map Prod.fst).length) => HINV.out.ran HSTT.out hk)
                  have HBD := Lib.hid (fun x (hx : x < (R.map Prod.fst).length) => badB_all HBI.out HOV.out hx)
                  have hzF := HBWF.out.size
                  generalize wr = wF at *
                  go_loopw [23] (fun iv wl => ∃ x : Nat, x ≤ R.length ∧ iv = .int .i64 x ∧ Below wF.heap.size wF wl) (fun iv _ => R.length - (intOf iv).toNat)
                  case atStart => exact ⟨0, by omega, rfl, Below.refl _ _⟩
                  case round =>
                    obtain ⟨x, hx, rfl, hbx⟩ := hrel
                    have HBX := Lib.hid hbx
                    have hzx := hbx.size
                    by_cases hlx : x < R.length
                    · have hlcx : ((x : Int) < (R.length : Int)) = True := eq_true (by omega)
                      have hxl : x < (R.map Prod.fst).length := by rw [HML.out]; exact hlx
                      have hsx := HSTT.out x (List.mem_range.2 hxl)
                      have HSX := Lib.hid hsx
                      have KS := Lib.hid (bState_any wr (HATF.out.below hbx) (List.mem_range.2 hxl) (by omega))
                      obtain ⟨sx, hsxe⟩ : ∃ sx, stName (st x).state = sx := ⟨_, rfl⟩
                      have HSE := Lib.hid hsxe
                      rw [hsxe] at KS
                      clear hbx hsxe hsx
                      go_wp2_with fail
                      refine KS.out.mono ?_
                      rintro e w10 ⟨rfl, hb10⟩
                      have HB10 := Lib.hid (HBX.out.trans (hb10.mono hzx))
                      clear hb10 KS
                      go_wp2_with fail
                      go_loopw [25, 26] (fun bv kv wl => ∃ q : Nat, q ≤ R.length ∧ kv = .int .i64 q ∧ bv = .bool (badB (R.map Prod.fst) st x q) ∧ Below wF.heap.size wF wl) (fun _ kv _ => R.length - (intOf kv).toNat)
                      case atStart => exact ⟨0, by omega, rfl, rfl, HB10.out⟩
                      case round =>
                        obtain ⟨q, hq, rfl, rfl, hbq⟩ := hrel
                        have HBQ := Lib.hid hbq
                        have hzq := hbq.size
                        by_cases hlq : q < R.length
                        · have hlc3 : ((q : Int) < (R.length : Int)) = True := eq_true (by omega)
                          have K := Lib.hid (KN.out wr (HBWF.out.trans (hbq.mono hzF)) x q hlx hlq)
                          have hsc := badB_succ (R.map Prod.fst) st x q
                          cases hnb : needB (R.map Prod.fst) x q with
                          | false =>
                            rw [hnb] at K hsc
                            simp only [Bool.false_and, Bool.or_false] at hsc
                            have HSC := Lib.hid hsc
                            generalize badB (R.map Prod.fst) st x q = bb at *
                            clear hbq hnb hsc
                            go_wp2_with fail
                            refine K.out.mono ?_
                            rintro e w11 ⟨rfl, hb11⟩
                            have HB11 := Lib.hid (HBQ.out.trans (hb11.mono hzq))
                            clear hb11
                            go_wp2
                            go_roundw
                            case rel => exact ⟨q + 1, by omega, by go_num, by rw [HSC.out], HB11.out⟩
                            case measure => simp [intOf]; omega
                          | true =>
                            have hql : q < (R.map Prod.fst).length := by rw [HML.out]; exact hlq
                            have hsq := HSTT.out q (List.mem_range.2 hql)
                            rw [hnb] at K hsc
                            simp only [Bool.true_and] at hsc
                            have KS := Lib.hid (fun wl (hb : Below wF.heap.size wF wl) => bState_any wl (HATF.out.below hb) (List.mem_range.2 hql) (by omega))
                            rcases (show (st q).state = 2 ∨ (st q).state = 3 ∨ (st q).state = 4 by omega) with e | e | e
                            · rw [e] at KS hsc
                              rw [show decide (3 ≤ 2) = false from rfl, Bool.or_false] at hsc
                              have HSC := Lib.hid hsc
                              generalize badB (R.map Prod.fst) st x q = bb at *
                              clear hbq hnb hsc hsq
                              go_wp2_with fail
                              refine K.out.mono ?_
                              rintro e w11 ⟨rfl, hb11⟩
                              have HB11 := Lib.hid (HBQ.out.trans (hb11.mono hzq))
                              clear hb11
                              have hz11 := HB11.out.size
                              go_wp2_with fail
                              refine (KS.out _ HB11.out).mono ?_
                              rintro e w12 ⟨rfl, hb12⟩
                              have HB12 := Lib.hid (HB11.out.trans (hb12.mono hz11))
                              clear hb12
                              have hz12 := HB12.out.size
                              simp only [stName]
                              go_wp2_with fail
                              refine (KS.out _ HB12.out).mono ?_
                              rintro e w13 ⟨rfl, hb13⟩
                              have HB13 := Lib.hid (HB12.out.trans (hb13.mono hz12))
                              clear hb13
                              simp only [stName]
                              go_wp2
                              go_roundw
                              case rel => exact ⟨q + 1, by omega, by go_num, by rw [HSC.out], HB13.out⟩
                              case measure => simp [intOf]; omega
                            · rw [e] at KS hsc
                              rw [show decide (3 ≤ 3) = true from rfl, Bool.or_true] at hsc
                              have HSC := Lib.hid hsc
                              generalize badB (R.map Prod.fst) st x q = bb at *
                              clear hbq hnb hsc hsq
                              go_wp2_with fail
                              refine K.out.mono ?_
                              rintro e w11 ⟨rfl, hb11⟩
                              have HB11 := Lib.hid (HBQ.out.trans (hb11.mono hzq))
                              clear hb11
                              have hz11 := HB11.out.size
                              go_wp2_with fail
                              refine (KS.out _ HB11.out).mono ?_
                              rintro e w12 ⟨rfl, hb12⟩
                              have HB12 := Lib.hid (HB11.out.trans (hb12.mono hz11))
                              clear hb12
                              simp only [stName]
                              go_wp2
                              go_roundw
                              case rel => exact ⟨q + 1, by omega, by go_num, by rw [HSC.out], HB12.out⟩
                              case measure => simp [intOf]; omega
                            · rw [e] at KS hsc
                              rw [show decide (3 ≤ 4) = true from rfl, Bool.or_true] at hsc
                              have HSC := Lib.hid hsc
                              generalize badB (R.map Prod.fst) st x q = bb at *
                              clear hbq hnb hsc hsq
                              go_wp2_with fail
                              refine K.out.mono ?_
                              rintro e w11 ⟨rfl, hb11⟩
                              have HB11 := Lib.hid (HBQ.out.trans (hb11.mono hzq))
                              clear hb11
                              have hz11 := HB11.out.size
                              go_wp2_with fail
                              refine (KS.out _ HB11.out).mono ?_
                              rintro e w12 ⟨rfl, hb12⟩
                              have HB12 := Lib.hid (HB11.out.trans (hb12.mono hz11))
                              clear hb12
                              have hz12 := HB12.out.size
                              simp only [stName]
                              go_wp2_with fail
                              refine (KS.out _ HB12.out).mono ?_
                              rintro e w13 ⟨rfl, hb13⟩
                              have HB13 := Lib.hid (HB12.out.trans (hb13.mono hz12))
                              clear hb13
                              simp only [stName]
                              go_wp2
                              go_roundw
                              case rel => exact ⟨q + 1, by omega, by go_num, by rw [HSC.out], HB13.out⟩
                              case measure => simp [intOf]; omega
                        · obtain rfl : q = R.length := by omega
                          have hlc3 : ((R.length : Int) < (R.length : Int)) = False := eq_false (by omega)
                          have hbd := HBD.out x hxl
                          rw [HML.out] at hbd
                          rw [hbd]
                          have hixk := idx_at (P := Tryz.prog) (T := 41) (E := 4) Tryz.underlying41 (by kernel_rfl) w4.heap.size R.length R.length x hlx
                          have hck := Bits.at (VRow.below0 HBTF.out hbq) (k := x) (by rw [bitsOf_len]; exact hlx)
                          rw [bitsOf_at, HRN.out x hxl] at hck
                          have hsx := HSX.out
                          obtain ⟨rv, hrv⟩ : ∃ rv, decide ((st x).state ≠ 4) = rv := ⟨_, rfl⟩
                          obtain ⟨bv, hbv⟩ : ∃ bv, decide ((st x).state = 4) = bv := ⟨_, rfl⟩
                          rw [hrv] at hck
                          rw [hbv]
                          clear hbq hbd
                          rcases (show (st x).state = 2 ∨ (st x).state = 3 ∨ (st x).state = 4 by omega) with e | e | e
                          · obtain rfl : sx = [100, 111, 110, 101] := by rw [← HSE.out, e]; rfl
                            obtain rfl : rv = true := by rw [← hrv, e]; rfl
                            obtain rfl : bv = false := by rw [← hbv, e]; rfl
                            clear hsx hrv hbv
                            go_wp2_with fail
                            go_roundw
                            case rel => exact ⟨x + 1, by omega, by go_num, HBQ.out⟩
                            case measure => simp [intOf]; omega
                          · obtain rfl : sx = [102, 97, 105, 108, 101, 100] := by rw [← HSE.out, e]; rfl
                            obtain rfl : rv = true := by rw [← hrv, e]; rfl
                            obtain rfl : bv = false := by rw [← hbv, e]; rfl
                            clear hsx hrv hbv
                            go_wp2_with fail
                            go_roundw
                            case rel => exact ⟨x + 1, by omega, by go_num, HBQ.out⟩
                            case measure => simp [intOf]; omega
                          · obtain rfl : sx = [108, 101, 102, 116] := by rw [← HSE.out, e]; rfl
                            obtain rfl : rv = false := by rw [← hrv, e]; rfl
                            obtain rfl : bv = true := by rw [← hbv, e]; rfl
                            clear hsx hrv hbv
                            go_wp2_with fail
                            go_roundw
                            case rel => exact ⟨x + 1, by omega, by go_num, HBQ.out⟩
                            case measure => simp [intOf]; omega
                    · obtain rfl : x = R.length := by omega
                      have hlcx : ((R.length : Int) < (R.length : Int)) = False := eq_false (by omega)
                      have KOV := Lib.hid (bOver_any wr (HATF.out.below hbx) HORD.out.ok)
                      rw [over_true HOV.out] at KOV
                      clear hbx
                      go_wp2_with fail
                      refine KOV.out.mono ?_
                      rintro e w10 ⟨rfl, hb10⟩
                      have HB10 := Lib.hid (HBWF.out.trans ((HBX.out.trans (hb10.mono hzx)).mono hzF))
                      clear hb10 KOV
                      go_wp2
                      go_ret
                      exact ⟨rfl, HB10.out⟩
                · have hlc5 : ((0 : Int) < (rd.length : Int)) = True := eq_true (by omega)
                  have hxe : ((rd.length - 1 : Nat) : Int) = (rd.length : Int) - 1 := by omega
                  obtain ⟨b, o, hix, hce⟩ := (HRU.out _ HBK.out).at (P := Tryz.prog) Tryz.underlying24 (by kernel_rfl) (rd.length - 1) (by simp; omega)
                  simp only [List.getElem_map] at hce
                  rw [hxe] at hix
                  obtain ⟨hkl, hkr⟩ := HRL.out _ (List.getElem_mem (show rd.length - 1 < rd.length by omega))
                  generalize rd[rd.length - 1]'(by omega) = k at *
                  have hkP : k ∈ List.range (R.map Prod.fst).length := List.mem_range.2 (by rw [HML.out]; exact hkl)
                  have hat6 := HAT6.out.below HBK.out
                  have hbw7 := HBW6.out.trans (HBK.out.mono hz6)
                  have KRU := Lib.hid (brunN_any wr hat6 HORD.out.ok (HENV.out wr hbw7) HBI.out hcv (k : Int))
                  have HAT7 := Lib.hid hat6
                  have HBW7 := Lib.hid hbw7
                  have HBT7 := Lib.hid (VRow.below0 HBT.out (HB6.out.trans (HBK.out.mono HB6.out.size)))
                  have HKR := Lib.hid hkr
                  have hkRl : k < R.length := hkl
                  clear hat6 hbw7 hkr
                  go_wp2_with fail
                  refine KRU.out.mono ?_
                  rintro e w8 ⟨hit, code, st', rfl, hrel, hat8, hfr8⟩
                  have hz7 := HBW7.out.size
                  have hgs : ¬ D.steps (List.range (R.map Prod.fst).length) w4.heap.size := fun h => by have := (HDL.out _ (Or.inr h)).2; omega
                  have hbt8 : Bits w8 w4.heap.size (bitsOf R.length ks) := (hfr8.block _ (lt_of_heap HBT7.out) hgs).trans HBT7.out
                  have HBW8 := Lib.hid (HBW7.out.trans ((hfr8.mono hz7 (fun _ _ h => h)).below (fun q _ h => by have := (HDL.out q (Or.inr h)).1; omega)))
                  obtain ⟨rfl, hgo⟩ := ready_run hrel hkP HKR.out
                  obtain ⟨hinv9, hkn⟩ := HINV.out.go hkP HKR.out hgo
                  have HINV9 := Lib.hid hinv9
                  have e1 : ((k : Int) < 0) = False := eq_false (by omega)
                  have e2 : ((R.length : Int) ≤ (k : Int)) = False := eq_false (by omega)
                  have hixk := idx_at (P := Tryz.prog) (T := 41) (E := 4) Tryz.underlying41 (by kernel_rfl) w4.heap.size R.length R.length k hkRl
                  have hck := Bits.at hbt8 (k := k) (by rw [bitsOf_len]; exact hkRl)
                  rw [bitsOf_at, show ks.contains k = false by rw [Bool.eq_false_iff]; intro h; exact hkn (List.contains_iff_mem.1 h)] at hck
                  have hfz : ∀ j, w8.frozen? ⟨w4.heap.size, j, none⟩ = false := VRow.frozen hbt8
                  have hbp := Bits.put hbt8 k true
                  rw [bitsOf_set] at hbp
                  have HBP := Lib.hid hbp
                  have HBN := Lib.hid (HBW8.out.setCell (p := ⟨w4.heap.size, k, none⟩) hg5 (.bool true))
                  have HAN := Lib.hid (hat8.of_fr (Fr.setCell (S := fun q => q = w4.heap.size) (p := ⟨w4.heap.size, k, none⟩) (Fr.refl w8.heap.size _ w8) (fun _ => rfl) (.bool true)) (fun q hq => ⟨hat8.lt hq, fun e => by have := (HDL.out q hq).2; omega⟩))
                  clear hrel hat8 hfr8 hbt8 KRU hgo hinv9 hkn hbp
                  simp only [errN, if_pos]
                  go_wp2
                  go_roundw
                  case rel => exact ⟨i + 1, ks ++ [k], st', by omega, by go_num, HINV9.out, HAN.out, HBP.out, HBN.out⟩
                  case measure => simp [intOf]; omega
        · have HIE : Hid (i = runs.length + R.length) := Lib.hid (by omega)
          have hlc : ((i : Int) < ((runs.length : Int) + (R.length : Int))) = False := eq_false (by omega)
          have HOV : Hid (∀ k ∈ List.range (R.map Prod.fst).length, (st k).state ≠ 1) := Lib.hid (by
            have h1 := HINV.out
            rw [HIE.out, ← HML.out] at h1
            exact h1.over)
          have HATF := Lib.hid hat
          have HBTF := Lib.hid hbt
          have HBWF := Lib.hid hbw
          clear hinv hat hbt hbw hbi
          go_wp2_with fail
          have HSTT := Lib.hid (end_states HBI.out HOV.out)
          have HRN := Lib.hid (fun k (hk : k < (R.map Prod.fst).length) => HINV.out.ran HSTT.out hk)
          have HBD := Lib.hid (fun x (hx : x < (R.map Prod.fst).length) => badB_all HBI.out HOV.out hx)
          have hzF := HBWF.out.size
          generalize wr = wF at *
          go_loopw [23] (fun iv wl => ∃ x : Nat, x ≤ R.length ∧ iv = .int .i64 x ∧ Below wF.heap.size wF wl) (fun iv _ => R.length - (intOf iv).toNat)
          case atStart => exact ⟨0, by omega, rfl, Below.refl _ _⟩
          case round =>
            obtain ⟨x, hx, rfl, hbx⟩ := hrel
            have HBX := Lib.hid hbx
            have hzx := hbx.size
            by_cases hlx : x < R.length
            · have hlcx : ((x : Int) < (R.length : Int)) = True := eq_true (by omega)
              have hxl : x < (R.map Prod.fst).length := by rw [HML.out]; exact hlx
              have hsx := HSTT.out x (List.mem_range.2 hxl)
              have HSX := Lib.hid hsx
              have KS := Lib.hid (bState_any wr (HATF.out.below hbx) (List.mem_range.2 hxl) (by omega))
              obtain ⟨sx, hsxe⟩ : ∃ sx, stName (st x).state = sx := ⟨_, rfl⟩
              have HSE := Lib.hid hsxe
              rw [hsxe] at KS
              clear hbx hsxe hsx
              go_wp2_with fail
              refine KS.out.mono ?_
              rintro e w10 ⟨rfl, hb10⟩
              have HB10 := Lib.hid (HBX.out.trans (hb10.mono hzx))
              clear hb10 KS
              go_wp2_with fail
              go_loopw [25, 26] (fun bv kv wl => ∃ q : Nat, q ≤ R.length ∧ kv = .int .i64 q ∧ bv = .bool (badB (R.map Prod.fst) st x q) ∧ Below wF.heap.size wF wl) (fun _ kv _ => R.length - (intOf kv).toNat)
              case atStart => exact ⟨0, by omega, rfl, rfl, HB10.out⟩
              case round =>
                obtain ⟨q, hq, rfl, rfl, hbq⟩ := hrel
                have HBQ := Lib.hid hbq
                have hzq := hbq.size
                by_cases hlq : q < R.length
                · have hlc3 : ((q : Int) < (R.length : Int)) = True := eq_true (by omega)
                  have K := Lib.hid (KN.out wr (HBWF.out.trans (hbq.mono hzF)) x q hlx hlq)
                  have hsc := badB_succ (R.map Prod.fst) st x q
                  cases hnb : needB (R.map Prod.fst) x q with
                  | false =>
                    rw [hnb] at K hsc
                    simp only [Bool.false_and, Bool.or_false] at hsc
                    have HSC := Lib.hid hsc
                    generalize badB (R.map Prod.fst) st x q = bb at *
                    clear hbq hnb hsc
                    go_wp2_with fail
                    refine K.out.mono ?_
                    rintro e w11 ⟨rfl, hb11⟩
                    have HB11 := Lib.hid (HBQ.out.trans (hb11.mono hzq))
                    clear hb11
                    go_wp2
                    go_roundw
                    case rel => exact ⟨q + 1, by omega, by go_num, by rw [HSC.out], HB11.out⟩
                    case measure => simp [intOf]; omega
                  | true =>
                    have hql : q < (R.map Prod.fst).length := by rw [HML.out]; exact hlq
                    have hsq := HSTT.out q (List.mem_range.2 hql)
                    rw [hnb] at K hsc
                    simp only [Bool.true_and] at hsc
                    have KS := Lib.hid (fun wl (hb : Below wF.heap.size wF wl) => bState_any wl (HATF.out.below hb) (List.mem_range.2 hql) (by omega))
                    rcases (show (st q).state = 2 ∨ (st q).state = 3 ∨ (st q).state = 4 by omega) with e | e | e
                    · rw [e] at KS hsc
                      rw [show decide (3 ≤ 2) = false from rfl, Bool.or_false] at hsc
                      have HSC := Lib.hid hsc
                      generalize badB (R.map Prod.fst) st x q = bb at *
                      clear hbq hnb hsc hsq
                      go_wp2_with fail
                      refine K.out.mono ?_
                      rintro e w11 ⟨rfl, hb11⟩
                      have HB11 := Lib.hid (HBQ.out.trans (hb11.mono hzq))
                      clear hb11
                      have hz11 := HB11.out.size
                      go_wp2_with fail
                      refine (KS.out _ HB11.out).mono ?_
                      rintro e w12 ⟨rfl, hb12⟩
                      have HB12 := Lib.hid (HB11.out.trans (hb12.mono hz11))
                      clear hb12
                      have hz12 := HB12.out.size
                      simp only [stName]
                      go_wp2_with fail
                      refine (KS.out _ HB12.out).mono ?_
                      rintro e w13 ⟨rfl, hb13⟩
                      have HB13 := Lib.hid (HB12.out.trans (hb13.mono hz12))
                      clear hb13
                      simp only [stName]
                      go_wp2
                      go_roundw
                      case rel => exact ⟨q + 1, by omega, by go_num, by rw [HSC.out], HB13.out⟩
                      case measure => simp [intOf]; omega
                    · rw [e] at KS hsc
                      rw [show decide (3 ≤ 3) = true from rfl, Bool.or_true] at hsc
                      have HSC := Lib.hid hsc
                      generalize badB (R.map Prod.fst) st x q = bb at *
                      clear hbq hnb hsc hsq
                      go_wp2_with fail
                      refine K.out.mono ?_
                      rintro e w11 ⟨rfl, hb11⟩
                      have HB11 := Lib.hid (HBQ.out.trans (hb11.mono hzq))
                      clear hb11
                      have hz11 := HB11.out.size
                      go_wp2_with fail
                      refine (KS.out _ HB11.out).mono ?_
                      rintro e w12 ⟨rfl, hb12⟩
                      have HB12 := Lib.hid (HB11.out.trans (hb12.mono hz11))
                      clear hb12
                      simp only [stName]
                      go_wp2
                      go_roundw
                      case rel => exact ⟨q + 1, by omega, by go_num, by rw [HSC.out], HB12.out⟩
                      case measure => simp [intOf]; omega
                    · rw [e] at KS hsc
                      rw [show decide (3 ≤ 4) = true from rfl, Bool.or_true] at hsc
                      have HSC := Lib.hid hsc
                      generalize badB (R.map Prod.fst) st x q = bb at *
                      clear hbq hnb hsc hsq
                      go_wp2_with fail
                      refine K.out.mono ?_
                      rintro e w11 ⟨rfl, hb11⟩
                      have HB11 := Lib.hid (HBQ.out.trans (hb11.mono hzq))
                      clear hb11
                      have hz11 := HB11.out.size
                      go_wp2_with fail
                      refine (KS.out _ HB11.out).mono ?_
                      rintro e w12 ⟨rfl, hb12⟩
                      have HB12 := Lib.hid (HB11.out.trans (hb12.mono hz11))
                      clear hb12
                      have hz12 := HB12.out.size
                      simp only [stName]
                      go_wp2_with fail
                      refine (KS.out _ HB12.out).mono ?_
                      rintro e w13 ⟨rfl, hb13⟩
                      have HB13 := Lib.hid (HB12.out.trans (hb13.mono hz12))
                      clear hb13
                      simp only [stName]
                      go_wp2
                      go_roundw
                      case rel => exact ⟨q + 1, by omega, by go_num, by rw [HSC.out], HB13.out⟩
                      case measure => simp [intOf]; omega
                · obtain rfl : q = R.length := by omega
                  have hlc3 : ((R.length : Int) < (R.length : Int)) = False := eq_false (by omega)
                  have hbd := HBD.out x hxl
                  rw [HML.out] at hbd
                  rw [hbd]
                  have hixk := idx_at (P := Tryz.prog) (T := 41) (E := 4) Tryz.underlying41 (by kernel_rfl) w4.heap.size R.length R.length x hlx
                  have hck := Bits.at (VRow.below0 HBTF.out hbq) (k := x) (by rw [bitsOf_len]; exact hlx)
                  rw [bitsOf_at, HRN.out x hxl] at hck
                  have hsx := HSX.out
                  obtain ⟨rv, hrv⟩ : ∃ rv, decide ((st x).state ≠ 4) = rv := ⟨_, rfl⟩
                  obtain ⟨bv, hbv⟩ : ∃ bv, decide ((st x).state = 4) = bv := ⟨_, rfl⟩
                  rw [hrv] at hck
                  rw [hbv]
                  clear hbq hbd
                  rcases (show (st x).state = 2 ∨ (st x).state = 3 ∨ (st x).state = 4 by omega) with e | e | e
                  · obtain rfl : sx = [100, 111, 110, 101] := by rw [← HSE.out, e]; rfl
                    obtain rfl : rv = true := by rw [← hrv, e]; rfl
                    obtain rfl : bv = false := by rw [← hbv, e]; rfl
                    clear hsx hrv hbv
                    go_wp2_with fail
                    go_roundw
                    case rel => exact ⟨x + 1, by omega, by go_num, HBQ.out⟩
                    case measure => simp [intOf]; omega
                  · obtain rfl : sx = [102, 97, 105, 108, 101, 100] := by rw [← HSE.out, e]; rfl
                    obtain rfl : rv = true := by rw [← hrv, e]; rfl
                    obtain rfl : bv = false := by rw [← hbv, e]; rfl
                    clear hsx hrv hbv
                    go_wp2_with fail
                    go_roundw
                    case rel => exact ⟨x + 1, by omega, by go_num, HBQ.out⟩
                    case measure => simp [intOf]; omega
                  · obtain rfl : sx = [108, 101, 102, 116] := by rw [← HSE.out, e]; rfl
                    obtain rfl : rv = false := by rw [← hrv, e]; rfl
                    obtain rfl : bv = true := by rw [← hbv, e]; rfl
                    clear hsx hrv hbv
                    go_wp2_with fail
                    go_roundw
                    case rel => exact ⟨x + 1, by omega, by go_num, HBQ.out⟩
                    case measure => simp [intOf]; omega
            · obtain rfl : x = R.length := by omega
              have hlcx : ((R.length : Int) < (R.length : Int)) = False := eq_false (by omega)
              have KOV := Lib.hid (bOver_any wr (HATF.out.below hbx) HORD.out.ok)
              rw [over_true HOV.out] at KOV
              clear hbx
              go_wp2_with fail
              refine KOV.out.mono ?_
              rintro e w10 ⟨rfl, hb10⟩
              have HB10 := Lib.hid (HBWF.out.trans ((HBX.out.trans (hb10.mono hzx)).mono hzF))
              clear hb10 KOV
              go_wp2
              go_ret
              exact ⟨rfl, HB10.out⟩
end Go.Proofs.YtgoeoekdlcbmpaaGreatDoor
