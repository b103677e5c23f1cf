/-
  The walk of the law PickRuns.
-/
import Derived.Test.YtgoeoekdlcbmpaaGreatDoorRbE
import Derived.Test.YtgoeoekdlcbmpaaGreatDoorBdN
import Derived.Test.YtgoeoekdlcbmpaaGreatDoorPkI
import Derived.Test.YtgoeoekdlcbmpaaGreatDoorLvB

namespace Go.Proofs.YtgoeoekdlcbmpaaGreatDoor
open Go Go.RowKit Go.Kf Go.Sort Go.Proofs

set_option maxRecDepth 100000 in
theorem field_code (c p : Int) (w : World) : (Instr.field 68 (.agg #[.int .i64 c, .int .i64 p]) 0).run Tryz.prog w = .ok (.int .i64 c) w := by
  first | kernel_rfl | (simp [Instr.field, run_underlying Tryz.underlying68])
theorem ownAt_below {B : Nat} {w w' : World} {v : Value} {R : List RV} (h : OwnAt B w v R) (hb : Below w.heap.size w w') : OwnAt B w' v R := ⟨row_below h.1 hb, fun x hx => ⟨row_below (h.2 x hx).1 hb, (h.2 x hx).2⟩⟩

set_option maxRecDepth 100000 in
theorem pickNil_any (v : Value) (w : World) (S : Nat → Addr) (hE : KErr w S) : Calls Tryz.prog 27 #[.pointer none, v] w fun e w' => e = .returned (.tuple #[.slice none 0 0, errI (S 2)]) ∧ Below w.heap.size w w' := by
  have hs := hE.shape
  go_enter Tryz.func27, Tryz.ntmps27
  go_wp2_with fail
  go_quiet (fail)
  go_wp2
  go_ret2
  exact ⟨rfl, below_drewN (Below.refl _ _) _⟩

set_option maxRecDepth 100000 in
set_option maxHeartbeats 3000000 in
theorem pickRuns_all (fs : List Ent) (vf : Value) (R : List RV) (v : Value) (outs : List (List UInt8)) (vo : Value) (picks : List Int) (vp : Value) (w : World) (S : Nat → Addr) (hfr : ReadsK 2 w vf (fs.map fileRow)) (hr : ReadsK 4 w v (R.map rvRow)) (hi : ∀ x ∈ R, Reads w x.2 (x.1.ins.map str) ∧ NilOr x.2)
    (hO : Reads w vo (outs.map str)) (hOn : NilOr vo) (hr1 : Reads w vp (picks.map (Value.int .i64))) (hc1 : Roomy vp) (hpn : NilOr vp) (hz1 : ∀ z ∈ picks, I64 z) (hm : Ml w) (hS : ErrW w S) (hN : NErr w) (ht : Tab w) :
    Calls Tryz.prog 8 #[vf, v, vo, vp] w fun e w' => e = .returned (.bool true) ∧ Below w.heap.size w w' := by
  have hE : BErr w S := bErr_of_errW hS
  have hrow : ∀ r ∈ R.map rvRow, r ≠ [] := fun r hr => by obtain ⟨x, -, rfl⟩ := List.mem_map.1 hr; simp [rvRow]
  have hrowf : ∀ r ∈ fs.map fileRow, r ≠ [] := fun r hr => by obtain ⟨x, -, rfl⟩ := List.mem_map.1 hr; simp [fileRow]
  obtain ⟨a, c, hv, hle, -⟩ := id hr
  rw [List.length_map] at hv hle
  subst hv
  obtain ⟨a1, c1, hv1, hle1, -⟩ := id hr1
  rw [List.length_map] at hv1 hle1
  subst hv1
  have HNP : Hid (a1 = none → picks = [] ∧ c1 = 0) := Lib.hid (fun h => by
    subst h
    rcases hpn with h | ⟨b, n, c, h⟩
    · simp only [Value.slice.injEq, true_and] at h
      exact ⟨List.length_eq_zero_iff.1 h.1, h.2⟩
    · simp at h)
  clear hpn
  have KW := Lib.hid (picked_any w S hm hE hN ht)
  have KLF := Lib.hid (fun w1 (hb : Below w.heap.size w w1) => longFiles3_any vf fs w1 (readsK_below0 hfr hrowf hb))
  have KL := Lib.hid (fun w1 (hb : Below w.heap.size w w1) => longRules_any R (.slice a R.length c) 12 w1 (readsK_below0 hr hrow hb) (fun x hx => (hi x hx).1.below0 hb) (by decide))
  have KLT := Lib.hid (fun w1 (hb : Below w.heap.size w w1) => longTexts_any vo outs 10 300 w1 (hO.below0 hb) (by decide) (by decide))
  have KT := Lib.hid (fun w1 (hb : Below w.heap.size w w1) (hF : FewFiles fs) => fileTree3_any vf fs w1 S (readsK_below0 hfr hrowf hb) hF (hm.below hb (Nat.le_refl _)) (hE.below hb).t)
  have KO := Lib.hid (fun w1 (hb : Below w.heap.size w w1) (hs : ∀ x ∈ R, ShortR x.1) (hn : R.length ≤ 1000) => ownRules_any R (.slice a R.length c) w1 (readsK_below0 hr hrow hb) (fun x hx => ⟨(hi x hx).1.below0 hb, (hi x hx).2, by have := (hs x hx).2.2.2.1; omega⟩) hn)
  have KB := Lib.hid (fun w1 (hb : Below w.heap.size w w1) (tb mb : Nat) (m : List Ent) (R' : List RV) (v' : Value) (outs : List (List UInt8)) (vo : Value) (h : ∃ B, OwnAt B w1 v' R') (hs : ∀ x ∈ R', ShortR x.1) (h2 : R'.length ≤ 1000) (hT : TAt w1 tb mb m) (hO : Reads w1 vo (outs.map str)) (ho : outs.length ≤ 1000) =>
    bnew_any (S := S) w1 outs vo none (own_rulesT h).1 (own_rulesT h).2 hT hO ho (hm.below hb (Nat.le_refl _)) (hE.below hb).k (hE.below hb).l (hN.below hb (Nat.le_refl _)) (tab_below ht hb (Nat.le_refl _)) (short_bounds hs) h2)
  have KPN := Lib.hid (fun w1 (hb : Below w.heap.size w w1) => pickNil_any (.slice a1 picks.length c1) w1 S (hE.below hb).k)
  have KCO := Lib.hid (fun w1 (hb : Below w.heap.size w w1) => coded3_any (errI (S 2)) 3 w1 (code_at w1 S (hS.below hb (Nat.le_refl _)) 2 (by decide)))
  have KOT := Lib.hid (fun w1 (hb : Below w.heap.size w w1) (hl : outs.length ≤ 1000) => own_textsR vo outs w1 (hO.below0 hb) hOn hl)
  have KBF := Lib.hid (fun w1 (hb : Below w.heap.size w w1) (hs : ∀ x ∈ R, ShortR x.1) (hn : R.length ≤ 1000) (ho : outs.length ≤ 1000) => bfault_any R (.slice a R.length c) outs vo w1 (readsK_below0 hr hrow hb) (fun x hx => (hi x hx).1.below0 hb) (hO.below0 hb) (short_bounds hs) hn ho)
  have KRN := Lib.hid (fun w1 (hb : Below w.heap.size w w1) (base rb : Nat) (lv : Value) (L : List Ent) (hR : RightS (R.map Prod.fst)) (hn : R.length ≤ 1000) (ho : outs.length ≤ 1000) (hall : ∀ s ∈ outs, s ∈ (R.map Prod.fst).map RuleL.out) (hT : RTAt base w1 rb lv L) (hL : L.length ≤ 1000) => rnew_any R (.slice a R.length c) outs vo base rb lv L none w1 (readsK_below0 hr hrow hb) (fun x hx => (hi x hx).1.below0 hb) (hO.below0 hb) hR hn ho hall hT hL)
  have HEV := Lib.hid (fun (m L : List Ent) (hT : Tw m L) (hs : ∀ x ∈ R, ShortR x.1) (hn : R.length ≤ 1000) => (⟨hr, fun x hx => (hi x hx).1, hT, (fun r hr => by
    obtain ⟨x, hx, rfl⟩ := List.mem_map.1 hr
    obtain ⟨h1, h2, h3, h4⟩ := hs x hx
    exact ⟨by omega, by omega, by omega, fun s hs => by have := h4.2.1 s hs; omega, by have := h4.1; omega⟩), hn⟩ : REnv R (.slice a R.length c) m L w))
  have HR1 := Lib.hid (fun w1 (hb : Below w.heap.size w w1) => hr1.below0 hb)
  have HR10 := Lib.hid hr1
  have HC1 := Lib.hid hc1
  have HZ1 := Lib.hid hz1
  have HE := Lib.hid ((⟨hm, hE, hN, ht⟩ : Ml w ∧ BErr w S ∧ NErr w ∧ Tab w))
  have hml : (R.map Prod.fst).length = R.length := List.length_map _
  have HML := Lib.hid hml
  clear hfr hr hi hm hE hS hN ht hrow hrowf hml hr1 hc1 hz1 hO hOn
  go_enter Tryz.func8, Tryz.ntmps8
  go_wp2_with fail
  refine KW.out.mono ?_
  rintro e w1 ⟨rfl, hb1⟩
  have HB1 := Lib.hid hb1
  clear hb1
  go_wp2_with fail
  refine (KLF.out w1 HB1.out).mono ?_
  rintro e w2 ⟨rfl, rfl | ⟨rfl, hff⟩⟩
  · go_wp2
    go_ret
    exact ⟨rfl, HB1.out⟩
  have HFF := Lib.hid hff
  clear hff
  go_wp2_with fail
  refine (KL.out w1 HB1.out).mono ?_
  rintro e w2 ⟨rfl, rfl | ⟨rfl, hn, hs⟩⟩
  · go_wp2
    go_ret
    exact ⟨rfl, HB1.out⟩
  have HS := Lib.hid hs
  have hn12 : R.length ≤ 41 := by omega
  clear hn hs
  go_wp2_with fail
  refine (KLT.out w1 HB1.out).mono ?_
  rintro e w2 ⟨rfl, rfl | ⟨rfl, hf1⟩⟩
  · go_wp2
    go_ret
    exact ⟨rfl, HB1.out⟩
  obtain ⟨ho10, -⟩ := hf1
  by_cases hol : 60 < picks.length
  · have hol2 : (60 < (picks.length : Int)) = True := eq_true (by omega)
    go_wp2
    go_ret
    exact ⟨rfl, HB1.out⟩
  have hol2 : (60 < (picks.length : Int)) = False := eq_false (by omega)
  have KT1 := Lib.hid (KT.out w1 HB1.out HFF.out)
  go_wp2_with fail
  refine KT1.out.mono ?_
  rintro e w2 ⟨tb, mb, rb, lv, rfl, htc⟩
  have HTW := Lib.hid (files_tw' HFF.out)
  have HB2 := Lib.hid (HB1.out.trans (htc.b.mono HB1.out.size))
  have HT2 := Lib.hid htc.t
  have HRT2 := Lib.hid htc.r
  generalize hfm : filesM fs = m at *
  generalize hfl : filesL fs = L at *
  clear htc hfm hfl KT1
  go_wp2_with fail
  refine (KPN.out w2 HB2.out).mono ?_
  rintro e w3 ⟨rfl, hb3⟩
  have HB3 := Lib.hid (HB2.out.trans (hb3.mono HB2.out.size))
  have HT3 := Lib.hid (HT2.out.below hb3)
  have HRT3 := Lib.hid (HRT2.out.below hb3)
  clear hb3
  go_wp2_with fail
  refine (KCO.out w3 HB3.out).mono ?_
  rintro e w4 ⟨rfl, hb4⟩
  have HB4 := Lib.hid (HB3.out.trans (hb4.mono HB3.out.size))
  have HT4 := Lib.hid (HT3.out.below hb4)
  have HRT4 := Lib.hid (HRT3.out.below hb4)
  clear hb4
  have KO4 := Lib.hid (KO.out w4 HB4.out HS.out (by omega))
  have hz4 := HB4.out.size
  go_wp2_with fail
  refine KO4.out.mono ?_
  rintro e w5 ⟨v5, R5, rfl, he5, ho5, hb5⟩
  have HB5 := Lib.hid (HB4.out.trans (hb5.mono hz4))
  have HT5 := Lib.hid (HT4.out.below hb5)
  have HRT5 := Lib.hid (HRT4.out.below hb5)
  have HO5 := Lib.hid ho5
  have HE5 := Lib.hid he5
  have hl5 : R5.length = R.length := by have := congrArg List.length he5; simpa using this
  clear hb5 KO4 ho5 he5
  go_wp2_with fail
  refine (KOT.out w5 HB5.out (by omega)).mono ?_
  rintro e w6 ⟨v6, rfl, hro6, hrd6, hb6⟩
  have HB6 := Lib.hid (HB5.out.trans (hb6.mono HB5.out.size))
  have HT6 := Lib.hid (HT5.out.below hb6)
  have HRT6 := Lib.hid (HRT5.out.below hb6)
  have KB6 := Lib.hid (KB.out w6 HB6.out tb mb m R5 v5 outs v6 ⟨_, ownAt_below HO5.out hb6⟩ (short_other HS.out HE5.out) (by omega) HT6.out hrd6 (by omega))
  have hz6 := HB6.out.size
  clear hb6 hro6 hrd6
  rw [HE5.out] at KB6
  have KB9 := Lib.hid (fun w1 (hb : Below w.heap.size w w1) => KBF.out w1 hb HS.out (by omega) (by omega))
  go_wp2_with fail
  refine KB6.out.mono ?_
  rintro e w7 ⟨ha7, hb7⟩
  have HB7 := Lib.hid (HB6.out.trans (hb7.mono hz6))
  have HRT7 := Lib.hid (HRT6.out.below hb7)
  have HA := Lib.hid ha7
  have hz67 := hb7.size
  clear hb7 KB6
  rcases ha7 with ⟨T, x, rfl, -⟩ | ⟨ks0, N0, o0, D0, -, -, -, -, rfl, -⟩
  · go_wp2_with fail
    refine (KB9.out w7 HB7.out).mono ?_
    rintro e w8 ⟨⟨cd, pd, hf, rfl⟩, hb8⟩
    have HB8 := Lib.hid (HB7.out.trans (hb8.mono HB7.out.size))
    have hcd : 0 < cd := by
      rcases new_fault HA.out hf with ⟨h, -⟩ | ⟨-, -, P, o, D, ks, -, -, -, h, -⟩
      · exact h
      · simp at h
    have hpos : (0 < (cd : Int)) = True := eq_true (by omega)
    have hfc := fun w => field_code (cd : Int) pd w
    clear hf hb8
    unfold faultV
    go_wp2
    go_ret
    exact ⟨by simp, HB8.out⟩
  go_wp2_with fail
  refine (KB9.out w7 HB7.out).mono ?_
  rintro e w8 ⟨⟨cd, pd, hf, rfl⟩, hb8⟩
  have HB8 := Lib.hid (HB7.out.trans (hb8.mono HB7.out.size))
  have HRT8 := Lib.hid (HRT7.out.below hb8)
  obtain ⟨hcd, hall, P, o, D, ks, hpl, hPR, hord, hed, hcv, hat, hD⟩ : cd = 0 ∧ (∀ s ∈ outs, s ∈ (R.map Prod.fst).map RuleL.out) ∧ ∃ P o D ks, PlacesAt (R.map Prod.fst) outs ks ∧ (∀ k, k ∈ P ↔ Reach (edgesB (R.map Prod.fst)) ks k) ∧ Ord (R.map Prod.fst) P o ∧ D.b = D0.b ∧ D.cv = .pointer none ∧ BAt S (R.map Prod.fst) P m D w7 (fun _ => st0) ∧ ∀ k, D.has P k → w6.heap.size ≤ k := by
    rcases new_fault HA.out hf with ⟨-, T, x, h⟩ | ⟨h1, h2, P, o, D, ks, h3, h4, h5, h6, h7, h8, h9⟩
    · simp at h
    · exact ⟨h1, h2, P, o, D, ks, h3, h4, h5, by simpa using h6.symm, h7, h8, h9⟩
  subst hcd
  rw [← hed]
  have HPL := Lib.hid hpl
  have HPR := Lib.hid hPR
  have HORD := Lib.hid hord
  have HD := Lib.hid hD
  have HAT8 := Lib.hid (hat.below hb8)
  have HDQ : Hid (∀ q, D.has P q → w.heap.size ≤ q ∧ q < w8.heap.size) := Lib.hid (fun q hq => ⟨by have := hD q hq; omega, (hat.below hb8).lt hq⟩)
  have hLn := HTW.out.many
  have KRN8 := Lib.hid (KRN.out w8 HB8.out _ rb lv L hord.ok.right (by omega) (by omega) hall HRT8.out (by have := HTW.out.perm.length_eq; omega))
  have hz8 := HB8.out.size
  have hfc := fun w => field_code ((0 : Nat) : Int) pd w
  have hfc0 := fun w => field_code 0 pd w
  clear hf hb8 hall hpl hPR hord hat hD hed HA
  unfold faultV
  go_wp2_with fail
  refine KRN8.out.mono ?_
  rintro e w9 ⟨X, lv9, ks9, rfl, hpl9, hrb9, hb9⟩
  have HRB := Lib.hid (hrb9 P (fun k => by
    rw [HPR.out k]
    exact reach_congr (places_same HORD.out.ok.right.2 HPL.out hpl9) k))
  have HB9 := Lib.hid (HB8.out.trans (hb9.mono hz8))
  have HAT9 := Lib.hid (HAT8.out.below hb9)
  have hz9 := hb9.size
  have HRO : Hid (RO X R (.slice a R.length c) lv9 m L P w8.heap.size w (fun _ => st0) w9) := Lib.hid ⟨HRB.out, BInv.zero _ _ _, HEV.out m L HTW.out HS.out (by omega), HB9.out, hz8⟩
  clear hpl9 hrb9 hb9 KRN8
  have hz0 := HB9.out.size
  obtain ⟨i0, hi0, -, -, -⟩ := info_parts ints_info
  cases a1 with
  | none =>
    obtain ⟨hp0, hc0⟩ := HNP.out rfl
    subst hc0
    have hpl0 : picks.length = 0 := by rw [hp0]; rfl
    have HVX : Hid (w9.ownsRow w9.heap.size 3 1 (.slice none 0 0) picks.length (picks.map (Value.int .i64))) := Lib.hid (by rw [hp0]; exact World.ownsRow_nil _ _ _ _)
    have HVR : Hid (Roomy (.slice none 0 0)) := Lib.hid (fun a n c h => by cases h; exact Nat.le_refl _)
    have HBX9 : Hid (Below w9.heap.size w9 w9) := Lib.hid (Below.refl _ _)
    subst hp0
    go_wp2_with (first
      | (at_builtin
         refine wpList_append_own_none rfl (.tmp 99) (.tmp 100) 24 rfl 0 3 i0 1 Tryz.underlying24 hi0 _ 0 [] rfl (World.ownsRow_nil _ _ _ _) rfl ?_))
    have HAX := Lib.hid (HAT9.out.below HBX9.out)
    have HBX := Lib.hid (HB9.out.trans (HBX9.out.mono hz0))
    have HROX := Lib.hid (HRO.out.below HBX9.out)
    have hz9x := HBX9.out.size
    have HBO : Hid (BO S (R.map Prod.fst) P m D 0 0 w.heap.size (.slice none 0 0) none (fun _ => st0) w9) := Lib.hid (BO.made HAX.out (fun q hq => (HDQ.out q hq).1) hcv (fun q hq => hq.elim) (fun q _ hf => hf) (fun c h => by cases h))
    have HENV : Hid (BEnv S (R.map Prod.fst) m w) := Lib.hid (once_env HS.out (tw_bound HTW.out) HE.out)
    have KPA := Lib.hid (pickRun_any w9 HBO.out HORD.out w rfl HENV.out HBX.out (.slice none 0 0) [] (fun wl hf => ownsRow_reads (ownsRow_fr HVX.out hf (fun q hq => ⟨(HVX.out.lt q hq).2, fun hs => by
      have h1 := (HVX.out.lt q hq).1
      rcases hs with h2 | h2
      · have := (HDQ.out q (Or.inr h2)).2; omega
      · exact h2⟩))) HVR.out (by simp) HZ1.out)
    go_wp2_with fail
    refine KPA.out.mono ?_
    rintro e w11 ⟨ks, js, ca, st1, cb, st2, lvb, u, rfl, hpr, har, hown, hbo, htu⟩
    have hcb := (hpr.stepsL.trans har.stepsL.1).steps
    have hst := hcb.nohit rfl (fun _ _ => rfl)
    obtain rfl := hst.1
    have hca := hpr.stepsL.steps.nohit rfl (fun _ _ => rfl)
    obtain rfl := hca.1
    have HPR := Lib.hid hpr
    have HAR := Lib.hid har
    have HOWN := Lib.hid hown
    have HINV := Lib.hid (hcb.inv HORD.out (BInv.zero _ _ _) (fun c h => by cases h)).1
    have HRST : Hid (∀ j, j ∉ P → st2 j = st0) := Lib.hid (fun j hj => hcb.rest j hj)
    have HOV : Hid (∀ i ∈ P, (st2 i).state ≠ 1) := Lib.hid (over_all HORD.out.ok HINV.out har.stepsL.2)
    have HAT11 := Lib.hid hbo.at_
    have HB11 := Lib.hid (HBO.out.base rfl HBX.out htu)
    have HROA : Hid (RO X R (.slice a R.length c) lv9 m L P w8.heap.size w (fun _ => st0) w11) := Lib.hid ⟨HROX.out.at_.of_fr htu.1 (Nat.le_refl _) (fun q hq hb hs => by
      rcases hs with h2 | h2
      · have := (HDQ.out q (Or.inr h2)).2; omega
      · exact h2), HROX.out.inv, HROX.out.env, HB11.out, HROX.out.base⟩
    have hz11 := htu.1.size
    clear hcb hst hca hpr har hown hbo htu KPA
    have KPO := Lib.hid (rpick_any HROA.out HORD.out [] (.slice none ([] : List Int).length 0) HR10.out HZ1.out (by simp))
    go_wp2_with fail
    refine KPO.out.mono ?_
    rintro e w12 ⟨u2, ks2, js2, sta, stb, rfl, hpr2, har2, hown2, hro2, hfr2⟩
    obtain ⟨hk1, hk2, -, -⟩ := HPR.out.same HORD.out.ok rfl hpr2
    subst hk1 hk2
    obtain ⟨hj1, hj2⟩ := HAR.out.same HORD.out.ok rfl har2
    subst hj1 hj2
    have HRO2 := Lib.hid hro2
    have HAT12 : Hid (BAt S (R.map Prod.fst) P m D w12 st2) := Lib.hid (HAT11.out.of_fr hfr2 (fun q hq => ⟨HAT11.out.lt hq, fun hs => by
      have h1 := (HDQ.out q hq).2
      have h2 := HROX.out.at_.base
      rcases hs with rfl | rfl | rfl | rfl <;> omega⟩))
    have HOWN12 := Lib.hid (ownsRow_fr HOWN.out hfr2 (fun q hq => ⟨(HOWN.out.lt q hq).2, fun hs => by
      have h1 := (HOWN.out.lt q hq).1
      have h2 := (HROX.out.foot_at hs).2
      omega⟩))
    have KSI := Lib.hid (sameInts _ _ (intsB (ks ++ js)) (intsB (ks ++ js)) w12 (ownsRow_reads HOWN12.out) (ownsRow_reads hown2) (fun k hk => (HOWN12.out.lt k hk).2) (fun k hk => (hown2.lt k hk).2))
    rw [beq_self_eq_true] at KSI
    clear hpr2 har2 hown2 hro2 hfr2 KPO
    go_wp2_with fail
    refine KSI.out.mono ?_
    rintro e w13 ⟨rfl, hb13⟩
    have HRO13 := Lib.hid (HRO2.out.below hb13)
    have HAT13 := Lib.hid (HAT12.out.below hb13)
    clear hb13 KSI
    have KOV := Lib.hid (bOver_any w13 HAT13.out HORD.out.ok)
    rw [over_true HOV.out] at KOV
    go_wp2_with fail
    refine KOV.out.mono ?_
    rintro e w14 ⟨rfl, hb14⟩
    have HRO14 := Lib.hid (HRO13.out.below hb14)
    have HAT14 := Lib.hid (HAT13.out.below hb14)
    clear hb14 KOV
    go_wp2_with fail
    go_loopw [19] (fun iv wl => ∃ i : Nat, i ≤ R.length ∧ iv = .int .i64 i ∧ Below w14.heap.size w14 wl) (fun iv _ => R.length - (intOf iv).toNat)
    case atStart => exact ⟨0, by omega, rfl, Below.refl _ _⟩
    case round =>
      obtain ⟨i, hi, rfl, hbi⟩ := hrel
      have HBI := Lib.hid hbi
      have hzi := hbi.size
      by_cases hlt : i < R.length
      · have hlc : ((i : Int) < (R.length : Int)) = True := eq_true (by omega)
        have KRS := Lib.hid (bresR_any (HAT14.out.below hbi) HINV.out HOV.out HRST.out i)
        clear hbi
        go_wp2_with fail
        refine KRS.out.mono ?_
        rintro e w15 ⟨⟨bb, rfl⟩, hb15⟩
        have HB15 := Lib.hid (HBI.out.trans (hb15.mono hzi))
        have hro := HRO14.out.below HB15.out
        have KST : Hid (∀ wl, Below w15.heap.size w15 wl → Calls Tryz.prog 16 #[ptrV D.b, .int .i64 (i : Int)] wl fun e w' => e = .returned (str (rSt P st2 i)) ∧ Below w15.heap.size w15 w') := Lib.hid (fun wl hb => (bstR_any (HAT14.out.below (HB15.out.trans (hb.mono HB15.out.size))) HINV.out i).mono (by
          rintro e w' ⟨h1, h2⟩
          exact ⟨h1, hb.trans (h2.mono hb.size)⟩))
        have HCL := Lib.hid (fun wl (hb : Below w15.heap.size w15 wl) => (⟨(hro.at_.below hb).box.cell rfl, (hro.at_.below hb).box.cell rfl, (hro.at_.below hb).state.cell (k := i) (by rw [List.getElem?_map, List.getElem?_range hlt]; rfl), (hro.at_.below hb).out.cell (k := i) (by rw [List.getElem?_map, List.getElem?_range hlt]; rfl)⟩ : wl.cell? ⟨X.b, 2, none⟩ = some (slN X.s R.length) ∧ wl.cell? ⟨X.b, 3, none⟩ = some (slN X.o R.length) ∧ wl.cell? ⟨X.s, i, none⟩ = some (str (rSt P st2 i)) ∧ wl.cell? ⟨X.o, i, none⟩ = some (str (st2 i).out)))
        have hixs := idx_at (P := Tryz.prog) (T := 32) (E := 9) Tryz.underlying32 (by kernel_rfl) X.s R.length R.length i hlt
        have hixo := idx_at (P := Tryz.prog) (T := 32) (E := 9) Tryz.underlying32 (by kernel_rfl) X.o R.length R.length i hlt
        clear hb15 hro KRS
        generalize (st2 i).out = so at *
        generalize rSt P st2 i = ss at *
        go_wp2_with fail
        go_region_held3 (fun w' => w'.cell? ⟨X.b, 2, none⟩ = some (slN X.s R.length) ∧ w'.cell? ⟨X.b, 3, none⟩ = some (slN X.o R.length) ∧ w'.cell? ⟨X.s, i, none⟩ = some (str ss) ∧ w'.cell? ⟨X.o, i, none⟩ = some (str so))
          (first | exact HCL.out _ hb16 | exact HCL.out _ (Below.refl _ _) | exact HCL.out _ (Below.refl _ _).drew)
          (first
            | (go_at_call 16
               refine (KST.out _ ?_).mono ?_
               · first | exact (Below.refl _ _) | exact (Below.refl _ _).drew
               rintro e w16 ⟨rfl, hb16⟩))
        all_goals
          have HB16 := Lib.hid (HB15.out.trans (hb16.mono HB15.out.size))
          clear hb16
          go_wp2
          go_roundw
          case rel => exact ⟨i + 1, by omega, by go_num, HB16.out⟩
          case measure => simp [intOf]; omega
      · obtain rfl : i = R.length := by omega
        have hlc : ((R.length : Int) < (R.length : Int)) = False := eq_false (by omega)
        clear hbi
        go_wp2
        go_ret
        exact ⟨rfl, HRO14.out.low.trans (HBI.out.mono HRO14.out.low.size)⟩
  | some ad =>
    have HNW : Hid (∀ q u, (picks.map (Value.int .i64))[q]? = some u → w9.cell? (ad.add q) = some u) := Lib.hid (fun q u hq => by
      obtain ⟨a', c', e', -, hc⟩ := HR1.out _ HB9.out
      obtain ⟨b', o', e2, h2⟩ := hc q u hq
      simp only [Value.slice.injEq] at e'
      obtain ⟨rfl, -⟩ := e'
      cases e2
      rw [addr_add rfl]
      exact h2)
    go_wp2_with (first
      | (at_builtin
         refine wpList_app _ rfl _ _ 24 rfl tyInts w9.heap.size _ 0 [] rfl (World.ownsRow_nil _ _ _ _) ad picks.length c1 (picks.map (Value.int .i64)) rfl (by simp) HNW.out ?_ (by decide) ?_ ?_ ?_
         · intro u hu; obtain ⟨x, -, rfl⟩ := List.mem_map.1 hu; rfl
         · omega
         · omega
         intro vx w10 ho6 hg6 hloc6
         have HVX : Hid (w10.ownsRow w9.heap.size 3 1 vx picks.length (picks.map (Value.int .i64))) := Lib.hid (by simpa using ho6)
         have HVR : Hid (Roomy vx) := Lib.hid (fun a n c h => by
           have h1 := own_lenR ho6
           rcases ho6.2 with ⟨rfl, h2⟩ | ⟨g, cap, cur, rfl, -, -, hcap, -⟩
           · cases h; exact Nat.le_refl _
           · cases h; exact hcap)
         have HBX9 : Hid (Below w9.heap.size w9 w10) := Lib.hid ((Below.refl w9.heap.size w9).grown hg6 (by omega) (fun q hq => by cases hq))
         clear ho6 hg6 hloc6))
    have HAX := Lib.hid (HAT9.out.below HBX9.out)
    have HBX := Lib.hid (HB9.out.trans (HBX9.out.mono hz0))
    have HROX := Lib.hid (HRO.out.below HBX9.out)
    have hz9x := HBX9.out.size
    have HBO : Hid (BO S (R.map Prod.fst) P m D 0 0 w.heap.size (.slice none 0 0) none (fun _ => st0) w10) := Lib.hid (BO.made HAX.out (fun q hq => (HDQ.out q hq).1) hcv (fun q hq => hq.elim) (fun q _ hf => hf) (fun c h => by cases h))
    have HENV : Hid (BEnv S (R.map Prod.fst) m w) := Lib.hid (once_env HS.out (tw_bound HTW.out) HE.out)
    have KPA := Lib.hid (pickRun_any w10 HBO.out HORD.out w rfl HENV.out HBX.out vx picks (fun wl hf => ownsRow_reads (ownsRow_fr HVX.out hf (fun q hq => ⟨(HVX.out.lt q hq).2, fun hs => by
      have h1 := (HVX.out.lt q hq).1
      rcases hs with h2 | h2
      · have := (HDQ.out q (Or.inr h2)).2; omega
      · exact h2⟩))) HVR.out (by omega) HZ1.out)
    go_wp2_with fail
    refine KPA.out.mono ?_
    rintro e w11 ⟨ks, js, ca, st1, cb, st2, lvb, u, rfl, hpr, har, hown, hbo, htu⟩
    have hcb := (hpr.stepsL.trans har.stepsL.1).steps
    have hst := hcb.nohit rfl (fun _ _ => rfl)
    obtain rfl := hst.1
    have hca := hpr.stepsL.steps.nohit rfl (fun _ _ => rfl)
    obtain rfl := hca.1
    have HPR := Lib.hid hpr
    have HAR := Lib.hid har
    have HOWN := Lib.hid hown
    have HINV := Lib.hid (hcb.inv HORD.out (BInv.zero _ _ _) (fun c h => by cases h)).1
    have HRST : Hid (∀ j, j ∉ P → st2 j = st0) := Lib.hid (fun j hj => hcb.rest j hj)
    have HOV : Hid (∀ i ∈ P, (st2 i).state ≠ 1) := Lib.hid (over_all HORD.out.ok HINV.out har.stepsL.2)
    have HAT11 := Lib.hid hbo.at_
    have HB11 := Lib.hid (HBO.out.base rfl HBX.out htu)
    have HROA : Hid (RO X R (.slice a R.length c) lv9 m L P w8.heap.size w (fun _ => st0) w11) := Lib.hid ⟨HROX.out.at_.of_fr htu.1 (Nat.le_refl _) (fun q hq hb hs => by
      rcases hs with h2 | h2
      · have := (HDQ.out q (Or.inr h2)).2; omega
      · exact h2), HROX.out.inv, HROX.out.env, HB11.out, HROX.out.base⟩
    have hz11 := htu.1.size
    clear hcb hst hca hpr har hown hbo htu KPA
    have KPO := Lib.hid (rpick_any HROA.out HORD.out picks (.slice (some ad) picks.length c1) HR10.out HZ1.out (by omega))
    go_wp2_with fail
    refine KPO.out.mono ?_
    rintro e w12 ⟨u2, ks2, js2, sta, stb, rfl, hpr2, har2, hown2, hro2, hfr2⟩
    obtain ⟨hk1, hk2, -, -⟩ := HPR.out.same HORD.out.ok rfl hpr2
    subst hk1 hk2
    obtain ⟨hj1, hj2⟩ := HAR.out.same HORD.out.ok rfl har2
    subst hj1 hj2
    have HRO2 := Lib.hid hro2
    have HAT12 : Hid (BAt S (R.map Prod.fst) P m D w12 st2) := Lib.hid (HAT11.out.of_fr hfr2 (fun q hq => ⟨HAT11.out.lt hq, fun hs => by
      have h1 := (HDQ.out q hq).2
      have h2 := HROX.out.at_.base
      rcases hs with rfl | rfl | rfl | rfl <;> omega⟩))
    have HOWN12 := Lib.hid (ownsRow_fr HOWN.out hfr2 (fun q hq => ⟨(HOWN.out.lt q hq).2, fun hs => by
      have h1 := (HOWN.out.lt q hq).1
      have h2 := (HROX.out.foot_at hs).2
      omega⟩))
    have KSI := Lib.hid (sameInts _ _ (intsB (ks ++ js)) (intsB (ks ++ js)) w12 (ownsRow_reads HOWN12.out) (ownsRow_reads hown2) (fun k hk => (HOWN12.out.lt k hk).2) (fun k hk => (hown2.lt k hk).2))
    rw [beq_self_eq_true] at KSI
    clear hpr2 har2 hown2 hro2 hfr2 KPO
    go_wp2_with fail
    refine KSI.out.mono ?_
    rintro e w13 ⟨rfl, hb13⟩
    have HRO13 := Lib.hid (HRO2.out.below hb13)
    have HAT13 := Lib.hid (HAT12.out.below hb13)
    clear hb13 KSI
    have KOV := Lib.hid (bOver_any w13 HAT13.out HORD.out.ok)
    rw [over_true HOV.out] at KOV
    go_wp2_with fail
    refine KOV.out.mono ?_
    rintro e w14 ⟨rfl, hb14⟩
    have HRO14 := Lib.hid (HRO13.out.below hb14)
    have HAT14 := Lib.hid (HAT13.out.below hb14)
    clear hb14 KOV
    go_wp2_with fail
    go_loopw [19] (fun iv wl => ∃ i : Nat, i ≤ R.length ∧ iv = .int .i64 i ∧ Below w14.heap.size w14 wl) (fun iv _ => R.length - (intOf iv).toNat)
    case atStart => exact ⟨0, by omega, rfl, Below.refl _ _⟩
    case round =>
      obtain ⟨i, hi, rfl, hbi⟩ := hrel
      have HBI := Lib.hid hbi
      have hzi := hbi.size
      by_cases hlt : i < R.length
      · have hlc : ((i : Int) < (R.length : Int)) = True := eq_true (by omega)
        have KRS := Lib.hid (bresR_any (HAT14.out.below hbi) HINV.out HOV.out HRST.out i)
        clear hbi
        go_wp2_with fail
        refine KRS.out.mono ?_
        rintro e w15 ⟨⟨bb, rfl⟩, hb15⟩
        have HB15 := Lib.hid (HBI.out.trans (hb15.mono hzi))
        have hro := HRO14.out.below HB15.out
        have KST : Hid (∀ wl, Below w15.heap.size w15 wl → Calls Tryz.prog 16 #[ptrV D.b, .int .i64 (i : Int)] wl fun e w' => e = .returned (str (rSt P st2 i)) ∧ Below w15.heap.size w15 w') := Lib.hid (fun wl hb => (bstR_any (HAT14.out.below (HB15.out.trans (hb.mono HB15.out.size))) HINV.out i).mono (by
          rintro e w' ⟨h1, h2⟩
          exact ⟨h1, hb.trans (h2.mono hb.size)⟩))
        have HCL := Lib.hid (fun wl (hb : Below w15.heap.size w15 wl) => (⟨(hro.at_.below hb).box.cell rfl, (hro.at_.below hb).box.cell rfl, (hro.at_.below hb).state.cell (k := i) (by rw [List.getElem?_map, List.getElem?_range hlt]; rfl), (hro.at_.below hb).out.cell (k := i) (by rw [List.getElem?_map, List.getElem?_range hlt]; rfl)⟩ : wl.cell? ⟨X.b, 2, none⟩ = some (slN X.s R.length) ∧ wl.cell? ⟨X.b, 3, none⟩ = some (slN X.o R.length) ∧ wl.cell? ⟨X.s, i, none⟩ = some (str (rSt P st2 i)) ∧ wl.cell? ⟨X.o, i, none⟩ = some (str (st2 i).out)))
        have hixs := idx_at (P := Tryz.prog) (T := 32) (E := 9) Tryz.underlying32 (by kernel_rfl) X.s R.length R.length i hlt
        have hixo := idx_at (P := Tryz.prog) (T := 32) (E := 9) Tryz.underlying32 (by kernel_rfl) X.o R.length R.length i hlt
        clear hb15 hro KRS
        generalize (st2 i).out = so at *
        generalize rSt P st2 i = ss at *
        go_wp2_with fail
        go_region_held3 (fun w' => w'.cell? ⟨X.b, 2, none⟩ = some (slN X.s R.length) ∧ w'.cell? ⟨X.b, 3, none⟩ = some (slN X.o R.length) ∧ w'.cell? ⟨X.s, i, none⟩ = some (str ss) ∧ w'.cell? ⟨X.o, i, none⟩ = some (str so))
          (first | exact HCL.out _ hb16 | exact HCL.out _ (Below.refl _ _) | exact HCL.out _ (Below.refl _ _).drew)
          (first
            | (go_at_call 16
               refine (KST.out _ ?_).mono ?_
               · first | exact (Below.refl _ _) | exact (Below.refl _ _).drew
               rintro e w16 ⟨rfl, hb16⟩))
        all_goals
          have HB16 := Lib.hid (HB15.out.trans (hb16.mono HB15.out.size))
          clear hb16
          go_wp2
          go_roundw
          case rel => exact ⟨i + 1, by omega, by go_num, HB16.out⟩
          case measure => simp [intOf]; omega
      · obtain rfl : i = R.length := by omega
        have hlc : ((R.length : Int) < (R.length : Int)) = False := eq_false (by omega)
        clear hbi
        go_wp2
        go_ret
        exact ⟨rfl, HRO14.out.low.trans (HBI.out.mono HRO14.out.low.size)⟩
end Go.Proofs.YtgoeoekdlcbmpaaGreatDoor
