/-
  The walk of the law GraphTells, at any rules and outs.
-/
import Derived.Test.YtmlmogllgnfklaaGreatDoorFaulted
import Derived.Test.YtmlmogllgnfklaaGreatDoorAhead
import Derived.Test.YtmlmogllgnfklaaGreatDoorGNeeds
import Derived.Test.YtmlmogllgnfklaaGreatDoorGLeaves
import Derived.Test.YtmlmogllgnfklaaGreatDoorGCycle
import Derived.Test.YtmlmogllgnfklaaGreatDoorRNeed
import Derived.Test.YtmlmogllgnfklaaGreatDoorRLeaf
import Derived.Test.YtmlmogllgnfklaaGreatDoorRCyc
import Derived.Test.YtmlmogllgnfklaaGreatDoorSameT
namespace Go.Proofs.YtmlmogllgnfklaaGreatDoor
open Go Go.RowKit Go.Kf Go.Sort Go.Proofs

theorem own_rulesT {w : World} {v : Value} {R : List RV} (h : ∃ B, OwnAt B w v R) : RulesAt w v R ∧ Roomy v := by
  obtain ⟨B, h⟩ := h
  exact h.rules
theorem reach_congr {E : Nat → List Nat} {a b : List Nat} (h : ∀ k, k ∈ a ↔ k ∈ b) (k : Nat) : Reach E a k ↔ Reach E b k := by
  constructor
  · intro hr
    induction hr with
    | base hk => exact .base ((h _).1 hk)
    | step _ hk ih => exact .step ih hk
  · intro hr
    induction hr with
    | base hk => exact .base ((h _).2 hk)
    | step _ hk ih => exact .step ih hk
/-- The places of outs are those that they are. -/
theorem places_same {l : List RuleL} {outs : List (List UInt8)} {a b : List Nat} (hr : Right l) (ha : PlacesAt l outs a) (hb : PlacesAt l outs b) (k : Nat) : k ∈ a ↔ k ∈ b := by
  constructor
  · intro hk
    have hkl := ha.1 k hk
    exact (hb.mem hr hkl).2 ((ha.mem hr hkl).1 hk)
  · intro hk
    have hkl := hb.1 k hk
    exact (ha.mem hr hkl).2 ((hb.mem hr hkl).1 hk)
theorem same_needs {l : List RuleL} {outs : List (List UInt8)} {a b N M : List Nat} (hr : Right l) (ha : PlacesAt l outs a) (hb : PlacesAt l outs b) (hN : ∀ k, k ∈ N ↔ Reach (edgesB l) a k) (hM : ∀ k, k ∈ M ↔ Reach (edgesB l) b k) (n : Nat) : needL n N = needL n M :=
  needL_congr (fun k => ((hN k).trans (reach_congr (places_same hr ha hb) k)).trans (hM k).symm)
theorem places_made {l : List RuleL} {outs : List (List UInt8)} {a : List Nat} (ha : PlacesAt l outs a) : ∀ s ∈ outs, s ∈ l.map RuleL.out := by
  intro s hs
  rw [← ha.2] at hs
  obtain ⟨k, hk, e⟩ := List.mem_map.1 hs
  have hkl := ha.1 k hk
  rw [List.getD_eq_getElem?_getD, List.getElem?_eq_getElem hkl, Option.getD_some] at e
  exact List.mem_map.2 ⟨l[k], List.getElem_mem hkl, e⟩
theorem own_lt {w : World} {base : Nat} {e : TypeId} {s : Nat} {v : Value} {n : Nat} {xs : List Value} (h : w.ownsRow base e s v n xs) : ∀ k, v.ownBlock = some k → k < w.heap.size := fun k hk => (h.lt k hk).2

set_option maxRecDepth 100000 in
set_option maxHeartbeats 8000000 in
theorem graphTells_all (R : List RV) (v : Value) (outs : List (List UInt8)) (vo : Value) (w : World) (S : Nat → Addr) (hr : ReadsK 4 w v (R.map rvRow)) (hi : ∀ x ∈ R, Reads w x.2 (x.1.ins.map str) ∧ NilOr x.2) (ho : Reads w vo (outs.map str)) (hno : NilOr vo) (hm : Ml w) (hE : ErrW w S) (hN : NErr w) (ht : Tab w) :
    Calls Tryz.prog 6 #[v, vo] w fun e w' => e = .returned (.bool true) ∧ Below w.heap.size w w' := by
  have hrow : ∀ r ∈ R.map rvRow, r ≠ [] := fun r hr => by obtain ⟨x, -, rfl⟩ := List.mem_map.1 hr; simp [rvRow]
  obtain ⟨a, c, hv, hle, -⟩ := id hr
  rw [List.length_map] at hv hle
  subst hv
  obtain ⟨ao, co, hvo, hole, -⟩ := id ho
  rw [List.length_map] at hvo hole
  subst hvo
  have KA := Lib.hid (ahead_any w S hm (kErr_of_errW hE) hN ht)
  have KL := Lib.hid (fun w1 (hb : Below w.heap.size w w1) => longRules_any R (.slice a R.length c) 20 w1 (readsK_below0 hr hrow hb) (fun x hx => (hi x hx).1.below0 hb) (by decide))
  have KLT := Lib.hid (fun w1 (hb : Below w.heap.size w w1) => longTexts_any (.slice ao outs.length co) outs 10 300 w1 (ho.below0 hb) (by decide) (by decide))
  have KO := Lib.hid (fun w1 (hb : Below w.heap.size w w1) (hs : ∀ x ∈ R, ShortR x.1) (hn : R.length ≤ 1000) => ownRules_any R (.slice a R.length c) w1 (readsK_below0 hr hrow hb) (fun x hx => ⟨(hi x hx).1.below0 hb, (hi x hx).2, by have := (hs x hx).2.2.2.1; omega⟩) hn)
  have KOT := Lib.hid (fun w1 (hb : Below w.heap.size w w1) (hn : outs.length ≤ 1000) => own_row (.slice ao outs.length co) outs w1 (ho.below0 hb) hno hn)
  have KC := Lib.hid (fun w1 (hb : Below w.heap.size w w1) (R' : List RV) (v' : Value) (h : ∃ B, OwnAt B w1 v' R') (hs : ∀ x ∈ R', ShortR x.1) (h2 : R'.length ≤ 1000) =>
    gcycle_any R' v' w1 S (own_rulesT h).1 (own_rulesT h).2 (hm.below hb (Nat.le_refl _)) (kErr_of_errW (hE.below hb (Nat.le_refl _))) (hN.below hb (Nat.le_refl _)) (tab_below ht hb (Nat.le_refl _)) (short_bounds hs) (by omega))
  have KR := Lib.hid (fun w1 (hb : Below w.heap.size w w1) (R' : List RV) (v' : Value) (h : ∃ B, OwnAt B w1 v' R') (hs : ∀ x ∈ R', ShortR x.1) (h2 : R'.length ≤ 1000) =>
    gorder_any R' v' w1 S (own_rulesT h).1 (own_rulesT h).2 (hm.below hb (Nat.le_refl _)) (kErr_of_errW (hE.below hb (Nat.le_refl _))) (hN.below hb (Nat.le_refl _)) (tab_below ht hb (Nat.le_refl _)) (short_bounds hs) (by omega))
  have KN := Lib.hid (fun w1 (hb : Below w.heap.size w w1) (R' : List RV) (v' : Value) (outs : List (List UInt8)) (vo : Value) (h : ∃ B, OwnAt B w1 v' R') (hs : ∀ x ∈ R', ShortR x.1) (hO : Reads w1 vo (outs.map str)) (h1 : outs.length ≤ 1000) (h2 : R'.length ≤ 1000) =>
    gneeds_any R' v' outs vo w1 S (own_rulesT h).1 (own_rulesT h).2 hO h1 (hm.below hb (Nat.le_refl _)) (kErr_of_errW (hE.below hb (Nat.le_refl _))) (lErr_of_errW (hE.below hb (Nat.le_refl _))) (hN.below hb (Nat.le_refl _)) (tab_below ht hb (Nat.le_refl _)) (short_bounds hs) (by omega))
  have KV := Lib.hid (fun w1 (hb : Below w.heap.size w w1) (R' : List RV) (v' : Value) (h : ∃ B, OwnAt B w1 v' R') (hs : ∀ x ∈ R', ShortR x.1) (h2 : R'.length ≤ 1000) =>
    gleaves_any R' v' w1 S (own_rulesT h).1 (own_rulesT h).2 (hm.below hb (Nat.le_refl _)) (kErr_of_errW (hE.below hb (Nat.le_refl _))) (hN.below hb (Nat.le_refl _)) (tab_below ht hb (Nat.le_refl _)) (short_bounds hs) (by omega))
  have KSF := Lib.hid (fun w1 (hb : Below w.heap.size w w1) (hs : ∀ x ∈ R, ShortR x.1) => sheetFault_any R (.slice a R.length c) w1 (readsK_below0 hr hrow hb) (fun x hx => (hi x hx).1.below0 hb) (short_bounds hs))
  have KOF := Lib.hid (fun w1 (hb : Below w.heap.size w w1) (gs : Nat) (hs : Bits w1 gs (List.replicate R.length true)) (hn : R.length ≤ 1000) => orderOf_any R (.slice a R.length c) gs w1 (readsK_below0 hr hrow hb) (fun x hx => (hi x hx).1.below0 hb) hs hn)
  have KCF := Lib.hid (fun w1 (hb : Below w.heap.size w w1) (hn : R.length ≤ 900) => cycleOf_any R (.slice a R.length c) w1 (readsK_below0 hr hrow hb) (fun x hx => (hi x hx).1.below0 hb) hn)
  have KLF := Lib.hid (fun w1 (hb : Below w.heap.size w w1) (hs : ∀ x ∈ R, ShortR x.1) (hn : R.length ≤ 100) => leavesOf_any R (.slice a R.length c) w1 (readsK_below0 hr hrow hb) (fun x hx => (hi x hx).1.below0 hb) hn (fun x hx => (short_bounds hs x hx).2.2.2))
  have KNF := Lib.hid (fun w1 (hb : Below w.heap.size w w1) (hR : RightS (R.map Prod.fst)) (hn : R.length ≤ 1000) (h1 : outs.length ≤ 1000) => neededOf_any R (.slice a R.length c) outs (.slice ao outs.length co) w1 (readsK_below0 hr hrow hb) (fun x hx => (hi x hx).1.below0 hb) (ho.below0 hb) hR hn h1)
  have HE := Lib.hid (fun w1 (hb : Below w.heap.size w w1) => hE.below hb (Nat.le_refl _))
  have hml : (R.map Prod.fst).length = R.length := List.length_map _
  have HML := Lib.hid hml
  clear hr hi hm hE hN ht hrow hml ho hno
  go_enter Tryz.func6, Tryz.ntmps6
  go_wp2_with fail
  refine KA.out.mono ?_
  rintro e w1 ⟨rfl, hb1⟩
  have HB1 := Lib.hid hb1
  clear hb1
  go_wp2_with fail
  refine (KL.out w1 HB1.out).mono ?_
  rintro e w2 ⟨rfl, rfl | ⟨rfl, hn, hs⟩⟩
  · go_wp2
    go_ret
    exact ⟨rfl, HB1.out⟩
  · have HS := Lib.hid hs
    have hn41 : R.length ≤ 41 := by omega
    clear hn hs
    go_wp2_with fail
    refine (KLT.out w1 HB1.out).mono ?_
    rintro e w2 ⟨rfl, rfl | ⟨rfl, hfew⟩⟩
    · go_wp2
      go_ret
      exact ⟨rfl, HB1.out⟩
    · have ho10 : outs.length ≤ 10 := hfew.1
      have KO1 := Lib.hid (KO.out w1 HB1.out HS.out (by omega))
      clear hfew
      go_wp2_with fail
      refine KO1.out.mono ?_
      rintro e w3 ⟨v3, R3, rfl, he3, ho3, hb3⟩
      have HE3 := Lib.hid he3
      have HB3 := Lib.hid (HB1.out.trans (hb3.mono HB1.out.size))
      have hl3 : R3.length = R.length := by have := congrArg List.length he3; simpa using this
      have KR3 := Lib.hid (KR.out w3 HB3.out R3 v3 ⟨_, ho3⟩ (short_other HS.out he3) (by omega))
      clear he3 ho3 hb3
      go_wp2_with fail
      refine KR3.out.mono ?_
      rintro e w4 ⟨ha4, hb4⟩
      rw [HE3.out] at ha4
      have HB4 := Lib.hid (HB3.out.trans (hb4.mono HB3.out.size))
      have KO4 := Lib.hid (KO.out w4 HB4.out HS.out (by omega))
      clear hb4
      by_cases hrs : RightS (R.map Prod.fst)
      case neg =>
        rcases ha4 with ⟨h, -⟩ | ⟨T4, x4, rfl, hbad4⟩
        · exact absurd h hrs
        have HBAD4 := Lib.hid hbad4
        clear hbad4
        go_wp2_with fail
        refine KO4.out.mono ?_
        rintro e w5 ⟨v5, R5, rfl, he5, ho5, hb5⟩
        have HE5 := Lib.hid he5
        have HQ5 := Lib.hid hb5
        have HB5 := Lib.hid (HB4.out.trans (hb5.mono HB4.out.size))
        have hl5 : R5.length = R.length := by have := congrArg List.length he5; simpa using this
        have KC5 := Lib.hid (KC.out w5 HB5.out R5 v5 ⟨_, ho5⟩ (short_other HS.out he5) (by omega))
        clear he5 ho5 hb5
        go_wp2_with fail
        refine KC5.out.mono ?_
        rintro e w6 ⟨ha6, hb6⟩
        rw [HE5.out] at ha6
        have HQ6 := Lib.hid (HQ5.out.trans (hb6.mono HQ5.out.size))
        have HB6 := Lib.hid (HB5.out.trans (hb6.mono HB5.out.size))
        rcases ha6 with ⟨h, -⟩ | ⟨T6, x6, rfl, hbad6⟩
        · exact absurd h hrs
        have HBAD6 := Lib.hid hbad6
        have KO6 := Lib.hid (KO.out w6 HB6.out HS.out (by omega))
        clear hb6 hbad6
        go_wp2_with fail
        refine KO6.out.mono ?_
        rintro e w7 ⟨v7, R7, rfl, he7, ho7, hb7⟩
        have HE7 := Lib.hid he7
        have HO7 := Lib.hid ho7
        have HP7 := Lib.hid hb7
        have HQ7 := Lib.hid (HQ6.out.trans (hb7.mono HQ6.out.size))
        have HB7 := Lib.hid (HB6.out.trans (hb7.mono HB6.out.size))
        have hl7 : R7.length = R.length := by have := congrArg List.length he7; simpa using this
        have KT7 := Lib.hid (KOT.out w7 HB7.out (by omega))
        clear he7 ho7 hb7
        go_wp2_with fail
        refine KT7.out.mono ?_
        rintro e w8 ⟨v8, rfl, ho8, hb8⟩
        have HP8 := Lib.hid (HP7.out.trans (hb8.mono HP7.out.size))
        have HQ8 := Lib.hid (HQ7.out.trans (hb8.mono HQ7.out.size))
        have HB8 := Lib.hid (HB7.out.trans (hb8.mono HB7.out.size))
        have KN8 := Lib.hid (KN.out w8 HB8.out R7 v7 outs v8 ⟨_, HO7.out.fr hb8⟩ (short_other HS.out HE7.out) (ownsRow_reads ho8) (by omega) (by omega))
        clear ho8 hb8
        go_wp2_with fail
        refine KN8.out.mono ?_
        rintro e w9 ⟨ha9, hb9⟩
        rw [HE7.out] at ha9
        have HP9 := Lib.hid (HP8.out.trans (hb9.mono HP8.out.size))
        have HQ9 := Lib.hid (HQ8.out.trans (hb9.mono HQ8.out.size))
        have HB9 := Lib.hid (HB8.out.trans (hb9.mono HB8.out.size))
        rcases ha9 with ⟨h, -⟩ | ⟨T9, x9, rfl, hbad9⟩
        · exact absurd h hrs
        have HBAD9 := Lib.hid hbad9
        have KO9 := Lib.hid (KO.out w9 HB9.out HS.out (by omega))
        clear hb9 hbad9
        go_wp2_with fail
        refine KO9.out.mono ?_
        rintro e w10 ⟨v10, R10, rfl, he10, ho10b, hb10⟩
        have HE10 := Lib.hid he10
        have HR10 := Lib.hid hb10
        have HP10 := Lib.hid (HP9.out.trans (hb10.mono HP9.out.size))
        have HQ10 := Lib.hid (HQ9.out.trans (hb10.mono HQ9.out.size))
        have HB10 := Lib.hid (HB9.out.trans (hb10.mono HB9.out.size))
        have hl10 : R10.length = R.length := by have := congrArg List.length he10; simpa using this
        have KV10 := Lib.hid (KV.out w10 HB10.out R10 v10 ⟨_, ho10b⟩ (short_other HS.out he10) (by omega))
        clear he10 ho10b hb10
        go_wp2_with fail
        refine KV10.out.mono ?_
        rintro e w11 ⟨ha11, hb11⟩
        rw [HE10.out] at ha11
        have HR11 := Lib.hid (HR10.out.trans (hb11.mono HR10.out.size))
        have HP11 := Lib.hid (HP10.out.trans (hb11.mono HP10.out.size))
        have HQ11 := Lib.hid (HQ10.out.trans (hb11.mono HQ10.out.size))
        have HB11 := Lib.hid (HB10.out.trans (hb11.mono HB10.out.size))
        rcases ha11 with ⟨h, -⟩ | ⟨T11, x11, rfl, hbad11⟩
        · exact absurd h hrs
        have HBAD11 := Lib.hid hbad11
        have KF11 := Lib.hid (KSF.out w11 HB11.out HS.out)
        clear hb11 hbad11
        go_wp2_with fail
        refine KF11.out.mono ?_
        rintro e w12 ⟨⟨cf, pf, hfi, rfl⟩, hb12⟩
        have HB12 := Lib.hid (HB11.out.trans (hb12.mono HB11.out.size))
        have HKX : ∀ (err : Value) B, SheetBad S (R.map Prod.fst) B err w12 → 0 < cf ∧ Hid (∀ wl, Below w12.heap.size w12 wl → Calls Tryz.prog 19 #[err, faultV cf pf] wl fun e w' => e = .returned (.bool true) ∧ Below wl.heap.size wl w') := fun err B h => by
          have key := fun wl (hb : Below w12.heap.size w12 wl) => bad_code (h.below hb) hfi (HE.out wl (HB12.out.trans (hb.mono HB12.out.size)))
          exact ⟨(key w12 (Below.refl _ _)).1, Lib.hid (fun wl hb => faulted_any err cf pf wl (fun w1 hb1 => (key w1 (hb.trans (hb1.mono hb.size))).2))⟩
        obtain ⟨hcf, K4⟩ := HKX _ _ (HBAD4.out.below (HQ11.out.trans (hb12.mono HQ11.out.size)))
        obtain ⟨-, K6⟩ := HKX _ _ (HBAD6.out.below (HP11.out.trans (hb12.mono HP11.out.size)))
        obtain ⟨-, K9⟩ := HKX _ _ (HBAD9.out.below (HR11.out.trans (hb12.mono HR11.out.size)))
        obtain ⟨-, K11⟩ := HKX _ _ (HBAD11.out.below hb12)
        have hcc : ((0 : Int) < (cf : Int)) = True := eq_true (by omega)
        obtain ⟨W12, hW12⟩ : ∃ W, w12.alloc (.cells #[.int .i64 (cf : Int), .int .i64 pf] 43) = W := ⟨_, rfl⟩
        have hA12 : Below w12.heap.size w12 W12 := hW12 ▸ (Below.refl _ w12).alloc (Nat.le_refl _) _
        have hz12 : w12.heap.size < W12.heap.size := by rw [← hW12]; simp
        have hg12 : W12.heap[w12.heap.size]? = some (.cells #[.int .i64 (cf : Int), .int .i64 pf] 43 (0, 0)) := hW12 ▸ heap_alloc_here w12 _
        have HCL := Lib.hid (fun wl (hb : Below W12.heap.size W12 wl) => (⟨(cell_of_heap ((hb.block _ hz12).trans hg12) 0).trans rfl, (cell_of_heap ((hb.block _ hz12).trans hg12) 1).trans rfl⟩ : wl.cell? ⟨w12.heap.size, 0, none⟩ = some (.int .i64 (cf : Int)) ∧ wl.cell? ⟨w12.heap.size, 1, none⟩ = some (.int .i64 pf)))
        have HUP : Hid (∀ wl, Below W12.heap.size W12 wl → Below w12.heap.size w12 wl) := Lib.hid (fun wl hb => hA12.trans (hb.mono (Nat.le_of_lt hz12)))
        clear HKX hb12 hfi hA12 hg12
        have K4' := Lib.hid (K4.out W12 (HUP.out _ (Below.refl _ _)))
        obtain ⟨hc0, hc1⟩ := HCL.out W12 (Below.refl _ _)
        go_wp2_with fail
        refine K4'.out.mono ?_
        rintro e w13 ⟨rfl, hb13⟩
        clear hc0 hc1
        obtain ⟨hc0, hc1⟩ := HCL.out _ hb13
        have K6' := Lib.hid (K6.out w13 (HUP.out _ hb13))
        have HB13 := Lib.hid hb13
        clear hb13
        go_wp2_with fail
        refine K6'.out.mono ?_
        rintro e w14 ⟨rfl, hb14⟩
        have hb14' := HB13.out.trans (hb14.mono HB13.out.size)
        clear hc0 hc1
        obtain ⟨hc0, hc1⟩ := HCL.out _ hb14'
        have K9' := Lib.hid (K9.out w14 (HUP.out _ hb14'))
        have HB14 := Lib.hid hb14'
        clear hb14 hb14'
        go_wp2_with fail
        refine K9'.out.mono ?_
        rintro e w15 ⟨rfl, hb15⟩
        have hb15' := HB14.out.trans (hb15.mono HB14.out.size)
        clear hc0 hc1
        obtain ⟨hc0, hc1⟩ := HCL.out _ hb15'
        have K11' := Lib.hid (K11.out w15 (HUP.out _ hb15'))
        have HB15 := Lib.hid hb15'
        clear hb15 hb15'
        go_wp2_with fail
        refine K11'.out.mono ?_
        rintro e w16 ⟨rfl, hb16⟩
        have HB16 := Lib.hid (HB12.out.trans ((HUP.out _ (HB15.out.trans (hb16.mono HB15.out.size))).mono HB12.out.size))
        clear hb16 hc0 hc1
        go_wp2
        go_ret
        exact ⟨rfl, HB16.out⟩
      case pos =>
        have HRS := Lib.hid hrs
        rcases ha4 with ⟨-, hor⟩ | ⟨T4, x4, -, hbad4⟩
        case inr => exact absurd hrs hbad4.wrong
        obtain ⟨o4, e4, OK4, rfl, hor4⟩ : ∃ u e', ∃ ok : (∃ o, orderB (edgesB (R.map Prod.fst)) (fun _ => true) (R.map Prod.fst).length = some o ∧ e' = .nilIface ∧ w4.ownsRow w3.heap.size 3 1 u o.length ((intsB o).map (Value.int .i64))) ∨ (orderB (edgesB (R.map Prod.fst)) (fun _ => true) (R.map Prod.fst).length = none ∧ e' = errI (S 8) ∧ u = .slice none 0 0), e = .returned (.tuple #[u, e']) ∧ True := by
          rcases hor with ⟨o, u, h1, h2, h3⟩ | ⟨h1, h2⟩
          · exact ⟨u, _, Or.inl ⟨o, h1, rfl, h3⟩, h2, trivial⟩
          · exact ⟨_, _, Or.inr ⟨h1, rfl, rfl⟩, h2, trivial⟩
        have HOK4 := Lib.hid OK4
        clear OK4 hor hor4 hrs
        go_wp2_with fail
        refine KO4.out.mono ?_
        rintro e w5 ⟨v5, R5, rfl, he5, ho5, hb5⟩
        have HE5 := Lib.hid he5
        have HQ5 := Lib.hid hb5
        have HB5 := Lib.hid (HB4.out.trans (hb5.mono HB4.out.size))
        have hl5 : R5.length = R.length := by have := congrArg List.length he5; simpa using this
        have KC5 := Lib.hid (KC.out w5 HB5.out R5 v5 ⟨_, ho5⟩ (short_other HS.out he5) (by omega))
        clear he5 ho5 hb5
        go_wp2_with fail
        refine KC5.out.mono ?_
        rintro e w6 ⟨ha6, hb6⟩
        rw [HE5.out] at ha6
        have HQ6 := Lib.hid (HQ5.out.trans (hb6.mono HQ5.out.size))
        have HB6 := Lib.hid (HB5.out.trans (hb6.mono HB5.out.size))
        rcases ha6 with ⟨-, cyc, u6, hcy, rfl, how6⟩ | ⟨T6, x6, -, hbad6⟩
        case inr => exact absurd HRS.out hbad6.wrong
        have HCY := Lib.hid hcy
        have HOW6 := Lib.hid how6
        have KO6 := Lib.hid (KO.out w6 HB6.out HS.out (by omega))
        clear hb6 hcy how6
        go_wp2_with fail
        refine KO6.out.mono ?_
        rintro e w7 ⟨v7, R7, rfl, he7, ho7, hb7⟩
        have HE7 := Lib.hid he7
        have HO7 := Lib.hid ho7
        have HP7 := Lib.hid hb7
        have HQ7 := Lib.hid (HQ6.out.trans (hb7.mono HQ6.out.size))
        have HB7 := Lib.hid (HB6.out.trans (hb7.mono HB6.out.size))
        have hl7 : R7.length = R.length := by have := congrArg List.length he7; simpa using this
        have KT7 := Lib.hid (KOT.out w7 HB7.out (by omega))
        clear he7 ho7 hb7
        go_wp2_with fail
        refine KT7.out.mono ?_
        rintro e w8 ⟨v8, rfl, ho8, hb8⟩
        have HP8 := Lib.hid (HP7.out.trans (hb8.mono HP7.out.size))
        have HQ8 := Lib.hid (HQ7.out.trans (hb8.mono HQ7.out.size))
        have HB8 := Lib.hid (HB7.out.trans (hb8.mono HB7.out.size))
        have KN8 := Lib.hid (KN.out w8 HB8.out R7 v7 outs v8 ⟨_, HO7.out.fr hb8⟩ (short_other HS.out HE7.out) (ownsRow_reads ho8) (by omega) (by omega))
        clear ho8 hb8
        go_wp2_with fail
        refine KN8.out.mono ?_
        rintro e w9 ⟨ha9, hb9⟩
        rw [HE7.out] at ha9
        have HP9 := Lib.hid (HP8.out.trans (hb9.mono HP8.out.size))
        have HQ9 := Lib.hid (HQ8.out.trans (hb9.mono HQ8.out.size))
        have HB9 := Lib.hid (HB8.out.trans (hb9.mono HB8.out.size))
        rcases ha9 with ⟨-, hnd⟩ | ⟨T9, x9, -, hbad9⟩
        case inr => exact absurd HRS.out hbad9.wrong
        obtain ⟨n9, e9, OK9, rfl, -⟩ : ∃ u e', ∃ ok : (∃ ks N, PlacesAt (R.map Prod.fst) outs ks ∧ (∀ k, k ∈ N ↔ Reach (edgesB (R.map Prod.fst)) ks k) ∧ e' = .nilIface ∧ w9.ownsRow w8.heap.size 3 1 u (needL (R.map Prod.fst).length N).length ((intsB (needL (R.map Prod.fst).length N)).map (Value.int .i64))) ∨
            (∃ i g, ∃ h : i < outs.length, (∀ j (hj : j < outs.length), j < i → outs[j] ∈ (R.map Prod.fst).map RuleL.out) ∧ outs[i] ∉ (R.map Prod.fst).map RuleL.out ∧ e' = .iface 77 (.pointer (some ⟨g, 0, none⟩)) ∧ w9.heap[g]? = some (.cells #[.int .i64 (i : Int), errI (S 5)] 79 (0, 0)) ∧ u = .slice none 0 0), e = .returned (.tuple #[u, e']) ∧ True := by
          rcases hnd with ⟨ks, N, v, h1, h2, h3, h4⟩ | ⟨i, g, h1, h2, h3, h4, h5, h6⟩
          · exact ⟨v, _, Or.inl ⟨ks, N, h1, h2, rfl, h4⟩, h3, trivial⟩
          · exact ⟨_, _, Or.inr ⟨i, g, h1, h2, h3, rfl, h6, rfl⟩, h4, trivial⟩
        have HOK9 := Lib.hid OK9
        have KO9 := Lib.hid (KO.out w9 HB9.out HS.out (by omega))
        clear hb9 OK9 hnd
        go_wp2_with fail
        refine KO9.out.mono ?_
        rintro e w10 ⟨v10, R10, rfl, he10, ho10b, hb10⟩
        have HE10 := Lib.hid he10
        have HR10 := Lib.hid hb10
        have HP10 := Lib.hid (HP9.out.trans (hb10.mono HP9.out.size))
        have HQ10 := Lib.hid (HQ9.out.trans (hb10.mono HQ9.out.size))
        have HB10 := Lib.hid (HB9.out.trans (hb10.mono HB9.out.size))
        have hl10 : R10.length = R.length := by have := congrArg List.length he10; simpa using this
        have KV10 := Lib.hid (KV.out w10 HB10.out R10 v10 ⟨_, ho10b⟩ (short_other HS.out he10) (by omega))
        clear he10 ho10b hb10
        go_wp2_with fail
        refine KV10.out.mono ?_
        rintro e w11 ⟨ha11, hb11⟩
        rw [HE10.out] at ha11
        have HR11 := Lib.hid (HR10.out.trans (hb11.mono HR10.out.size))
        have HP11 := Lib.hid (HP10.out.trans (hb11.mono HP10.out.size))
        have HQ11 := Lib.hid (HQ10.out.trans (hb11.mono HQ10.out.size))
        have HB11 := Lib.hid (HB10.out.trans (hb11.mono HB10.out.size))
        rcases ha11 with ⟨-, u11, rfl, how11⟩ | ⟨T11, x11, -, hbad11⟩
        case inr => exact absurd HRS.out hbad11.wrong
        have HOW11 := Lib.hid how11
        have KF11 := Lib.hid (KSF.out w11 HB11.out HS.out)
        clear hb11 how11
        go_wp2_with fail
        refine KF11.out.mono ?_
        rintro e w12 ⟨⟨cf, pf, hfi, rfl⟩, hb12⟩
        obtain ⟨rfl, rfl⟩ := right_fault HRS.out hfi
        have HU12 := Lib.hid hb12
        have HR12 := Lib.hid (HR11.out.trans (hb12.mono HR11.out.size))
        have HP12 := Lib.hid (HP11.out.trans (hb12.mono HP11.out.size))
        have HQ12 := Lib.hid (HQ11.out.trans (hb12.mono HQ11.out.size))
        have HB12 := Lib.hid (HB11.out.trans (hb12.mono HB11.out.size))
        obtain ⟨W12, hW12⟩ : ∃ W, w12.alloc (.cells #[.int .i64 0, .int .i64 (-1)] 43) = W := ⟨_, rfl⟩
        have hA12 : Below w12.heap.size w12 W12 := hW12 ▸ (Below.refl _ w12).alloc (Nat.le_refl _) _
        have hc0 : W12.cell? ⟨w12.heap.size, 0, none⟩ = some (.int .i64 0) := by rw [← hW12, cell_of_heap (heap_alloc_here w12 _)]; rfl
        have HA12 := Lib.hid hA12
        have KAO := Lib.hid (allOf_any R.length W12 (by omega))
        clear hfi hb12 hA12
        go_wp2_with fail
        refine KAO.out.mono ?_
        rintro e w13 ⟨rfl, hbt13, hb13⟩
        have HA13 := Lib.hid (HA12.out.trans (hb13.mono HA12.out.size))
        have HB13 := Lib.hid (HB12.out.trans (HA13.out.mono HB12.out.size))
        have KOF13 := Lib.hid (KOF.out w13 HB13.out _ hbt13 (by omega))
        clear hbt13 hb13 hc0
        go_wp2_with fail
        refine KOF13.out.mono ?_
        rintro e w14 ⟨hof, hb14⟩
        have HA14 := Lib.hid (HA13.out.trans (hb14.mono HA13.out.size))
        have HB14 := Lib.hid (HB12.out.trans (HA14.out.mono HB12.out.size))
        have hz12 := HA14.out.size
        have hq12 := HQ12.out.size
        rcases hof with ⟨od, ud, hod, rfl, how14⟩ | ⟨hod, rfl⟩
        case' inl =>
          rcases HOK4.out with ⟨o, ho, rfl, how4⟩ | ⟨ho, -⟩
          case inr => rw [ho] at hod; cases hod
          obtain rfl : o = od := by rw [ho] at hod; exact Option.some.inj hod
          have hf4 : Below w4.heap.size w4 w14 := HQ12.out.trans (HA14.out.mono HQ12.out.size)
          have hr4 := (ownsRow_reads how4).below0 hf4
          have hlt4 : ∀ k, o4.ownBlock = some k → k < w14.heap.size := fun k hk => Nat.lt_of_lt_of_le (own_lt how4 k hk) hf4.size
          have KSI := Lib.hid (sameInts o4 ud (intsB o) (intsB o) w14 hr4 (ownsRow_reads how14) hlt4 (own_lt how14))
          rw [beq_self_eq_true] at KSI
          clear hb14 how14 how4 hr4 hlt4 hod ho hf4
          go_wp2_with fail
          refine KSI.out.mono ?_
          rintro e w15 ⟨rfl, hb15⟩
          have HA15 := Lib.hid (HA14.out.trans (hb15.mono HA14.out.size))
          clear hb15 KSI hz12 hq12
          go_wp2_with fail
        case' inr =>
          rcases HOK4.out with ⟨o, ho, -⟩ | ⟨ho, rfl, rfl⟩
          case inl => rw [ho] at hod; cases hod
          have KCD : Hid (Calls Tryz.prog 25 #[errI (S 8), .int .i64 9] w14 fun e w' => e = .returned (.bool true) ∧ Below w14.heap.size w14 w') := Lib.hid (coded_any (errI (S 8)) 9 w14 (code_at w14 S (HE.out w14 HB14.out) 8 (by decide)))
          clear hb14 hod ho
          go_wp2_with fail
          refine KCD.out.mono ?_
          rintro e w15 ⟨rfl, hb15⟩
          have HA15 := Lib.hid (HA14.out.trans (hb15.mono HA14.out.size))
          clear hb15 KCD hz12 hq12
          go_wp2_with fail
        all_goals
          have HB15 := Lib.hid (HB12.out.trans (HA15.out.mono HB12.out.size))
          have KCF15 := Lib.hid (KCF.out w15 HB15.out (by omega))
          refine KCF15.out.mono ?_
          rintro e w16 ⟨cd, ucd, hcd, rfl, how16, hb16⟩
          obtain rfl := cyc_same HCY.out hcd
          have HA16 := Lib.hid (HA15.out.trans (hb16.mono HA15.out.size))
          have hf6 : Below w6.heap.size w6 w16 := HP12.out.trans (HA16.out.mono HP12.out.size)
          have hr6 := (ownsRow_reads HOW6.out).below0 hf6
          have hlt6 : ∀ k, u6.ownBlock = some k → k < w16.heap.size := fun k hk => Nat.lt_of_lt_of_le (own_lt HOW6.out k hk) hf6.size
          have KSC := Lib.hid (sameInts u6 ucd (intsB cyc) (intsB cyc) w16 hr6 (ownsRow_reads how16) hlt6 (own_lt how16))
          rw [beq_self_eq_true] at KSC
          clear hb16 how16 hr6 hlt6 hf6 hcd
          go_wp2_with fail
          refine KSC.out.mono ?_
          rintro e w17 ⟨rfl, hb17⟩
          have HA17 := Lib.hid (HA16.out.trans (hb17.mono HA16.out.size))
          have HB17 := Lib.hid (HB12.out.trans (HA17.out.mono HB12.out.size))
          have KLF17 := Lib.hid (KLF.out w17 HB17.out HS.out (by omega))
          clear hb17 KSC
          go_wp2_with fail
          refine KLF17.out.mono ?_
          rintro e w18 ⟨ulv, rfl, how18, hb18⟩
          have HA18 := Lib.hid (HA17.out.trans (hb18.mono HA17.out.size))
          have hf11 : Below w11.heap.size w11 w18 := HU12.out.trans (HA18.out.mono HU12.out.size)
          have KST := Lib.hid (sameTexts0 u11 ulv (leavesB (R.map Prod.fst)) (leavesB (R.map Prod.fst)) w18 ((ownsRow_reads HOW11.out).below0 hf11) (ownsRow_reads how18))
          rw [beq_self_eq_true] at KST
          clear hb18 how18 hf11
          go_wp2_with fail
          refine KST.out.mono ?_
          rintro e w19 ⟨rfl, hb19⟩
          have HA19 := Lib.hid (HA18.out.trans (hb19.mono HA18.out.size))
          have HB19 := Lib.hid (HB12.out.trans (HA19.out.mono HB12.out.size))
          have KNF19 := Lib.hid (KNF.out w19 HB19.out HRS.out (by omega) (by omega))
          clear hb19 KST
          go_wp2_with fail
          refine KNF19.out.mono ?_
          rintro e w20 ⟨hnf, hb20⟩
          have HA20 := Lib.hid (HA19.out.trans (hb20.mono HA19.out.size))
          have HB20 := Lib.hid (HB12.out.trans (HA20.out.mono HB12.out.size))
          have hf9 : Below w9.heap.size w9 w20 := HR12.out.trans (HA20.out.mono HR12.out.size)
          clear hb20
          rcases hnf with ⟨ks, N, hpl, hN, rfl, hbt⟩ | ⟨i, hi, hmk, hni, rfl⟩
          · rcases HOK9.out with ⟨ks9, N9, hpl9, hN9, rfl, how9⟩ | ⟨i9, g9, hi9, -, hni9, -⟩
            case inr => exact absurd (places_made hpl _ (List.getElem_mem hi9)) hni9
            have hsame := same_needs HRS.out.2 hpl9 hpl hN9 hN R.length
            rw [HML.out, hsame] at how9
            have KNB := Lib.hid (numbers_any R.length w19.heap.size N w20 hbt (by omega))
            have hr9 := (ownsRow_reads how9).below0 hf9
            have hlt9 : ∀ k, n9.ownBlock = some k → k < w20.heap.size := fun k hk => Nat.lt_of_lt_of_le (own_lt how9 k hk) hf9.size
            have HR9 := Lib.hid hr9
            have HL9 := Lib.hid hlt9
            clear hpl hN hbt hpl9 hN9 how9 hsame hr9 hlt9 hf9
            go_wp2_with fail
            refine KNB.out.mono ?_
            rintro e w21 ⟨un, rfl, how21, hb21⟩
            have KSN := Lib.hid (sameInts n9 un (intsB (needL R.length N)) (intsB (needL R.length N)) w21 (HR9.out.below0 hb21) (ownsRow_reads how21) (fun k hk => Nat.lt_of_lt_of_le (HL9.out k hk) hb21.size) (own_lt how21))
            rw [beq_self_eq_true] at KSN
            have HB21 := Lib.hid (HB20.out.trans (hb21.mono HB20.out.size))
            clear hb21 how21
            go_wp2_with fail
            refine KSN.out.mono ?_
            rintro e w22 ⟨rfl, hb22⟩
            have HB22 := Lib.hid (HB21.out.trans (hb22.mono HB21.out.size))
            clear hb22
            go_wp2
            go_ret
            exact ⟨rfl, HB22.out⟩
          · rcases HOK9.out with ⟨ks9, N9, hpl9, -⟩ | ⟨i9, g9, hi9, hmk9, hni9, rfl, hg9, rfl⟩
            case inl => exact absurd (places_made hpl9 _ (List.getElem_mem hi)) hni
            obtain rfl : i = i9 := by
              rcases Nat.lt_trichotomy i i9 with h | h | h
              · exact absurd (hmk9 i hi h) hni
              · exact h
              · exact absurd (hmk i9 hi9 h) hni9
            have hg20 := (hf9.block _ (lt_of_heap hg9)).trans hg9
            have hge : ((i : Int) < 0) = False := eq_false (by omega)
            have hge2 : ((0 : Int) ≤ (i : Int)) = True := eq_true (by omega)
            have KFA := Lib.hid (faulted_any (.iface 77 (.pointer (some ⟨g9, 0, none⟩))) 6 (i : Int) w20 (fun w1 hb1 => by
              have hg1 := (hb1.block _ (lt_of_heap hg20)).trans hg20
              refine (code_fault w1 S (HE.out w1 (HB20.out.trans (hb1.mono HB20.out.size))) g9 5 i (by decide) ((cell_of_heap hg1 0).trans rfl) ((cell_of_heap hg1 1).trans rfl)).mono ?_
              rintro e w' ⟨rfl, hb⟩
              exact ⟨rfl, hb⟩))
            clear hmk hni hmk9 hni9 hg9 hg20 hf9
            go_wp2_with fail
            refine KFA.out.mono ?_
            rintro e w21 ⟨rfl, hb21⟩
            have HB21 := Lib.hid (HB20.out.trans (hb21.mono HB20.out.size))
            clear hb21
            go_wp2
            go_ret
            exact ⟨rfl, HB21.out⟩
end Go.Proofs.YtmlmogllgnfklaaGreatDoor
