/-
  The walk of the law GraphWhole, at any rules.
-/
import Derived.Test.YtmlmogllgnfklaaGreatDoorAhead
import Derived.Test.YtmlmogllgnfklaaGreatDoorGNeeds
import Derived.Test.YtmlmogllgnfklaaGreatDoorGLeaves
namespace Go.Proofs.YtmlmogllgnfklaaGreatDoor
open Go Go.RowKit Go.Kf Go.Sort Go.Proofs

theorem needsNo_not {S : Nat → Addr} {l : List RuleL} {outs : List (List UInt8)} {B : Nat} {e : Ending} {w' : World} (h : NeedsNo S l outs B e w') (ho : ∀ s ∈ outs, s ∈ l.map RuleL.out) : False := by
  obtain ⟨i, g, hi, -, hn, -⟩ := h
  exact hn (ho _ (List.getElem_mem hi))
/-- What Needs answers of outs that are made, on a right sheet. -/
theorem needs_ok {S : Nat → Addr} {l : List RuleL} {outs : List (List UInt8)} {B : Nat} {e : Ending} {w' : World} (h : NeedsAns S l outs B e w') (hr : RightS l) (ho : ∀ s ∈ outs, s ∈ l.map RuleL.out) : NeedsOk l outs B e w' := by
  rcases h with ⟨-, h | h⟩ | ⟨T, x, -, h⟩
  · exact h
  · exact absurd h (fun h => needsNo_not h ho)
  · exact absurd hr h.wrong
/-- All outs need all rules. -/
theorem whole_all {l : List RuleL} {ks N : List Nat} (hr : RightS l) (hp : PlacesAt l (l.map RuleL.out) ks) (hN : ∀ k, k ∈ N ↔ Reach (edgesB l) ks k) : needL l.length N = List.range l.length :=
  needL_all (fun k hk => (hN k).2 (.base ((hp.mem hr.2 hk).2 (List.mem_map.2 ⟨_, List.getElem_mem hk, rfl⟩))))
/-- One out needs its rule, and what that needs. -/
theorem whole_one {l : List RuleL} {ks N : List Nat} {o : Nat} (hr : RightS l) (ho : o < l.length) (hp : PlacesAt l [l[o].out] ks) (hN : ∀ k, k ∈ N ↔ Reach (edgesB l) ks k) : o ∈ N ∧ (∀ i k, k < l.length → i ∈ N → needB l i k = true → k ∈ N) ∧ ∀ k ∈ N, k < l.length :=
  ⟨(hN o).2 (.base ((hp.mem hr.2 ho).2 (List.mem_singleton.2 rfl))),
    fun i k hk hi hn => (hN k).2 (.step ((hN i).1 hi) (List.mem_filter.2 ⟨List.mem_range.2 hk, hn⟩)),
    fun k hk => ((hN k).1 hk).lt (edges_lt l) hp.1⟩

/-- What is needed of one rule. -/
structure NeedX (l : List RuleL) (o : Nat) (X : List Nat) : Prop where
  mem : o ∈ X
  shut : ∀ i k, k < l.length → i ∈ X → needB l i k = true → k ∈ X
  lt : ∀ k ∈ X, k < l.length
  len : X.length ≤ l.length
theorem needX {l : List RuleL} {ks N : List Nat} {o : Nat} (hr : RightS l) (ho : o < l.length) (hp : PlacesAt l [l[o].out] ks) (hN : ∀ k, k ∈ N ↔ Reach (edgesB l) ks k) : NeedX l o (needL l.length N) := by
  obtain ⟨h1, h2, h3⟩ := whole_one hr ho hp hN
  have key : ∀ k, k ∈ needL l.length N ↔ k ∈ N := fun k => mem_needL h3
  exact ⟨(key o).2 h1, fun i k hk hi hn => (key k).2 (h2 i k hk ((key i).1 hi) hn), fun k hk => h3 k ((key k).1 hk), needL_len _ _⟩
theorem own_rules {w : World} {v : Value} {R : List RV} (h : ∃ B, OwnAt B w v R) : RulesAt w v R ∧ Roomy v := by
  obtain ⟨B, h⟩ := h
  exact h.rules
theorem one_reads (w : World) (s : List UInt8) : Reads (w.alloc (.cells #[str s] 9)) (.slice (some ⟨w.heap.size, 0, none⟩) 1 1) ([s].map str) := by
  refine ⟨some ⟨w.heap.size, 0, none⟩, 1, rfl, by simp, fun i u hi => ⟨_, _, rfl, ?_⟩⟩
  rw [cell_of_heap (heap_alloc_here w _)]
  match i, hi with
  | 0, hi => cases hi; rfl
  | n + 1, hi => cases hi

set_option maxRecDepth 100000 in
set_option maxHeartbeats 8000000 in
theorem graphWhole_main (R : List RV) (v : Value) (o : Nat) (ho : o < R.length) (w : World) (S : Nat → Addr) (hr : ReadsK 4 w v (R.map rvRow)) (hi : ∀ x ∈ R, Reads w x.2 (x.1.ins.map str) ∧ NilOr x.2) (hm : Ml w) (hE : KErr w S) (hL : LErr w S) (hN : NErr w) (ht : Tab w) :
    Calls Tryz.prog 3 #[v, .int .i64 (o : Int)] w fun e w' => e = .returned (.bool true) ∧ Below w.heap.size w w' := by
  have hrow : ∀ r ∈ R.map rvRow, r ≠ [] := fun r hr => by obtain ⟨x, -, rfl⟩ := List.mem_map.1 hr; simp [rvRow]
  obtain ⟨a, c, hv, hle, -⟩ := id hr
  rw [List.length_map] at hv hle
  subst hv
  have KA := Lib.hid (ahead_any w S hm hE hN ht)
  have KL := Lib.hid (fun w1 (hb : Below w.heap.size w w1) => longRules_any R (.slice a R.length c) 20 w1 (readsK_below0 hr hrow hb) (fun x hx => (hi x hx).1.below0 hb) (by decide))
  have KO := Lib.hid (fun w1 (hb : Below w.heap.size w w1) (hs : ∀ x ∈ R, ShortR x.1) (hn : R.length ≤ 1000) => ownRules_any R (.slice a R.length c) w1 (readsK_below0 hr hrow hb) (fun x hx => ⟨(hi x hx).1.below0 hb, (hi x hx).2, by have := (hs x hx).2.2.2.1; omega⟩) hn)
  have HRK := Lib.hid (fun w1 (hb : Below w.heap.size w w1) => readsK_below0 hr hrow hb)
  have HI := Lib.hid (fun w1 (hb : Below w.heap.size w w1) x (hx : x ∈ R) => (hi x hx).1.below0 hb)
  have HM := Lib.hid hm
  have HE := Lib.hid hE
  have HN := Lib.hid hN
  have HT := Lib.hid ht
  have KN := Lib.hid (fun w1 (hb : Below w.heap.size w w1) (R' : List RV) (v' : Value) (outs : List (List UInt8)) (vo : Value) (h : ∃ B, OwnAt B w1 v' R') (hs : ∀ x ∈ R', ShortR x.1) (hO : Reads w1 vo (outs.map str)) (h1 : outs.length ≤ 1000) (h2 : R'.length ≤ 1000) =>
    gneeds_any R' v' outs vo w1 S (own_rules h).1 (own_rules h).2 hO h1 (hm.below hb (Nat.le_refl _)) (hE.below hb (Nat.le_refl _)) (hL.below hb (Nat.le_refl _)) (hN.below hb (Nat.le_refl _)) (tab_below ht hb (Nat.le_refl _)) (short_bounds hs) (by omega))
  have KV := Lib.hid (fun w1 (hb : Below w.heap.size w w1) (R' : List RV) (v' : Value) (h : ∃ B, OwnAt B w1 v' R') (hs : ∀ x ∈ R', ShortR x.1) (h2 : R'.length ≤ 1000) =>
    gleaves_any R' v' w1 S (own_rules h).1 (own_rules h).2 (hm.below hb (Nat.le_refl _)) (hE.below hb (Nat.le_refl _)) (hN.below hb (Nat.le_refl _)) (tab_below ht hb (Nat.le_refl _)) (short_bounds hs) (by omega))
  have ho0 : ((o : Int) < 0) = False := eq_false (by omega)
  have ho1 : ((R.length : Int) ≤ (o : Int)) = False := eq_false (by omega)
  have hml : (R.map Prod.fst).length = R.length := List.length_map _
  have HML := Lib.hid hml
  clear hr hi hm hE hL hN ht hrow hml
  go_enter Tryz.func3, Tryz.ntmps3
  go_wp2_with fail
  refine KA.out.mono ?_
  rintro e w1 ⟨rfl, hb1⟩
  have HB1 := Lib.hid hb1
  clear hb1
  go_wp2_with fail
  refine (KL.out w1 HB1.out).mono ?_
  rintro e w2 ⟨rfl, rfl | ⟨rfl, hn, hs⟩⟩
  · go_wp2
    go_ret
    exact ⟨rfl, HB1.out⟩
  · have HS := Lib.hid hs
    have hn41 : R.length ≤ 41 := by omega
    have hz1 := HB1.out.size
    have HW : Hid (∀ wl, Below w1.heap.size w1 wl → Below w.heap.size w wl) := Lib.hid (fun wl h => HB1.out.trans (h.mono HB1.out.size))
    obtain ⟨OUTS, hOUTS⟩ : ∃ o, (R.map Prod.fst).map RuleL.out = o := ⟨_, rfl⟩
    have hol : OUTS.length = R.length := by rw [← hOUTS]; simp
    have HOUTS := Lib.hid hOUTS
    have HOL := Lib.hid hol
    clear hn hs hOUTS
    go_wp2_with fail
    go_loopw [6, 7] (fun ov iv wl => ∃ i : Nat, i ≤ R.length ∧ iv = .int .i64 i ∧ wl.ownsRow w1.heap.size 9 1 ov (OUTS.take i).length ((OUTS.take i).map str) ∧ Below w1.heap.size w1 wl) (fun _ iv _ => R.length - (intOf iv).toNat)
    case atStart => exact ⟨0, by omega, rfl, World.ownsRow_nil _ _ _ _, Below.refl _ _⟩
    case round =>
      obtain ⟨i, hi, rfl, hown, hbi⟩ := hrel
      have HOW := Lib.hid hown
      have HBI := Lib.hid hbi
      have hzi := hbi.size
      have htl : (OUTS.take i).length = i := by rw [List.length_take, HOL.out]; omega
      by_cases hlt : i < R.length
      · have hlc : ((i : Int) < (R.length : Int)) = True := eq_true (by omega)
        obtain ⟨b, of, hix, -, hce⟩ := (HRK.out _ (HW.out _ hbi)).at (P := Tryz.prog) Tryz.underlying22 (by kernel_rfl) i (by simpa using hlt)
        simp only [List.getElem_map] at hce
        have hc0 := hce 0 _ rfl
        simp only [Nat.add_zero] at hc0
        have HTK : Hid (∀ s, R[i].1.out = s → OUTS.take (i + 1) = OUTS.take i ++ [s]) := Lib.hid (fun s hs => by
          have h1 : i < OUTS.length := by rw [HOL.out]; exact hlt
          rw [List.take_succ_eq_append_getElem h1, ← hs]
          congr 2
          simp only [← HOUTS.out, List.getElem_map])
        clear hce
        generalize hs : R[i].1.out = s at *
        have HTK2 := Lib.hid (HTK.out s rfl)
        clear HTK hs hown hbi
        go_wp2_with (first
          | (at_builtin
             refine wpList_app _ rfl _ _ 25 rfl tyStrsA w1.heap.size _ _ _ rfl (HOW.out.alloc _) ⟨wr.heap.size, 0, none⟩ 1 1 [str s] rfl rfl (news_one ?_) ?_ (by decide) ?_ ?_ ?_
             · rw [cell_of_heap (heap_alloc_here wr _)]; rfl
             · intro u hu; simp at hu; subst hu; rfl
             · omega
             · simp; omega
             intro v6 w6 ho6 hg6 hloc6
             have HO6 : Hid (w6.ownsRow w1.heap.size 9 1 v6 (OUTS.take (i + 1)).length ((OUTS.take (i + 1)).map str)) := Lib.hid (by
               rw [HTK2.out, List.length_append, List.map_append]
               exact ho6)
             have HG6 : Hid (∀ B, B ≤ w1.heap.size → Below B wr w6) := Lib.hid (fun B hB => ((Below.refl _ wr).alloc (by omega) _).grown hg6 (by simp; omega) (fun q hq => by have := (HOW.out.lt q hq).1; omega))
             clear ho6 hg6 hloc6))
        go_wp2
        go_roundw
        case rel => exact ⟨i + 1, by omega, by go_num, HO6.out, HBI.out.trans (HG6.out _ (Nat.le_refl _))⟩
        case measure => simp [intOf]; omega
      · obtain rfl : i = R.length := by omega
        have hlc : ((R.length : Int) < (R.length : Int)) = False := eq_false (by omega)
        have hown2 := hown
        rw [← HOL.out, List.take_length] at hown2
        have hro := ownsRow_reads hown2
        rename_i ov _
        have HRO := Lib.hid hro
        have KO2 := Lib.hid (KO.out wr (HW.out _ hbi) HS.out (by omega))
        clear hown hown2 hro hbi HOW
        go_wp2_with fail
        refine KO2.out.mono ?_
        rintro e w3 ⟨v3, R3, rfl, he3, ho3, hb3⟩
        have HE3 := Lib.hid he3
        have HB3 := Lib.hid (HW.out _ (HBI.out.trans (hb3.mono hzi)))
        have hl3 : R3.length = R.length := by have := congrArg List.length he3; simpa using this
        have KN3 := Lib.hid (KN.out w3 HB3.out R3 v3 OUTS _ ⟨_, ho3⟩ (short_other HS.out he3) (HRO.out.below0 hb3) (by rw [HOL.out]; omega) (by omega))
        have HRO3 := Lib.hid (HRO.out.below0 hb3)
        clear he3 ho3 hb3
        go_wp2_with fail
        refine KN3.out.mono ?_
        rintro e w4 ⟨ha, hb4⟩
        rw [HE3.out] at ha
        have HB4 := Lib.hid (HB3.out.trans (hb4.mono HB3.out.size))
        have HRO4 := Lib.hid (HRO3.out.below0 hb4)
        clear hb4
        rcases ha with ⟨hrs, ⟨ks, N, v4, hpl, hN, rfl, how⟩ | hno⟩ | ⟨T, x, rfl, hbad⟩
        case inr =>
          clear hbad
          go_wp2
          go_ret
          exact ⟨rfl, HB4.out⟩
        case inl.inr => exact (needsNo_not hno (fun s hs => by rw [HOUTS.out]; exact hs)).elim
        case inl.inl =>
          have hall := whole_all hrs (by rw [HOUTS.out]; exact hpl) hN
          rw [hall, List.length_range, HML.out] at how
          have HRS := Lib.hid hrs
          have HA4 : Hid (Reads w4 v4 ((intsB (List.range R.length)).map (Value.int .i64))) := Lib.hid (ownsRow_reads how)
          obtain ⟨a4, c4, hv4, -, -⟩ := id HA4.out
          have hrl : ((intsB (List.range R.length)).map (Value.int .i64)).length = R.length := by simp
          rw [hrl] at hv4
          subst hv4
          have KO4 := Lib.hid (fun w5 (hb : Below w4.heap.size w4 w5) => KO.out w5 (HB4.out.trans (hb.mono HB4.out.size)) HS.out (by omega))
          have hri := HRK.out w4 HB4.out
          obtain ⟨b, of, hix, -, hce⟩ := hri.at (P := Tryz.prog) Tryz.underlying22 (by kernel_rfl) o (by simpa using ho)
          simp only [List.getElem_map] at hce
          have hc0 := hce 0 _ rfl
          simp only [Nat.add_zero] at hc0
          have HKP : Hid (∀ w5, Below w4.heap.size w4 w5 → w5.cell? ⟨b, of, none⟩ = some (str R[o].1.out)) := Lib.hid (fun w5 hb => (hb.cell (p := ⟨b, of, none⟩) (lt_of_cell hc0)).trans hc0)
          obtain ⟨so, hso⟩ : ∃ s, R[o].1.out = s := ⟨_, rfl⟩
          rw [hso] at hc0 HKP
          have HOL2 : Hid (o < (R.map Prod.fst).length) := Lib.hid (by rw [HML.out]; exact ho)
          have hso2 : ((R.map Prod.fst)[o]'(HOL2.out)).out = so := by rw [List.getElem_map]; exact hso
          have HSIN : Hid (∀ s ∈ [so], s ∈ (R.map Prod.fst).map RuleL.out) := Lib.hid (fun s hs => by
            obtain rfl := List.mem_singleton.1 hs
            exact List.mem_map.2 ⟨_, List.getElem_mem HOL2.out, hso2⟩)
          have HPL : Hid (∀ ks, PlacesAt (R.map Prod.fst) [so] ks → PlacesAt (R.map Prod.fst) [((R.map Prod.fst)[o]'(HOL2.out)).out] ks) := Lib.hid (fun ks h => by rw [hso2]; exact h)
          clear hpl hN how hrl hri hce hrs hso hso2
          go_wp2_with fail
          go_region_law (first
            | (go_simp
               go_at_call 10
               refine (KO4.out _ ?_).mono ?_
               · first | exact (Below.refl _ _).drew | exact ((Below.refl _ _).drew.alloc (Nat.le_refl _) _) | exact ((Below.refl _ _).alloc (Nat.le_refl _) _).drew
               rintro e w5 ⟨v5, R5, rfl, he5, ho5, hb5⟩
               have HE5 := Lib.hid he5
               have HO5 := Lib.hid ho5
               have hl5 : R5.length = R.length := by have := congrArg List.length he5; simpa using this
               have hb45 : Below w4.heap.size w4 w5 := by
                 first
                 | exact (Below.refl _ _).drew.trans (hb5.mono (by simp))
                 | exact ((Below.refl _ _).drew.alloc (Nat.le_refl _) _).trans (hb5.mono (by simp))
                 | exact ((Below.refl _ _).alloc (Nat.le_refl _) _).drew.trans (hb5.mono (by simp))
               have hc5 := HKP.out w5 hb45
               have HB45 := Lib.hid hb45
               clear he5 ho5 hb45)
            | (go_simp
               go_at_call 9
               refine (KN.out _ ?_ R5 v5 [so] _ ?_ (short_other HS.out HE5.out) ?_ (Nat.le_of_ble_eq_true rfl) (by omega)).mono ?_
               · first
                 | exact HB4.out.trans (((HB45.out.mono (Nat.le_refl _)).alloc HB45.out.size _).mono HB4.out.size)
                 | exact HB4.out.trans (HB45.out.mono HB4.out.size)
               · first
                 | exact ⟨_, HO5.out.fr ((Below.refl _ _).alloc (Nat.le_refl _) _)⟩
                 | exact ⟨_, HO5.out⟩
               · first
                 | exact one_reads _ _
                 | exact ((one_reads _ _).below0 (Below.refl _ _).drew).below0 hb5
                 | exact (one_reads _ _).below0 hb5
               rintro e w6 ⟨ha6, hb6⟩
               rw [HE5.out] at ha6
               obtain ⟨ks5, N5, v6, hpl5, hN5, rfl, how6⟩ := needs_ok ha6 HRS.out HSIN.out
               have hx5 := needX HRS.out HOL2.out (HPL.out ks5 hpl5) hN5
               rw [HML.out] at hx5 how6
               have HX := Lib.hid hx5
               have HA6 := Lib.hid (ownsRow_reads how6)
               have HB46 : Hid (Below w4.heap.size w4 w6) := Lib.hid (by
                 first
                 | exact ((HB45.out.mono (Nat.le_refl _)).alloc HB45.out.size _).trans (hb6.mono (by have := HB45.out.size; simp; omega))
                 | exact HB45.out.trans (hb6.mono HB45.out.size))
               clear ha6 hb6 hpl5 hN5 how6 hx5))
          all_goals
            clear hb5 hc5
            have HB6 := Lib.hid (HB4.out.trans (HB46.out.mono HB4.out.size))
            obtain ⟨a6, c6, hv6, -, -⟩ := id HA6.out
            simp only [List.length_map] at hv6
            subst hv6
            generalize needL R.length N5 = X at *
            have hxl : X.length ≤ R.length := by have := HX.out.len; rw [HML.out] at this; exact this
            have HXLT : Hid (∀ k ∈ X, k < R.length) := Lib.hid (fun k hk => by have := HX.out.lt k hk; rw [HML.out] at this; exact this)
            have hmk := make_bools R.length (by omega) w6
            obtain ⟨W7, hW7⟩ : ∃ W, w6.alloc (.cells ((List.replicate R.length false).map Value.bool).toArray 4) = W := ⟨_, rfl⟩
            have hA7 : Below w6.heap.size w6 W7 := hW7 ▸ (Below.refl _ w6).alloc (Nat.le_refl _) _
            have hb7 : Bits W7 w6.heap.size (bitsOf R.length []) := by
              rw [bitsOf_nil, ← hW7]
              exact heap_alloc_here w6 _
            rw [hW7] at hmk
            have HA7 := Lib.hid hA7
            have HBT7 := Lib.hid hb7
            clear hA7 hb7 hW7
            go_wp2_with fail
            go_loopw [12] (fun iv wl => ∃ i : Nat, i ≤ X.length ∧ iv = .int .i64 i ∧ Bits wl w6.heap.size (bitsOf R.length (X.take i)) ∧ Below w6.heap.size w6 wl) (fun iv _ => X.length - (intOf iv).toNat)
            case atStart => exact ⟨0, by omega, rfl, HBT7.out, HA7.out⟩
            case round =>
              obtain ⟨i, hi, rfl, hbt, hbi⟩ := hrel
              by_cases hlt : i < X.length
              · have hlc : ((i : Int) < (X.length : Int)) = True := eq_true (by omega)
                obtain ⟨bA, oA, hixA, hcA⟩ := ((HA4.out.below0 HB46.out).below0 hbi).at (P := Tryz.prog) Tryz.underlying28 (by kernel_rfl) i (by simp; omega)
                simp only [List.getElem_map, List.getElem_range] at hcA
                obtain ⟨bX, oX, hixX, hcX⟩ := (HA6.out.below0 hbi).at (P := Tryz.prog) Tryz.underlying28 (by kernel_rfl) i (by simpa using hlt)
                simp only [List.getElem_map] at hcX
                have HTK : Hid (∀ x, X[i] = x → X.take (i + 1) = X.take i ++ [x]) := Lib.hid (fun x hx => by rw [List.take_succ_eq_append_getElem hlt, hx])
                have hxn := HXLT.out _ (List.getElem_mem hlt)
                generalize X[i] = x at *
                have HTK2 := Lib.hid (HTK.out x rfl)
                have d1 : ((x : Int) < 0) = False := eq_false (by omega)
                have d2 : ((R.length : Int) ≤ (x : Int)) = False := eq_false (by omega)
                have hixb := idx_at (P := Tryz.prog) (T := 34) (E := 4) Tryz.underlying34 (by kernel_rfl) w6.heap.size R.length R.length x hxn
                have hcb := hbt.at (k := x) (by rw [bitsOf_len]; exact hxn)
                have hfz : ∀ j, wr.frozen? ⟨w6.heap.size, j, none⟩ = false := hbt.frozen
                have HBP := Lib.hid (Bits.put hbt x true)
                rw [bitsOf_set, ← HTK2.out] at HBP
                have HBI := Lib.hid hbi
                clear HTK hbt hbi
                go_wp2
                go_roundw
                case rel => exact ⟨i + 1, by omega, by go_num, HBP.out, HBI.out.setCell (p := ⟨w6.heap.size, x, none⟩) (Nat.le_refl _) _⟩
                case measure => simp [intOf]; omega
              · obtain rfl : i = X.length := by omega
                have hlc : ((X.length : Int) < (X.length : Int)) = False := eq_false (by omega)
                have hbt2 := hbt
                rw [List.take_length] at hbt2
                obtain ⟨W8, rfl⟩ : ∃ W, W = wr := ⟨_, rfl⟩
                have HBT : Hid (∀ wl, Below W8.heap.size W8 wl → ∀ j, j < R.length → wl.cell? ⟨w6.heap.size, j, none⟩ = some (.bool (X.contains j))) := Lib.hid (fun wl hb j hj => by
                  have h := Bits.at (VRow.below0 hbt2 hb) (k := j) (by rw [bitsOf_len]; exact hj)
                  rw [bitsOf_at] at h
                  exact h)
                have HB8 := Lib.hid (HB6.out.trans (hbi.mono HB6.out.size))
                have HRO8 := Lib.hid ((HRO4.out.below0 HB46.out).below0 hbi)
                have KR8 : Hid (∀ wl, Below W8.heap.size W8 wl → ∀ i k, i < R.length → k < R.length → Calls Tryz.prog 11 #[.slice a R.length c, .int .i64 (i : Int), .int .i64 (k : Int)] wl fun e w' => e = .returned (.bool (needB (R.map Prod.fst) i k)) ∧ Below wl.heap.size wl w') := Lib.hid (fun wl hb i k hi hk => by
                  have hb2 := HB8.out.trans (hb.mono HB8.out.size)
                  exact needs_any R _ i k wl (HRK.out wl hb2) (HI.out wl hb2) hi hk)
                clear hbt hbi hbt2
                go_wp2_with fail
                go_loopw [13] (fun iv wl => ∃ i : Nat, i ≤ R.length ∧ iv = .int .i64 i ∧ Below W8.heap.size W8 wl) (fun iv _ => R.length - (intOf iv).toNat)
                case atStart => exact ⟨0, by omega, rfl, Below.refl _ _⟩
                case round =>
                  obtain ⟨i, hi, rfl, hbi⟩ := hrel
                  have HBI := Lib.hid hbi
                  by_cases hlt : i < R.length
                  · have hlc : ((i : Int) < (R.length : Int)) = True := eq_true (by omega)
                    clear hbi
                    go_wp2_with fail
                    go_loopw [14] (fun kv wl => ∃ k : Nat, k ≤ R.length ∧ kv = .int .i64 k ∧ Below W8.heap.size W8 wl) (fun kv _ => R.length - (intOf kv).toNat)
                    case atStart => exact ⟨0, by omega, rfl, HBI.out⟩
                    case round =>
                      obtain ⟨k, hk, rfl, hbk⟩ := hrel
                      have HBK := Lib.hid hbk
                      by_cases hlk : k < R.length
                      · have hlc2 : ((k : Int) < (R.length : Int)) = True := eq_true (by omega)
                        have hci := HBT.out _ hbk i hlt
                        have hixi := idx_at (P := Tryz.prog) (T := 34) (E := 4) Tryz.underlying34 (by kernel_rfl) w6.heap.size R.length R.length i hlt
                        cases hii : X.contains i with
                        | false =>
                          rw [hii] at hci
                          clear hbk
                          go_wp2
                          go_roundw
                          case rel => exact ⟨k + 1, by omega, by go_num, HBK.out⟩
                          case measure => simp [intOf]; omega
                        | true =>
                          rw [hii] at hci
                          have KR := Lib.hid (KR8.out _ hbk i k hlt hlk)
                          have HZK := Lib.hid hbk.size
                          cases hnb : needB (R.map Prod.fst) i k with
                          | false =>
                            rw [hnb] at KR
                            clear hbk
                            go_wp2_with fail
                            refine KR.out.mono ?_
                            rintro e w9 ⟨rfl, hb9⟩
                            have HB9 := Lib.hid (HBK.out.trans (hb9.mono HZK.out))
                            clear hb9
                            go_wp2
                            go_roundw
                            case rel => exact ⟨k + 1, by omega, by go_num, HB9.out⟩
                            case measure => simp [intOf]; omega
                          | true =>
                            rw [hnb] at KR
                            have hkk : X.contains k = true := List.contains_iff_mem.2 (HX.out.shut i k (by rw [HML.out]; exact hlk) (List.contains_iff_mem.1 hii) hnb)
                            have hixk := idx_at (P := Tryz.prog) (T := 34) (E := 4) Tryz.underlying34 (by kernel_rfl) w6.heap.size R.length R.length k hlk
                            clear hbk
                            go_wp2_with fail
                            refine KR.out.mono ?_
                            rintro e w9 ⟨rfl, hb9⟩
                            have HB9 := Lib.hid (HBK.out.trans (hb9.mono HZK.out))
                            have hck := HBT.out _ HB9.out k hlk
                            rw [hkk] at hck
                            clear hb9
                            go_wp2
                            go_roundw
                            case rel => exact ⟨k + 1, by omega, by go_num, HB9.out⟩
                            case measure => simp [intOf]; omega
                      · obtain rfl : k = R.length := by omega
                        have hlc2 : ((R.length : Int) < (R.length : Int)) = False := eq_false (by omega)
                        clear hbk
                        go_wp2
                        go_roundw
                        case rel => exact ⟨i + 1, by omega, by go_num, HBK.out⟩
                        case measure => simp [intOf]; omega
                  · obtain rfl : i = R.length := by omega
                    have hlc : ((R.length : Int) < (R.length : Int)) = False := eq_false (by omega)
                    obtain ⟨W9, rfl⟩ : ∃ W, W = wr := ⟨_, rfl⟩
                    have HB9 := Lib.hid (HB8.out.trans (hbi.mono HB8.out.size))
                    have KO9 := Lib.hid (KO.out W9 HB9.out HS.out (by omega))
                    have HZ9 := Lib.hid hbi.size
                    clear hbi
                    go_wp2_with fail
                    refine KO9.out.mono ?_
                    rintro e w10 ⟨v10, R10, rfl, he10, ho10, hb10⟩
                    have HE10 := Lib.hid he10
                    have hl10 : R10.length = R.length := by have := congrArg List.length he10; simpa using this
                    have HB10 := Lib.hid (HBI.out.trans (hb10.mono HZ9.out))
                    have KV10 := Lib.hid (KV.out w10 (HB8.out.trans (HB10.out.mono HB8.out.size)) R10 v10 ⟨_, ho10⟩ (short_other HS.out he10) (by omega))
                    have HZ10 := Lib.hid HB10.out.size
                    clear he10 ho10 hb10
                    go_wp2_with fail
                    refine KV10.out.mono ?_
                    rintro e w11 ⟨ha, hb11⟩
                    rw [HE10.out] at ha
                    rcases ha with ⟨-, u, rfl, how⟩ | ⟨T, x, -, hbad⟩
                    case inr => exact absurd HRS.out hbad.wrong
                    case inl =>
                      have hll : (leavesB (R.map Prod.fst)).length ≤ 1000000 := by
                        have := leaves_len (l := R.map Prod.fst) (fun r hr => by
                          obtain ⟨x, hx, rfl⟩ := List.mem_map.1 hr
                          have := (HS.out x hx).2.2.2.1
                          omega)
                        rw [HML.out] at this
                        omega
                      have HLO : Hid (∀ i (hi : i < (leavesB (R.map Prod.fst)).length), (leavesB (R.map Prod.fst))[i] ∉ OUTS) := Lib.hid (fun i hi => by
                        have := leaves_out (List.getElem_mem hi)
                        rw [HOUTS.out] at this
                        exact this)
                      have HLA : Hid (∀ i (hi : i + 1 < (leavesB (R.map Prod.fst)).length), ¬ (leavesB (R.map Prod.fst))[i + 1] ≤ (leavesB (R.map Prod.fst))[i]) := Lib.hid (fun i hi => leaves_at hi)
                      obtain ⟨LV, how2, hlv, HLO2, HLA2⟩ : ∃ LV : List (List UInt8), w11.ownsRow w10.heap.size 9 1 u LV.length (LV.map str) ∧ LV.length ≤ 1000000 ∧ Hid (∀ i (hi : i < LV.length), LV[i] ∉ OUTS) ∧ Hid (∀ i (hi : i + 1 < LV.length), ¬ LV[i + 1] ≤ LV[i]) := ⟨_, how, hll, HLO, HLA⟩
                      clear how hll HLO HLA
                      have HL11 := Lib.hid (ownsRow_reads how2)
                      have HB11 := Lib.hid (HB10.out.trans (hb11.mono HZ10.out))
                      obtain ⟨au, cu, hu, -, -⟩ := id HL11.out
                      rw [List.length_map] at hu
                      subst hu
                      have KX : Hid (∀ wl, Below w11.heap.size w11 wl → ∀ s, s ∉ OUTS → ∀ n, Calls Tryz.prog 13 #[u6, str s] (wl.drewN n) fun e w' => e = .returned (.int .i64 (-1)) ∧ w' = wl.drewN n) := Lib.hid (fun wl hb s hs n => by
                        have hr := ((HRO8.out.below0 HB11.out).below0 hb).below0 (below_drewN (Below.refl _ _) n)
                        have e : idxL s OUTS = -1 := idxL_miss (fun j hj h => hs (h ▸ List.getElem_mem hj))
                        exact (rindex_any s OUTS u6 (wl.drewN n) hr).mono fun _ _ ⟨h1, h2⟩ => ⟨by rw [h1, e], h2.symm⟩)
                      have HBI1 := Lib.hid (HBT.out w11 HB11.out)
                      have HZ11 := Lib.hid HB11.out.size
                      have hmo : X.contains o = true := List.contains_iff_mem.2 HX.out.mem
                      have hixo := idx_at (P := Tryz.prog) (T := 34) (E := 4) Tryz.underlying34 (by kernel_rfl) w6.heap.size R.length R.length o ho
                      have HBF := Lib.hid (HB8.out.trans (HB11.out.mono HB8.out.size))
                      clear how2 hb11
                      go_wp2_with fail
                      go_loopw [16] (fun iv wl => ∃ i : Nat, i ≤ LV.length ∧ iv = .int .i64 i ∧ Below w11.heap.size w11 wl) (fun iv _ => LV.length - (intOf iv).toNat)
                      case atStart => exact ⟨0, by omega, rfl, Below.refl _ _⟩
                      case round =>
                        obtain ⟨i, hi, rfl, hbi⟩ := hrel
                        have HBI := Lib.hid hbi
                        by_cases hlt : i < LV.length
                        · have hlc : ((i : Int) < (LV.length : Int)) = True := eq_true (by omega)
                          have KX1 := Lib.hid (KX.out _ hbi _ (HLO2.out i hlt))
                          have hrd := HL11.out.below0 hbi
                          cases i with
                          | zero =>
                            obtain ⟨b1, o1, hix1, hc1⟩ := hrd.at (P := Tryz.prog) Tryz.underlying25 (by kernel_rfl) 0 (by simpa using hlt)
                            simp only [List.getElem_map] at hc1
                            have hix10 : ∀ w', (Instr.indexAt 25 (.slice au LV.length cu) (.int .i64 0)).run Tryz.prog w' = .ok (.pointer (some ⟨b1, o1, none⟩)) w' := hix1
                            generalize LV[0] = s1 at *
                            clear hbi hrd
                            go_wp2_with fail
                            go_quiet ((go_at_call 13; exact Calls.quiet_of_same (KX1.out _)))
                            go_wp2
                            go_roundw
                            case rel => exact ⟨0 + 1, by omega, by first | rfl | go_num, by first | exact HBI.out | exact HBI.out.drew | exact below_drewN HBI.out _⟩
                            case measure => simp [intOf] <;> omega
                          | succ i =>
                            obtain ⟨b1, o1, hix1, hc1⟩ := hrd.at (P := Tryz.prog) Tryz.underlying25 (by kernel_rfl) (i + 1) (by simpa using hlt)
                            obtain ⟨b2, o2, hix2, hc2⟩ := hrd.at (P := Tryz.prog) Tryz.underlying25 (by kernel_rfl) i (by simp; omega)
                            simp only [List.getElem_map] at hc1 hc2
                            have hix1' : ∀ w', (Instr.indexAt 25 (.slice au LV.length cu) (.int .i64 ((i : Int) + 1))).run Tryz.prog w' = .ok (.pointer (some ⟨b1, o1, none⟩)) w' := hix1
                            have hnle := HLA2.out i hlt
                            have hle1 : Op.bytesLess LV[i + 1] LV[i] = false := by
                              rw [bytesLess_eq, decide_eq_false_iff_not]
                              exact fun h => hnle (List.le_of_lt h)
                            have hle2 : (LV[i + 1] == LV[i]) = false := by
                              rw [beq_eq_false_iff_ne]
                              exact fun h => hnle (h ▸ List.le_refl _)
                            have hsub : (i : Int) + 1 - 1 = (i : Int) := by omega
                            have hw1 : IntKind.i64.wrap ((i : Int) + 1 - 1) = (i : Int) := by rw [hsub]; exact IntWalk.i64_in _ (by omega)
                            have hw2 : IntKind.i64.wrap (i : Int) = (i : Int) := IntWalk.i64_in _ (by omega)
                            have hpos : ((0 : Int) < (i : Int) + 1) = True := by simp <;> omega
                            obtain ⟨s1, hs1⟩ : ∃ x, LV[i + 1] = x := ⟨_, rfl⟩
                            obtain ⟨s2, hs2⟩ : ∃ x, LV[i] = x := ⟨_, rfl⟩
                            rw [hs1] at hc1 hle1 hle2 KX1
                            rw [hs2] at hc2 hle1 hle2
                            clear hnle hbi hrd hs1 hs2
                            go_wp2_with fail
                            go_quiet ((go_at_call 13; exact Calls.quiet_of_same (KX1.out _)))
                            go_wp2
                            go_roundw
                            case rel => exact ⟨i + 1 + 1, by omega, by first | rfl | go_num, by first | exact HBI.out | exact HBI.out.drew | exact below_drewN HBI.out _⟩
                            case measure => simp [intOf] <;> omega
                        · obtain rfl : i = LV.length := by omega
                          have hlc : ((LV.length : Int) < (LV.length : Int)) = False := eq_false (by omega)
                          have hco := HBT.out _ (HB11.out.trans (hbi.mono HZ11.out)) o ho
                          rw [hmo] at hco
                          have HBL := Lib.hid (HBF.out.trans (hbi.mono HBF.out.size))
                          clear hbi
                          go_wp2
                          go_ret
                          exact ⟨rfl, HBL.out⟩

set_option maxRecDepth 100000 in
theorem graphWhole_all (R : List RV) (v : Value) (one : Int) (w : World) (S : Nat → Addr) (hr : ReadsK 4 w v (R.map rvRow)) (hi : ∀ x ∈ R, Reads w x.2 (x.1.ins.map str) ∧ NilOr x.2) (hm : Ml w) (hE : KErr w S) (hL : LErr w S) (hN : NErr w) (ht : Tab w) :
    Calls Tryz.prog 3 #[v, .int .i64 one] w fun e w' => e = .returned (.bool true) ∧ Below w.heap.size w w' := by
  by_cases h0 : 0 ≤ one ∧ one < R.length
  · obtain ⟨o, rfl⟩ := Int.eq_ofNat_of_zero_le h0.1
    exact graphWhole_main R v o (by omega) w S hr hi hm hE hL hN ht
  · have hrow : ∀ r ∈ R.map rvRow, r ≠ [] := fun r hr => by obtain ⟨x, -, rfl⟩ := List.mem_map.1 hr; simp [rvRow]
    obtain ⟨a, c, hv, hle, -⟩ := id hr
    rw [List.length_map] at hv hle
    subst hv
    have KA := Lib.hid (ahead_any w S hm hE hN ht)
    have KL := Lib.hid (fun w1 (hb : Below w.heap.size w w1) => longRules_any R (.slice a R.length c) 20 w1 (readsK_below0 hr hrow hb) (fun x hx => (hi x hx).1.below0 hb) (by decide))
    clear hr hi hm hE hL hN ht hrow
    have hcs : (one < 0) = True ∨ ((one < 0) = False ∧ ((R.length : Int) ≤ one) = True) := by
      by_cases h : one < 0
      · exact Or.inl (eq_true h)
      · exact Or.inr ⟨eq_false h, eq_true (by omega)⟩
    clear h0
    rcases hcs with d1 | ⟨d1, d2⟩
    all_goals
      go_enter Tryz.func3, Tryz.ntmps3
      go_wp2_with fail
      refine KA.out.mono ?_
      rintro e w1 ⟨rfl, hb1⟩
      have HB1 := Lib.hid hb1
      clear hb1
      go_wp2_with fail
      refine (KL.out w1 HB1.out).mono ?_
      rintro e w2 ⟨rfl, rfl | ⟨rfl, -, -⟩⟩
      · go_wp2
        go_ret
        exact ⟨rfl, HB1.out⟩
      · go_wp2
        go_ret
        exact ⟨rfl, HB1.out⟩
end Go.Proofs.YtmlmogllgnfklaaGreatDoor
