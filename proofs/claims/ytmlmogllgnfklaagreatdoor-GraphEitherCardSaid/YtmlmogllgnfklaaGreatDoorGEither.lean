/-
  The walk of the law GraphEither, at any rules.
-/
import Derived.Test.YtmlmogllgnfklaaGreatDoorAhead
import Derived.Test.YtmlmogllgnfklaaGreatDoorGCycle
namespace Go.Proofs.YtmlmogllgnfklaaGreatDoor
open Go Go.RowKit Go.Kf Go.Sort Go.Proofs

theorem own_rulesE {w : World} {v : Value} {R : List RV} (h : ∃ B, OwnAt B w v R) : RulesAt w v R ∧ Roomy v := by
  obtain ⟨B, h⟩ := h
  exact h.rules

set_option maxRecDepth 100000 in
set_option maxHeartbeats 8000000 in
theorem graphEither_all (R : List RV) (v : Value) (w : World) (S : Nat → Addr) (hr : ReadsK 4 w v (R.map rvRow)) (hi : ∀ x ∈ R, Reads w x.2 (x.1.ins.map str) ∧ NilOr x.2) (hm : Ml w) (hE : KErr w S) (hN : NErr w) (ht : Tab w) :
    Calls Tryz.prog 4 #[v] w fun e w' => e = .returned (.bool true) ∧ Below w.heap.size w w' := by
  have hrow : ∀ r ∈ R.map rvRow, r ≠ [] := fun r hr => by obtain ⟨x, -, rfl⟩ := List.mem_map.1 hr; simp [rvRow]
  obtain ⟨a, c, hv, hle, -⟩ := id hr
  rw [List.length_map] at hv hle
  subst hv
  have KA := Lib.hid (ahead_any w S hm hE hN ht)
  have KL := Lib.hid (fun w1 (hb : Below w.heap.size w w1) => longRules_any R (.slice a R.length c) 30 w1 (readsK_below0 hr hrow hb) (fun x hx => (hi x hx).1.below0 hb) (by decide))
  have KO := Lib.hid (fun w1 (hb : Below w.heap.size w w1) (hs : ∀ x ∈ R, ShortR x.1) (hn : R.length ≤ 1000) => ownRules_any R (.slice a R.length c) w1 (readsK_below0 hr hrow hb) (fun x hx => ⟨(hi x hx).1.below0 hb, (hi x hx).2, by have := (hs x hx).2.2.2.1; omega⟩) hn)
  have HRK := Lib.hid (fun w1 (hb : Below w.heap.size w w1) => readsK_below0 hr hrow hb)
  have HI := Lib.hid (fun w1 (hb : Below w.heap.size w w1) x (hx : x ∈ R) => (hi x hx).1.below0 hb)
  have KC := Lib.hid (fun w1 (hb : Below w.heap.size w w1) (R' : List RV) (v' : Value) (h : ∃ B, OwnAt B w1 v' R') (hs : ∀ x ∈ R', ShortR x.1) (h2 : R'.length ≤ 1000) =>
    gcycle_any R' v' w1 S (own_rulesE h).1 (own_rulesE h).2 (hm.below hb (Nat.le_refl _)) (hE.below hb (Nat.le_refl _)) (hN.below hb (Nat.le_refl _)) (tab_below ht hb (Nat.le_refl _)) (short_bounds hs) (by omega))
  have KV := Lib.hid (fun w1 (hb : Below w.heap.size w w1) (R' : List RV) (v' : Value) (h : ∃ B, OwnAt B w1 v' R') (hs : ∀ x ∈ R', ShortR x.1) (h2 : R'.length ≤ 1000) =>
    gorder_any R' v' w1 S (own_rulesE h).1 (own_rulesE h).2 (hm.below hb (Nat.le_refl _)) (hE.below hb (Nat.le_refl _)) (hN.below hb (Nat.le_refl _)) (tab_below ht hb (Nat.le_refl _)) (short_bounds hs) (by omega))
  have hml : (R.map Prod.fst).length = R.length := List.length_map _
  have HML := Lib.hid hml
  clear hr hi hm hE hN ht hrow hml
  go_enter Tryz.func4, Tryz.ntmps4
  go_wp2_with fail
  refine KA.out.mono ?_
  rintro e w1 ⟨rfl, hb1⟩
  have HB1 := Lib.hid hb1
  clear hb1
  go_wp2_with fail
  refine (KL.out w1 HB1.out).mono ?_
  rintro e w2 ⟨rfl, rfl | ⟨rfl, hn, hs⟩⟩
  · go_wp2
    go_ret
    exact ⟨rfl, HB1.out⟩
  · have HS := Lib.hid hs
    have hn41 : R.length ≤ 41 := by omega
    have KO1 := Lib.hid (KO.out w1 HB1.out hs (by omega))
    clear hn hs
    go_wp2_with fail
    refine KO1.out.mono ?_
    rintro e w3 ⟨v3, R3, rfl, he3, ho3, hb3⟩
    have HE3 := Lib.hid he3
    have HB3 := Lib.hid (HB1.out.trans (hb3.mono HB1.out.size))
    have hl3 : R3.length = R.length := by have := congrArg List.length he3; simpa using this
    have KC3 := Lib.hid (KC.out w3 HB3.out R3 v3 ⟨_, ho3⟩ (short_other HS.out he3) (by omega))
    clear he3 ho3 hb3
    go_wp2_with fail
    refine KC3.out.mono ?_
    rintro e w4 ⟨ha, hb4⟩
    rw [HE3.out] at ha
    have HB4 := Lib.hid (HB3.out.trans (hb4.mono HB3.out.size))
    clear hb4
    rcases ha with ⟨hrs, cyc, u4, hcy, rfl, how⟩ | ⟨T, x, rfl, hbad⟩
    case inr =>
      clear hbad
      go_wp2
      go_ret
      exact ⟨rfl, HB4.out⟩
    case inl =>
      have HRS := Lib.hid hrs
      have HCY := Lib.hid hcy
      have HC4 := Lib.hid (reads_ints how)
      obtain ⟨a4, c4, hu4, -, -⟩ := id HC4.out
      rw [List.length_map] at hu4
      subst hu4
      have KO4 := Lib.hid (KO.out w4 HB4.out HS.out (by omega))
      clear hrs hcy how
      go_wp2_with fail
      refine KO4.out.mono ?_
      rintro e w5 ⟨v5, R5, rfl, he5, ho5, hb5⟩
      have HE5 := Lib.hid he5
      have HB45 := Lib.hid hb5
      have HB5 := Lib.hid (HB4.out.trans (hb5.mono HB4.out.size))
      have hl5 : R5.length = R.length := by have := congrArg List.length he5; simpa using this
      have KV5 := Lib.hid (KV.out w5 HB5.out R5 v5 ⟨_, ho5⟩ (short_other HS.out he5) (by omega))
      clear he5 ho5 hb5
      go_wp2_with fail
      refine KV5.out.mono ?_
      rintro e w6 ⟨ha, hb6⟩
      rw [HE5.out] at ha
      have HB46 := Lib.hid (HB45.out.trans (hb6.mono HB45.out.size))
      have HB6 := Lib.hid (HB4.out.trans (HB46.out.mono HB4.out.size))
      clear hb6
      have KR6 : Hid (∀ wl, Below w6.heap.size w6 wl → ∀ i k, i < R.length → k < R.length → Calls Tryz.prog 11 #[.slice a R.length c, .int .i64 (i : Int), .int .i64 (k : Int)] wl fun e w' => e = .returned (.bool (needB (R.map Prod.fst) i k)) ∧ Below wl.heap.size wl w') := Lib.hid (fun wl hb i k hi hk => by
        have hb2 := HB6.out.trans (hb.mono HB6.out.size)
        exact needs_any R _ i k wl (HRK.out wl hb2) (HI.out wl hb2) hi hk)
      have HC6 : Hid (∀ wl, Below w6.heap.size w6 wl → Reads wl (.slice a4 cyc.length c4) (cyc.map intE)) := Lib.hid (fun wl hb => HC4.out.below0 (HB46.out.trans (hb.mono HB46.out.size)))
      rcases ha with ⟨-, ⟨o, u, ho, rfl, how⟩ | ⟨ho, rfl⟩⟩ | ⟨T, x, -, hbad⟩
      case inr => exact absurd HRS.out hbad.wrong
      case inl.inr =>
        have hpos : 0 < cyc.length := cyc_some HCY.out ho
        clear ho
        have hls : cyc.length ≤ 1000 := by have := cyc_len HCY.out; rw [HML.out] at this; omega
        go_wp2_with fail
        go_loopw [7] (fun iv wl => ∃ i : Nat, i ≤ cyc.length ∧ iv = .int .i64 i ∧ Below w6.heap.size w6 wl) (fun iv _ => cyc.length - (intOf iv).toNat)
        case atStart => exact ⟨0, by omega, rfl, Below.refl _ _⟩
        case round =>
          obtain ⟨i, hi, rfl, hbi⟩ := hrel
          have HBI := Lib.hid hbi
          by_cases hlt : i < cyc.length
          · have hlc : ((i : Int) < (cyc.length : Int)) = True := eq_true (by omega)
            obtain ⟨hm, hx1, hx2, hnd⟩ := cyc_ok HCY.out hlt
            rw [HML.out] at hx1 hx2
            obtain ⟨b1, o1, hix1, hc1⟩ := (HC6.out _ hbi).at (P := Tryz.prog) Tryz.underlying28 (by kernel_rfl) i (by simpa using hlt)
            obtain ⟨b2, o2, hix2, hc2⟩ := (HC6.out _ hbi).at (P := Tryz.prog) Tryz.underlying28 (by kernel_rfl) ((i + 1) % cyc.length) (by simpa using hm)
            simp only [List.getElem_map] at hc1 hc2
            have KR := Lib.hid (KR6.out _ hbi _ _ hx1 hx2)
            rw [hnd] at KR
            have HZ := Lib.hid hbi.size
            generalize cyc[i] = x1 at *
            generalize cyc[(i + 1) % cyc.length] = x2 at *
            have e1 : ((x1 : Int) < 0) = False := eq_false (by omega)
            have e2 : ((R.length : Int) ≤ (x1 : Int)) = False := eq_false (by omega)
            have e3 : ((x2 : Int) < 0) = False := eq_false (by omega)
            have e4 : ((R.length : Int) ≤ (x2 : Int)) = False := eq_false (by omega)
            have hmo : ((i : Int) + 1) % (cyc.length : Int) = (((i + 1) % cyc.length : Nat) : Int) := (Int.natCast_emod (i + 1) cyc.length).symm
            have hix2' : ∀ w', (Instr.indexAt 28 (.slice a4 cyc.length c4) (.int .i64 (((i : Int) + 1) % (cyc.length : Int)))).run Tryz.prog w' = .ok (.pointer (some ⟨b2, o2, none⟩)) w' := fun w' => by rw [hmo]; exact hix2 w'
            clear hmo
            clear hbi
            go_wp2_with fail
            refine KR.out.mono ?_
            rintro e w7 ⟨rfl, hb7⟩
            have HB7 := Lib.hid (HBI.out.trans (hb7.mono HZ.out))
            clear hb7
            go_wp2
            go_roundw
            case rel => exact ⟨i + 1, by omega, by go_num, HB7.out⟩
            case measure => simp [intOf]; omega
          · obtain rfl : i = cyc.length := by omega
            have hlc : ((cyc.length : Int) < (cyc.length : Int)) = False := eq_false (by omega)
            have hpc : ((0 : Int) < (cyc.length : Int)) = True := eq_true (by omega)
            have HBF := Lib.hid (HB6.out.trans (hbi.mono HB6.out.size))
            clear hbi
            go_wp2
            go_ret
            exact ⟨rfl, HBF.out⟩
      case inl.inl =>
        have hcn := cyc_none HCY.out ho
        obtain ⟨hou, hol⟩ := order_some ho
        rw [HML.out] at hol
        have HOL := Lib.hid hol
        have HOU := Lib.hid hou
        have HOR := Lib.hid (reads_ints how)
        obtain ⟨a6, c6, hu6, -, -⟩ := id HOR.out
        rw [List.length_map] at hu6
        subst hu6
        have hmk := make_bools R.length (by omega) w6
        obtain ⟨W7, hW7⟩ : ∃ W, w6.alloc (.cells ((List.replicate R.length false).map Value.bool).toArray 4) = W := ⟨_, rfl⟩
        have hA7 : Below w6.heap.size w6 W7 := hW7 ▸ (Below.refl _ w6).alloc (Nat.le_refl _) _
        have hb7 : Bits W7 w6.heap.size (bitsOf R.length []) := by
          rw [bitsOf_nil, ← hW7]
          exact heap_alloc_here w6 _
        rw [hW7] at hmk
        have HA7 := Lib.hid hA7
        have HBT7 := Lib.hid hb7
        have HXLT : Hid (∀ k ∈ o, k < R.length) := Lib.hid (fun k hk => by have := (hou.lt k hk).1; rw [HML.out] at this; exact this)
        clear hA7 hb7 hW7 ho hou how hol
        rw [hcn]
        go_wp2_with fail
        go_loopw [10] (fun iv wl => ∃ i : Nat, i ≤ o.length ∧ iv = .int .i64 i ∧ Bits wl w6.heap.size (bitsOf R.length (o.take i)) ∧ Below w6.heap.size w6 wl) (fun iv _ => o.length - (intOf iv).toNat)
        case atStart => exact ⟨0, by omega, rfl, HBT7.out, HA7.out⟩
        case round =>
          obtain ⟨i, hi, rfl, hbt, hbi⟩ := hrel
          have hio : o.length ≤ 1000 := by have := HOL.out; omega
          by_cases hlt : i < o.length
          · have hlc : ((i : Int) < (o.length : Int)) = True := eq_true (by omega)
            obtain ⟨W8, rfl⟩ : ∃ W, W = wr := ⟨_, rfl⟩
            obtain ⟨b1, o1, hix1, hc1⟩ := (HOR.out.below0 hbi).at (P := Tryz.prog) Tryz.underlying28 (by kernel_rfl) i (by simpa using hlt)
            simp only [List.getElem_map] at hc1
            have hxn := HXLT.out _ (List.getElem_mem hlt)
            have hns : (o.take i).contains o[i] = false := by
              refine Bool.eq_false_iff.2 (fun h => ?_)
              obtain ⟨j, hj, e⟩ := List.mem_iff_getElem.1 (List.contains_iff_mem.1 h)
              rw [List.length_take] at hj
              rw [List.getElem_take] at e
              have := nodup_at HOU.out.nd e
              omega
            have HBK : Hid (∀ x, o[i] = x → ∀ k, k < R.length → needB (R.map Prod.fst) x k = true → (o.take i).contains k = true) := Lib.hid (fun x hx k hk hn => by
              rw [List.contains_iff_mem]
              exact HOU.out.back i hlt k (hx ▸ need_edges (by rw [HML.out]; exact hk) hn))
            have HTK : Hid (∀ x, o[i] = x → o.take (i + 1) = o.take i ++ [x]) := Lib.hid (fun x hx => by rw [List.take_succ_eq_append_getElem hlt, hx])
            have HRX : Hid (∀ x, o[i] = x → ∀ wl, Below W8.heap.size W8 wl → ∃ b o', (∀ w', (Instr.indexAt 28 (.slice a6 o.length c6) (.int .i64 (i : Int))).run Tryz.prog w' = .ok (.pointer (some ⟨b, o', none⟩)) w') ∧ wl.cell? ⟨b, o', none⟩ = some (intE x)) := Lib.hid (fun x hx wl hb => by
              obtain ⟨b, o', h1, h2⟩ := ((HOR.out.below0 hbi).below0 hb).at (P := Tryz.prog) Tryz.underlying28 (by kernel_rfl) i (by simpa using hlt)
              simp only [List.getElem_map] at h2
              exact ⟨b, o', h1, by rw [h2, hx]⟩)
            have hcs := Bits.at hbt (k := o[i]) (by rw [bitsOf_len]; exact hxn)
            rw [bitsOf_at, hns] at hcs
            have HXB : Hid (∀ wl, Below W8.heap.size W8 wl → Bits wl w6.heap.size (bitsOf R.length (o.take i))) := Lib.hid (fun wl hb => VRow.below0 hbt hb)
            generalize o[i] = x at *
            have HBK2 := Lib.hid (HBK.out x rfl)
            have HTK2 := Lib.hid (HTK.out x rfl)
            have HRX2 := Lib.hid (HRX.out x rfl)
            have hixb := idx_at (P := Tryz.prog) (T := 34) (E := 4) Tryz.underlying34 (by kernel_rfl) w6.heap.size R.length R.length x hxn
            have e1 : ((x : Int) < 0) = False := eq_false (by omega)
            have e2 : ((R.length : Int) ≤ (x : Int)) = False := eq_false (by omega)
            have HBI := Lib.hid hbi
            clear hbt hbi hns HBK HTK HRX
            go_wp2_with fail
            clear hix1 hc1
            go_loopw [11] (fun kv wl => ∃ k : Nat, k ≤ R.length ∧ kv = .int .i64 k ∧ Below W8.heap.size W8 wl) (fun kv _ => R.length - (intOf kv).toNat)
            case atStart => exact ⟨0, by omega, rfl, Below.refl _ _⟩
            case round =>
              obtain ⟨k, hk, rfl, hbk⟩ := hrel
              have HBKK := Lib.hid hbk
              obtain ⟨b3, o3, hix3, hc3⟩ := HRX2.out _ hbk
              by_cases hlk : k < R.length
              · have hlc2 : ((k : Int) < (R.length : Int)) = True := eq_true (by omega)
                have K := Lib.hid (KR6.out _ (HBI.out.trans (hbk.mono HBI.out.size)) x k hxn hlk)
                have HZ := Lib.hid hbk.size
                cases hnb : needB (R.map Prod.fst) x k with
                | false =>
                  rw [hnb] at K
                  clear hbk hnb
                  go_wp2_with fail
                  refine K.out.mono ?_
                  rintro e w9 ⟨rfl, hb9⟩
                  have HB9 := Lib.hid (HBKK.out.trans (hb9.mono HZ.out))
                  clear hb9
                  go_wp2
                  go_roundw
                  case rel => exact ⟨k + 1, by omega, by go_num, HB9.out⟩
                  case measure => simp [intOf]; omega
                | true =>
                  rw [hnb] at K
                  have hks := HBK2.out k hlk hnb
                  have hixk := idx_at (P := Tryz.prog) (T := 34) (E := 4) Tryz.underlying34 (by kernel_rfl) w6.heap.size R.length R.length k hlk
                  clear hbk hnb
                  go_wp2_with fail
                  refine K.out.mono ?_
                  rintro e w9 ⟨rfl, hb9⟩
                  have HB9 := Lib.hid (HBKK.out.trans (hb9.mono HZ.out))
                  have hck := Bits.at (HXB.out _ HB9.out) (k := k) (by rw [bitsOf_len]; exact hlk)
                  rw [bitsOf_at, hks] at hck
                  clear hb9
                  go_wp2
                  go_roundw
                  case rel => exact ⟨k + 1, by omega, by go_num, HB9.out⟩
                  case measure => simp [intOf]; omega
              · obtain rfl : k = R.length := by omega
                have hlc2 : ((R.length : Int) < (R.length : Int)) = False := eq_false (by omega)
                have hbx := HXB.out _ hbk
                have hfz : ∀ j, wr.frozen? ⟨w6.heap.size, j, none⟩ = false := VRow.frozen hbx
                have hcx := Bits.at hbx (k := x) (by rw [bitsOf_len]; exact hxn)
                have hbp := Bits.put hbx x true
                rw [bitsOf_set, ← HTK2.out] at hbp
                have HBP := Lib.hid hbp
                have HBN := Lib.hid ((HBI.out.trans (hbk.mono HBI.out.size)).setCell (p := ⟨w6.heap.size, x, none⟩) (Nat.le_refl _) (.bool true))
                clear hbk hbx hbp
                go_wp2
                go_roundw
                case rel => exact ⟨i + 1, by omega, by go_num, HBP.out, HBN.out⟩
                case measure => simp [intOf]; omega
          · obtain rfl : i = o.length := by omega
            have hlc : ((o.length : Int) < (o.length : Int)) = False := eq_false (by omega)
            have hoe : ((o.length : Int) == (R.length : Int)) = true := by rw [HOL.out]; simp
            have HBF := Lib.hid (HB6.out.trans (hbi.mono HB6.out.size))
            clear hbt hbi
            go_wp2
            go_ret
            exact ⟨by simp, HBF.out⟩
end Go.Proofs.YtmlmogllgnfklaaGreatDoor
