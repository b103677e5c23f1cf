/-
  The walk of the law PickLevels.
-/
import Derived.Test.YtgoeoekdlcbmpaaGreatDoorBdK
import Derived.Test.YtgoeoekdlcbmpaaGreatDoorLvA
import Derived.Test.YtgoeoekdlcbmpaaGreatDoorLvB
import Derived.Test.YtgoeoekdlcbmpaaGreatDoorPkT
import Derived.Test.YtgoeoekdlcbmpaaGreatDoorPkI
import Derived.Test.YtgoeoekdlcbmpaaGreatDoorPkM

namespace Go.Proofs.YtgoeoekdlcbmpaaGreatDoor
open Go Go.RowKit Go.Kf Go.Sort Go.Proofs

set_option maxRecDepth 100000 in
set_option maxHeartbeats 8000000 in
theorem pickLevels_all (R : List RV) (v : Value) (w : World) (S : Nat → Addr) (hr : ReadsK 4 w v (R.map rvRow)) (hi : ∀ x ∈ R, Reads w x.2 (x.1.ins.map str) ∧ NilOr x.2) (hm : Ml w) (hE : ErrW w S) (hN : NErr w) (ht : Tab w) :
    Calls Tryz.prog 6 #[v] w fun e w' => e = .returned (.bool true) ∧ Below w.heap.size w w' := by
  have hrow : ∀ r ∈ R.map rvRow, r ≠ [] := fun r hr => by obtain ⟨x, -, rfl⟩ := List.mem_map.1 hr; simp [rvRow]
  obtain ⟨a, c, hv, hle, -⟩ := id hr
  rw [List.length_map] at hv hle
  subst hv
  have KW := Lib.hid (picked_any w S hm (bErr_of_errW hE) hN ht)
  have KL := Lib.hid (fun w1 (hb : Below w.heap.size w w1) => longRules_any R (.slice a R.length c) 16 w1 (readsK_below0 hr hrow hb) (fun x hx => (hi x hx).1.below0 hb) (by decide))
  have KO := Lib.hid (fun w1 (hb : Below w.heap.size w w1) (hs : ∀ x ∈ R, ShortR x.1) (hn : R.length ≤ 1000) => ownRules_any R (.slice a R.length c) w1 (readsK_below0 hr hrow hb) (fun x hx => ⟨(hi x hx).1.below0 hb, (hi x hx).2, by have := (hs x hx).2.2.2.1; omega⟩) hn)
  have KLV := Lib.hid (fun w1 (hb : Below w.heap.size w w1) (R' : List RV) (v' : Value) (h : ∃ B, OwnAt B w1 v' R') (hs : ∀ x ∈ R', ShortR x.1) (h2 : R'.length ≤ 1000) =>
    levels_any R' v' w1 S (own_rulesT h).1 (own_rulesT h).2 (hm.below hb (Nat.le_refl _)) (kErr_of_errW (hE.below hb (Nat.le_refl _))) (hN.below hb (Nat.le_refl _)) (tab_below ht hb (Nat.le_refl _)) (short_bounds hs) (by omega))
  have KDP := Lib.hid (fun w1 (hb : Below w.heap.size w w1) (R' : List RV) (v' : Value) (h : ∃ B, OwnAt B w1 v' R') (hs : ∀ x ∈ R', ShortR x.1) (h2 : R'.length ≤ 1000) =>
    deep_any R' v' w1 S (own_rulesT h).1 (own_rulesT h).2 (hm.below hb (Nat.le_refl _)) (kErr_of_errW (hE.below hb (Nat.le_refl _))) (hN.below hb (Nat.le_refl _)) (tab_below ht hb (Nat.le_refl _)) (short_bounds hs) (by omega))
  have KSF := Lib.hid (fun w1 (hb : Below w.heap.size w w1) (hs : ∀ x ∈ R, ShortR x.1) => sheetFault_any R (.slice a R.length c) w1 (readsK_below0 hr hrow hb) (fun x hx => (hi x hx).1.below0 hb) (short_bounds hs))
  have KOR := Lib.hid (fun w1 (hb : Below w.heap.size w w1) (gs : Nat) (hs : Bits w1 gs (List.replicate R.length true)) (hn : R.length ≤ 1000) => orderOf_any R (.slice a R.length c) gs w1 (readsK_below0 hr hrow hb) (fun x hx => (hi x hx).1.below0 hb) hs hn)
  have KLO := Lib.hid (fun w1 (hb : Below w.heap.size w w1) (H : Nat → Nat) (L : Nat) (hS : ∀ i, i < R.length → IsSup (edgesB (R.map Prod.fst) i) H (H i)) (hL : ∀ i, i < R.length → H i < L) (hL2 : L ≤ 1000) (hn : R.length ≤ 1000) (i : Nat) (hi' : i < R.length) => levelOf_any R (.slice a R.length c) H L hS hL hL2 hn (H i) i w1 rfl hi' (readsK_below0 hr hrow hb) (fun x hx => (hi x hx).1.below0 hb))
  have HE := Lib.hid (fun w1 (hb : Below w.heap.size w w1) => hE.below hb (Nat.le_refl _))
  have hml : (R.map Prod.fst).length = R.length := List.length_map _
  have HML := Lib.hid hml
  clear hr hi hm hE hN ht hrow hml
  go_enter Tryz.func6, Tryz.ntmps6
  go_wp2_with fail
  refine KW.out.mono ?_
  rintro e w1 ⟨rfl, hb1⟩
  have HB1 := Lib.hid hb1
  clear hb1
  go_wp2_with fail
  refine (KL.out w1 HB1.out).mono ?_
  rintro e w2 ⟨rfl, rfl | ⟨rfl, hn, hs⟩⟩
  · go_wp2
    go_ret
    exact ⟨rfl, HB1.out⟩
  have HS := Lib.hid hs
  have hn12 : R.length ≤ 41 := by omega
  clear hn hs
  have KO1 := Lib.hid (KO.out w1 HB1.out HS.out (by omega))
  go_wp2_with fail
  refine KO1.out.mono ?_
  rintro e w3 ⟨v3, R3, rfl, he3, ho3, hb3⟩
  have HB3 := Lib.hid (HB1.out.trans (hb3.mono HB1.out.size))
  have hl3 : R3.length = R.length := by have := congrArg List.length he3; simpa using this
  have KL3 := Lib.hid (KLV.out w3 HB3.out R3 v3 ⟨_, ho3⟩ (short_other HS.out he3) (by omega))
  rw [he3] at KL3
  clear he3 ho3 hb3 KO1
  go_wp2_with fail
  refine KL3.out.mono ?_
  rintro e w4 ⟨ha4, hb4⟩
  have HB4 := Lib.hid (HB3.out.trans (hb4.mono HB3.out.size))
  have KO4 := Lib.hid (KO.out w4 HB4.out HS.out (by omega))
  have KALF := Lib.hid (fun w1 (hb : Below w.heap.size w w1) => allOf_any R.length w1 (by omega))
  clear KL3
  rcases ha4 with ⟨hrs, ⟨o, u, vs, ho, rfl, hrw⟩ | ⟨ho, rfl⟩⟩ | ⟨T, x, rfl, hbad⟩
  case inr =>
    have HBAD := Lib.hid hbad
    have HW4 := Lib.hid hb4
    clear hbad hb4
    go_wp2_with fail
    refine KO4.out.mono ?_
    rintro e w5 ⟨v5, R5, rfl, he5, ho5, hb5⟩
    have HB5 := Lib.hid (HB4.out.trans (hb5.mono HB4.out.size))
    have HQ5 := Lib.hid hb5
    have hl5 : R5.length = R.length := by have := congrArg List.length he5; simpa using this
    have KD5 := Lib.hid (KDP.out w5 HB5.out R5 v5 ⟨_, ho5⟩ (short_other HS.out he5) (by omega))
    rw [he5] at KD5
    clear he5 ho5 hb5 KO4
    go_wp2_with fail
    refine KD5.out.mono ?_
    rintro e w6 ⟨ha6, hb6⟩
    rcases ha6 with ⟨hrs, -⟩ | ⟨T2, x2, rfl, hbad2⟩
    · exact absurd hrs HBAD.out.wrong
    have HBAD2 := Lib.hid hbad2
    have HB6 := Lib.hid (HB5.out.trans (hb6.mono HB5.out.size))
    have HQ6 := Lib.hid (HQ5.out.trans (hb6.mono HQ5.out.size))
    have KS6 := Lib.hid (KSF.out w6 HB6.out HS.out)
    clear hb6 hbad2 KD5
    go_wp2_with fail
    refine KS6.out.mono ?_
    rintro e w7 ⟨⟨cd, pd, hf, rfl⟩, hb7⟩
    have HB7 := Lib.hid (HB6.out.trans (hb7.mono HB6.out.size))
    have hbc := bad_code HBAD.out hf (HE.out w4 HB4.out)
    have hcd := hbc.1
    have c1 : ((cd : Int) == 0) = false := by simpa using (by omega : ¬ (cd : Int) = 0)
    have c2 : (cd = 0) = False := eq_false (by omega)
    have c3 : ((0 : Int) < (cd : Int)) = True := eq_true (by omega)
    have c4 : (0 < cd) = True := eq_true (by omega)
    obtain ⟨W8, hW8⟩ : ∃ W, w7.alloc (.cells #[.int .i64 (cd : Int), .int .i64 pd] 68) = W := ⟨_, rfl⟩
    have hA8 : Below w7.heap.size w7 W8 := by rw [← hW8]; exact (Below.refl _ w7).alloc (Nat.le_refl _) _
    have hg8 : W8.heap[w7.heap.size]? = some (.cells #[.int .i64 (cd : Int), .int .i64 pd] 68 (0, 0)) := by rw [← hW8]; exact heap_alloc_here w7 _
    have HG8 := Lib.hid (fun wl (hb : Below W8.heap.size W8 wl) => (hb.block _ (lt_of_heap hg8)).trans hg8)
    obtain ⟨hcs, -, -⟩ := two_free hg8
    have HQ7 := Lib.hid (HQ6.out.trans (hb7.mono HQ6.out.size))
    have HQ67 := Lib.hid hb7
    have hq48 : Below w4.heap.size w4 W8 := HQ7.out.trans (hA8.mono HQ7.out.size)
    have hq68 : Below w6.heap.size w6 W8 := hb7.trans (hA8.mono hb7.size)
    have HB8 := Lib.hid (HB7.out.trans (hA8.mono HB7.out.size))
    have KF1 := Lib.hid (faulted3_any (.iface T x) cd pd W8 (fun w1 hb1 => (bad_code (HBAD.out.below (hq48.trans (hb1.mono hq48.size))) hf (HE.out w1 (HB8.out.trans (hb1.mono HB8.out.size)))).2))
    have KF2 := Lib.hid (fun wl (hb : Below W8.heap.size W8 wl) => faulted3_any (.iface T2 x2) cd pd wl (fun w1 hb1 => (bad_code (HBAD2.out.below (hq68.trans ((hb.trans (hb1.mono hb.size)).mono hq68.size))) hf (HE.out w1 (HB8.out.trans ((hb.trans (hb1.mono hb.size)).mono HB8.out.size)))).2))
    clear hb7 hf hbc hA8 hg8 hq48 hq68
    go_wp2_with fail
    refine KF1.out.mono ?_
    rintro e w9 ⟨rfl, hb9⟩
    have HB9 := Lib.hid hb9
    obtain ⟨hcs9, -, -⟩ := two_free (HG8.out w9 hb9)
    clear hb9
    go_wp2_with fail
    refine (KF2.out w9 HB9.out).mono ?_
    rintro e w10 ⟨rfl, hb10⟩
    have HB10 := Lib.hid (HB8.out.trans ((HB9.out.trans (hb10.mono HB9.out.size)).mono HB8.out.size))
    clear hb10
    go_wp2
    go_ret
    exact ⟨rfl, HB10.out⟩
  case' inl.inl =>
    have HRW4 := Lib.hid hrw
    clear hrw
  all_goals
    have HRS := Lib.hid hrs
    have HO := Lib.hid ho
    clear hrs ho hb4
    go_wp2_with fail
    refine KO4.out.mono ?_
    rintro e w5 ⟨v5, R5, rfl, he5, ho5, hb5⟩
    have HB5 := Lib.hid (HB4.out.trans (hb5.mono HB4.out.size))
    have HQ5 := Lib.hid hb5
    have hl5 : R5.length = R.length := by have := congrArg List.length he5; simpa using this
    have KD5 := Lib.hid (KDP.out w5 HB5.out R5 v5 ⟨_, ho5⟩ (short_other HS.out he5) (by omega))
    rw [he5] at KD5
    clear he5 ho5 hb5 KO4
    go_wp2_with fail
    refine KD5.out.mono ?_
    rintro e w6 ⟨ha6, hb6⟩
    have HB6 := Lib.hid (HB5.out.trans (hb6.mono HB5.out.size))
    have HQ6 := Lib.hid (HQ5.out.trans (hb6.mono HQ5.out.size))
    have KS6 := Lib.hid (KSF.out w6 HB6.out HS.out)
    clear hb6 KD5
    rcases ha6 with ⟨-, ⟨o2, ho2, rfl⟩ | ⟨ho2, rfl⟩⟩ | ⟨T2, x2, -, hbad2⟩
    case inr => exact absurd HRS.out hbad2.wrong
    all_goals
      first
      | (exfalso; rw [HO.out] at ho2; cases ho2; done)
      | skip
  case inl.inl =>
    obtain rfl : o = o2 := Option.some.inj (HO.out.symm.trans ho2)
    clear ho2
    go_wp2_with fail
    refine KS6.out.mono ?_
    rintro e w7 ⟨⟨cd, pd, hf, rfl⟩, hb7⟩
    obtain ⟨rfl, rfl⟩ := right_fault HRS.out hf
    have HB7 := Lib.hid (HB6.out.trans (hb7.mono HB6.out.size))
    have HQ7 := Lib.hid (HQ6.out.trans (hb7.mono HQ6.out.size))
    obtain ⟨W8, hW8⟩ : ∃ W, w7.alloc (.cells #[.int .i64 0, .int .i64 (-1)] 68) = W := ⟨_, rfl⟩
    have hA8 : Below w7.heap.size w7 W8 := by rw [← hW8]; exact (Below.refl _ w7).alloc (Nat.le_refl _) _
    have hg8 : W8.heap[w7.heap.size]? = some (.cells #[.int .i64 0, .int .i64 (-1)] 68 (0, 0)) := by rw [← hW8]; exact heap_alloc_here w7 _
    have HG8 := Lib.hid (fun wl (hb : Below W8.heap.size W8 wl) => (hb.block _ (lt_of_heap hg8)).trans hg8)
    obtain ⟨hcs, -, -⟩ := two_free hg8
    have HQ8 := Lib.hid (HQ7.out.trans (hA8.mono HQ7.out.size))
    have HB8 := Lib.hid (HB7.out.trans (hA8.mono HB7.out.size))
    have KA8 := Lib.hid (KALF.out W8 HB8.out)
    have hz8 : W8.heap.size = w7.heap.size + 1 := by rw [← hW8]; simp
    have HZ8 := Lib.hid hz8
    clear hb7 hf hA8 hg8 KS6 hz8
    go_wp2_with fail
    refine KA8.out.mono ?_
    rintro e w9 ⟨rfl, hbi9, hb9⟩
    have HB9 := Lib.hid (HB8.out.trans (hb9.mono HB8.out.size))
    have HW9 := Lib.hid hb9
    have KO9 := Lib.hid (KOR.out w9 HB9.out _ hbi9 (by omega))
    clear hbi9 hb9 KA8
    go_wp2_with fail
    refine KO9.out.mono ?_
    rintro e w10 ⟨hor, hb10⟩
    have HB10 := Lib.hid (HB9.out.trans (hb10.mono HB9.out.size))
    have HW10 := Lib.hid (HW9.out.trans (hb10.mono HW9.out.size))
    have HQ10 := Lib.hid (HQ8.out.trans (HW10.out.mono HQ8.out.size))
    obtain ⟨hcs10, hf0, hf1⟩ := two_free (HG8.out w10 HW10.out)
    have HG10 := Lib.hid (HG8.out w10 HW10.out)
    rcases hor with ⟨o3, u3, -, rfl, -⟩ | ⟨ho3, -⟩
    case inr =>
      rw [HO.out] at ho3
      cases ho3
    obtain ⟨H, L, hlev⟩ := lev_all HRS.out HO.out
    have hX : levX (R.map Prod.fst) o = (List.range L).map fun k => intsB (atLev R.length H k) := by
      have := hlev.rows
      rw [HML.out] at this
      exact this
    have hrw10 := HRW4.out.below HQ10.out
    have hxl : vs.length = (levX (R.map Prod.fst) o).length := hrw10.len
    rw [hX] at hrw10 hxl
    rw [List.length_map, List.length_range] at hxl
    have hll : (levX (R.map Prod.fst) o).length = L := by rw [hX]; simp
    rw [hll]
    have HRW := Lib.hid (fun wl (hb : Below w10.heap.size w10 wl) => hrw10.below hb)
    obtain ⟨au, cu, rfl⟩ := hrw10.form
    rw [hxl] at HRW ⊢
    have HVL := Lib.hid hxl
    have hL41 : L ≤ 41 := by
      have h1 := lev_len (R.map Prod.fst) o
      have h2 := nodup_le _ _ (order_mem HO.out).1.nd (fun k hk => ((order_mem HO.out).1.lt k hk).1)
      have h3 : (levX (R.map Prod.fst) o).length = (levsTo (R.map Prod.fst) o).2.length := by unfold levX; rw [List.length_map]
      rw [HML.out] at h2
      omega
    have HSUP : Hid (∀ i, i < R.length → IsSup (edgesB (R.map Prod.fst) i) H (H i)) := Lib.hid (fun i hi => hlev.sup i (by rw [HML.out]; exact hi))
    have HBD : Hid (∀ i, i < R.length → H i < L) := Lib.hid (fun i hi => hlev.bd i (by rw [HML.out]; exact hi))
    have HNE : Hid (∀ k, k < L → atLev R.length H k ≠ []) := Lib.hid (fun k hk => by have := hlev.ne k hk; rw [HML.out] at this; exact this)
    have KLV2 := Lib.hid (fun wl (hb : Below w10.heap.size w10 wl) (i : Nat) (hi : i < R.length) => KLO.out wl (HB10.out.trans (hb.mono HB10.out.size)) H L HSUP.out HBD.out (by omega) (by omega) i hi)
    clear hb10 hrw10 hlev hX hxl hll KO9
    go_wp2_with fail
    go_loopw [11, 12] (fun mv kv wl => ∃ k : Nat, k ≤ L ∧ kv = .int .i64 k ∧ mv = .int .i64 (belowLev R.length H k : Nat) ∧ Below w10.heap.size w10 wl) (fun _ kv _ => L - (intOf kv).toNat)
    case atStart => exact ⟨0, by omega, rfl, by rw [belowLev_zero]; rfl, Below.refl _ _⟩
    case round =>
      obtain ⟨k, hk, rfl, rfl, hbk⟩ := hrel
      have HBK := Lib.hid hbk
      by_cases hlk : k < L
      · have hlc : ((k : Int) < (L : Int)) = True := eq_true (by omega)
        have hrwk := HRW.out wr hbk
        have hkv : k < vs.length := by have := HVL.out; omega
        have hown := hrwk.own k hkv (by simpa using hlk)
        simp only [List.getElem_map, List.getElem_range] at hown
        have hbs := belowLev_succ R.length H k
        have hbl := belowLev_le R.length H (k + 1)
        have hne := HNE.out k hlk
        have hpos : 0 < (atLev R.length H k).length := List.length_pos_iff.2 hne
        obtain ⟨row, hrow⟩ : ∃ row, atLev R.length H k = row := ⟨_, rfl⟩
        have HAT : Hid (∀ (i : Nat) (hi : i < row.length), row[i] < R.length ∧ H row[i] = k) := Lib.hid (by rw [← hrow]; exact fun i hi => atLev_at hi)
        have HRI : Hid (∀ (i : Nat) (hi : i + 1 < row.length), row[i] < row[i + 1]) := Lib.hid (by rw [← hrow]; exact fun i hi => atLev_rise hi)
        rw [hrow] at hown hbs hpos
        clear hrow
        have HBS := Lib.hid hbs
        have hbm : belowLev R.length H k + row.length ≤ 41 := by omega
        have hru := reads_ints (by simpa [intsB] using hown : wr.ownsRow (w3.heap.size) 3 1 vs[k] row.length ((intsB row).map (Value.int .i64)))
        have HROW := Lib.hid (fun wl (hb : Below wr.heap.size wr wl) => hru.below0 hb)
        obtain ⟨ak, ck, hvk, -, -⟩ := id hru
        rw [List.length_map] at hvk
        have hhead := hrwk.row
        rw [HVL.out] at hhead
        obtain ⟨g, cap, hov⟩ := ownsRow_some hhead (by omega)
        simp only [Value.slice.injEq] at hov
        obtain ⟨rfl, -, rfl⟩ := hov
        have hgi := (own_cell hhead hkv).1
        rw [hvk] at hgi HROW
        have hgb := (hhead.lt g rfl).2
        have HGI := Lib.hid (fun wl (hb : Below wr.heap.size wr wl) => (hb.cell (p := ⟨g, k, none⟩) hgb).trans hgi)
        have hidx := idx_at (P := Tryz.prog) (T := 62) (E := 24) Tryz.underlying62 (by kernel_rfl) g L cu k hlk
        have e1 : ((row.length : Int) == 0) = false := by simpa using (by omega : ¬ (row.length : Int) = 0)
        have e2 : (row.length = 0) = False := eq_false (by omega)
        generalize belowLev R.length H k = bm at *
        clear hbk hrwk hown hbs hne hru hhead hvk
        go_wp2_with fail
        go_loopw [11, 13] (fun mv iv wl => ∃ i : Nat, i ≤ row.length ∧ iv = .int .i64 i ∧ mv = .int .i64 ((bm + i : Nat) : Int) ∧ Below wr.heap.size wr wl) (fun _ iv _ => row.length - (intOf iv).toNat)
        case atStart => exact ⟨0, by omega, rfl, rfl, Below.refl _ _⟩
        case round =>
          obtain ⟨i, hi, rfl, rfl, hbi⟩ := hrel
          have HBI := Lib.hid hbi
          have hgi2 := HGI.out _ hbi
          by_cases hlt : i < row.length
          · have hlc2 : ((i : Int) < (row.length : Int)) = True := eq_true (by omega)
            obtain ⟨bo, oo, hixo, hceo⟩ := (HROW.out _ hbi).at (P := Tryz.prog) Tryz.underlying24 (by kernel_rfl) i (by simpa using hlt)
            simp only [List.getElem_map] at hceo
            obtain ⟨hjn, hjk⟩ := HAT.out i hlt
            have KLI := Lib.hid (fun wl (hb : Below w10.heap.size w10 wl) => KLV2.out wl hb row[i] hjn)
            rw [hjk] at KLI
            have HBW := Lib.hid (HBK.out.trans (hbi.mono HBK.out.size))
            have hbi2 : bm + i + 1 ≤ 41 := by omega
            by_cases hi0 : i = 0
            · subst hi0
              replace hixo : ∀ w', (Instr.indexAt 24 (.slice ak row.length ck) (.int .i64 0)).run Tryz.prog w' = .ok (.pointer (some ⟨bo, oo, none⟩)) w' := hixo
              generalize row[0] = j at *
              have f1 : ((j : Int) < 0) = False := eq_false (by omega)
              have f2 : ((R.length : Int) ≤ (j : Int)) = False := eq_false (by omega)
              have f3 : (R.length ≤ j) = False := eq_false (by omega)
              clear hbi hjk
              go_wp2_with fail
              refine (KLI.out _ HBW.out).mono ?_
              rintro e w13 ⟨rfl, hb13⟩
              have HB13 := Lib.hid (HBI.out.trans (hb13.mono HBI.out.size))
              clear hb13
              go_wp2
              go_roundw
              case rel => exact ⟨1, by omega, by go_num, by go_num, HB13.out⟩
              case measure => simp [intOf]; omega
            · obtain ⟨i', rfl⟩ : ∃ i', i = i' + 1 := ⟨i - 1, by omega⟩
              have hri := HRI.out i' hlt
              obtain ⟨bp, op, hixp, hcep⟩ := (HROW.out _ hbi).at (P := Tryz.prog) Tryz.underlying24 (by kernel_rfl) i' (by simp; omega)
              simp only [List.getElem_map] at hcep
              replace hixo : ∀ w', (Instr.indexAt 24 (.slice ak row.length ck) (.int .i64 ((i' : Int) + 1))).run Tryz.prog w' = .ok (.pointer (some ⟨bo, oo, none⟩)) w' := hixo
              generalize row[i' + 1] = j at *
              generalize row[i'] = jp at *
              have f1 : ((j : Int) < 0) = False := eq_false (by omega)
              have f2 : ((R.length : Int) ≤ (j : Int)) = False := eq_false (by omega)
              have f3 : (R.length ≤ j) = False := eq_false (by omega)
              have f4 : ((j : Int) ≤ (jp : Int)) = False := eq_false (by omega)
              have f5 : (j ≤ jp) = False := eq_false (by omega)
              have f6 : ((0 : Int) < ((i' + 1 : Nat) : Int)) = True := eq_true (by omega)
              have f7 : ((0 : Int) < (i' : Int) + 1) = True := eq_true (by omega)
              have f8 : (0 < i' + 1) = True := eq_true (by omega)
              clear hbi hjk hri
              go_wp2_with fail
              refine (KLI.out _ HBW.out).mono ?_
              rintro e w13 ⟨rfl, hb13⟩
              have HB13 := Lib.hid (HBI.out.trans (hb13.mono HBI.out.size))
              clear hb13
              go_wp2
              go_roundw
              case rel => exact ⟨i' + 1 + 1, by omega, by go_num, by go_num, HB13.out⟩
              case measure => simp [intOf]; omega
          · have HIE : Hid (i = row.length) := Lib.hid (by omega)
            have hlc2 : ((i : Int) < (row.length : Int)) = False := eq_false (by omega)
            clear hbi
            go_wp2
            go_roundw
            case rel => exact ⟨k + 1, by omega, by go_num, by rw [HBS.out, HIE.out], HBK.out.trans (HBI.out.mono HBK.out.size)⟩
            case measure => simp [intOf]; omega
      · have HKE : Hid (k = L) := Lib.hid (by omega)
        have hlc : ((k : Int) < (L : Int)) = False := eq_false (by omega)
        have HBA : Hid (belowLev R.length H k = R.length) := Lib.hid (by rw [HKE.out]; exact belowLev_all HBD.out)
        rw [HBA.out]
        clear hbk
        go_wp2
        go_ret
        exact ⟨by simp, HB10.out.trans (HBK.out.mono HB10.out.size)⟩
  case inl.inr =>
    clear ho2
    go_wp2_with fail
    refine KS6.out.mono ?_
    rintro e w7 ⟨⟨cd, pd, hf, rfl⟩, hb7⟩
    obtain ⟨rfl, rfl⟩ := right_fault HRS.out hf
    have HB7 := Lib.hid (HB6.out.trans (hb7.mono HB6.out.size))
    have HQ7 := Lib.hid (HQ6.out.trans (hb7.mono HQ6.out.size))
    obtain ⟨W8, hW8⟩ : ∃ W, w7.alloc (.cells #[.int .i64 0, .int .i64 (-1)] 68) = W := ⟨_, rfl⟩
    have hA8 : Below w7.heap.size w7 W8 := by rw [← hW8]; exact (Below.refl _ w7).alloc (Nat.le_refl _) _
    have hg8 : W8.heap[w7.heap.size]? = some (.cells #[.int .i64 0, .int .i64 (-1)] 68 (0, 0)) := by rw [← hW8]; exact heap_alloc_here w7 _
    have HG8 := Lib.hid (fun wl (hb : Below W8.heap.size W8 wl) => (hb.block _ (lt_of_heap hg8)).trans hg8)
    obtain ⟨hcs, -, -⟩ := two_free hg8
    have HQ8 := Lib.hid (HQ7.out.trans (hA8.mono HQ7.out.size))
    have HB8 := Lib.hid (HB7.out.trans (hA8.mono HB7.out.size))
    have KA8 := Lib.hid (KALF.out W8 HB8.out)
    have hz8 : W8.heap.size = w7.heap.size + 1 := by rw [← hW8]; simp
    have HZ8 := Lib.hid hz8
    clear hb7 hf hA8 hg8 KS6 hz8
    go_wp2_with fail
    refine KA8.out.mono ?_
    rintro e w9 ⟨rfl, hbi9, hb9⟩
    have HB9 := Lib.hid (HB8.out.trans (hb9.mono HB8.out.size))
    have HW9 := Lib.hid hb9
    have KO9 := Lib.hid (KOR.out w9 HB9.out _ hbi9 (by omega))
    clear hbi9 hb9 KA8
    go_wp2_with fail
    refine KO9.out.mono ?_
    rintro e w10 ⟨hor, hb10⟩
    have HB10 := Lib.hid (HB9.out.trans (hb10.mono HB9.out.size))
    have HW10 := Lib.hid (HW9.out.trans (hb10.mono HW9.out.size))
    have HQ10 := Lib.hid (HQ8.out.trans (HW10.out.mono HQ8.out.size))
    obtain ⟨hcs10, hf0, hf1⟩ := two_free (HG8.out w10 HW10.out)
    have HG10 := Lib.hid (HG8.out w10 HW10.out)
    rcases hor with ⟨o3, u3, ho3, -, -⟩ | ⟨-, rfl⟩
    case inl =>
      rw [HO.out] at ho3
      cases ho3
    have KB10 := Lib.hid (bare_any 9 w10)
    clear hb10 KO9
    go_wp2_with fail
    refine KB10.out.mono ?_
    rintro e w11 ⟨rfl, hb11⟩
    have HW11 := Lib.hid (HW10.out.trans (hb11.mono HW10.out.size))
    have hg11 := HG8.out w11 HW11.out
    have HG11 := Lib.hid hg11
    obtain ⟨hcs11, hg0, hg1⟩ := two_free hg11
    have HB11 := Lib.hid (HB10.out.trans (hb11.mono HB10.out.size))
    clear hb11 KB10 hg11
    obtain ⟨W12, hW12⟩ : ∃ W, (w11.setCell ⟨w7.heap.size, 0, none⟩ (.int .i64 9)).setCell ⟨w7.heap.size, 1, none⟩ (.int .i64 (-1)) = W := ⟨_, rfl⟩
    have hg12 : W12.heap[w7.heap.size]? = some (.cells #[.int .i64 9, .int .i64 (-1)] 68 (0, 0)) := by rw [← hW12]; exact two_put HG11.out _ _
    have hb712 : Below w7.heap.size w7 W12 := by
      rw [← hW12]
      exact below_put ((by rw [← hW8]; exact (Below.refl _ w7).alloc (Nat.le_refl _) _ : Below w7.heap.size w7 W8).trans (HW11.out.mono (by have := HZ8.out; omega))) (Nat.le_refl _) _ _
    have HB12 := Lib.hid (HB7.out.trans (hb712.mono HB7.out.size))
    have HG12 := Lib.hid (fun wl (hb : Below W12.heap.size W12 wl) => (hb.block _ (lt_of_heap hg12)).trans hg12)
    obtain ⟨hcs12, -, -⟩ := two_free hg12
    have KF := Lib.hid (fun wl (hb : Below W12.heap.size W12 wl) => faulted3_any (errI (S 8)) 9 (-1) wl (fun w1 hb1 => code_at w1 S (HE.out w1 (HB12.out.trans ((hb.trans (hb1.mono hb.size)).mono HB12.out.size))) 8 (by decide)))
    clear hg12 hb712
    go_wp2_with fail
    refine (KF.out _ (by first | exact Below.refl _ _ | (rw [hW12]; exact Below.refl _ _))).mono ?_
    rintro e w13 ⟨rfl, hb13⟩
    have HB13 := Lib.hid (by first | exact hb13 | (rw [hW12] at hb13; exact hb13) : Below W12.heap.size W12 w13)
    obtain ⟨hcs13, -, -⟩ := two_free (HG12.out w13 HB13.out)
    clear hb13
    go_wp2_with fail
    refine (KF.out w13 HB13.out).mono ?_
    rintro e w14 ⟨rfl, hb14⟩
    have HB14 := Lib.hid (HB12.out.trans ((HB13.out.trans (hb14.mono HB13.out.size)).mono HB12.out.size))
    clear hb14
    go_wp2
    go_ret
    exact ⟨rfl, HB14.out⟩
end Go.Proofs.YtgoeoekdlcbmpaaGreatDoor
