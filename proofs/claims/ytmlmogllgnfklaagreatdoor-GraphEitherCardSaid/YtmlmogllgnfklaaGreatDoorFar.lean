/-
  Package graph: far.
-/
import Derived.Test.YtmlmogllgnfklaaGreatDoorRepeat
import Derived.Test.YtmlmogllgnfklaaGreatDoorGraphP
namespace Go.Proofs.YtmlmogllgnfklaaGreatDoor
open Go Go.RowKit Go.Kf Go.Sort Go.Proofs

theorem nextF_succ (E : Nat → List Nat) (i : Nat) (f : List Int) (l : List Nat) : nextF E (i + 1) f l = nextF E i f l ++ if (decide (fa f i < 0) && (E i).any fun j => l.contains j) = true then [i] else [] := by
  unfold nextF
  rw [List.range_succ, List.filter_append]
  congr 1
  cases h : (decide (fa f i < 0) && (E i).any fun j => l.contains j) with
  | true => rw [List.filter_cons, h]; rfl
  | false => rw [List.filter_cons, h]; rfl
theorem nextF_len (E : Nat → List Nat) (i : Nat) (f : List Int) (l : List Nat) : (nextF E i f l).length ≤ i := by
  unfold nextF
  exact Nat.le_trans (List.length_filter_le _ _) (by simp)

set_option maxRecDepth 100000 in
/-- far's function value: is it on the level before? -/
theorem far1_any (l : List Nat) (v : Value) (B j : Nat) (w : World) (hB : w.cell? ⟨B, 0, none⟩ = some v) (hr : Reads w v (l.map intE)) :
    Calls Tryz.prog 73 #[intE j, .pointer (some ⟨B, 0, none⟩)] w fun e w' => e = .returned (.bool (l.contains j)) ∧ w' = w := by
  obtain ⟨a, c, hv, -, -⟩ := id hr
  rw [List.length_map] at hv
  subst hv
  have K := Lib.hid (containsInt_any j (.slice a l.length c) l w hr)
  clear hr
  generalize l.contains j = b at *
  go_enter Tryz.func73, Tryz.ntmps73
  go_wp2_with fail
  refine K.out.mono ?_
  rintro e w1 ⟨rfl, rfl⟩
  go_wp2
  go_ret
  trivial

/-- The state of far's great loop. -/
structure FSt (w : World) (wl : World) (E : Nat → List Nat) (n tg s : Nat) (Bx : Nat) (f : List Int) (l : List Nat) : Prop where
  st : FarSt E n tg f s l
  le : s ≤ n + 2
  row : VRow 3 wl (w.heap.size + 1) (f.map (Value.int .i64))
  box : ∃ a c, VRow 28 wl Bx [.slice a l.length c] ∧ Reads wl (.slice a l.length c) (l.map intE)
  ne : w.heap.size + 2 ≤ Bx
  below : Below w.heap.size w wl

set_option maxRecDepth 100000 in
set_option maxHeartbeats 4000000 in
theorem far_any (v : Value) (n tg : Nat) (E : Nat → List Nat) (w : World) (hv : EdgesV w v n E) (hE : ∀ i, ∀ k ∈ E i, k < n) (ht : tg < n) (hn : n ≤ 1000) :
    Calls Tryz.prog 45 #[v, intE tg] w fun e w' => ∃ f, FarAt E n tg f ∧ e = .returned (.slice (some ⟨w.heap.size + 1, 0, none⟩) n n) ∧ VRow 3 w' (w.heap.size + 1) (f.map (Value.int .i64)) ∧ Below w.heap.size w w' := by
  obtain ⟨vs, hrv, hvl, -⟩ := id hv
  obtain ⟨a, c, hv0, hle, -⟩ := id hrv
  subst hv0
  rw [hvl] at *
  have HV := Lib.hid hv
  have HE := Lib.hid hE
  obtain ⟨W1, hW1⟩ : ∃ W, w.alloc (.cells #[.int .i64 (-1)] 3) = W := ⟨_, rfl⟩
  have hA1 : Below w.heap.size w W1 := hW1 ▸ (Below.refl _ w).alloc (Nat.le_refl _) _
  have hz1 : W1.heap.size = w.heap.size + 1 := by rw [← hW1]; simp
  have hr1 : Reads W1 (.slice (some ⟨w.heap.size, 0, none⟩) 1 1) [.int .i64 (-1)] := by
    refine ⟨some ⟨w.heap.size, 0, none⟩, 1, rfl, by simp, fun i u hi => ⟨_, _, rfl, ?_⟩⟩
    rw [← hW1, cell_of_heap (heap_alloc_here w _)]
    match i, hi with
    | 0, hi => cases hi; rfl
    | n + 1, hi => cases hi
  have KR := repeat_any n _ W1 hr1 hn
  rw [hz1] at KR
  have KR1 := Lib.hid KR
  have HA1 := Lib.hid hA1
  clear hv hE hrv hvl hr1 KR hA1
  go_enter Tryz.func45, Tryz.ntmps45
  go_wp2_with fail
  refine KR1.out.mono ?_
  rintro e w2 ⟨rfl, hrow, hb2⟩
  have HROW := Lib.hid hrow
  have HB2 := Lib.hid (HA1.out.trans (hb2.mono (by omega)))
  have hz2 : w.heap.size + 2 ≤ w2.heap.size := by have := hrow.lt; omega
  clear hrow hb2
  obtain ⟨W3, hW3⟩ : ∃ W, w2.alloc (.cells #[intE tg] 3) = W := ⟨_, rfl⟩
  have hz3 : W3.heap.size = w2.heap.size + 1 := by rw [← hW3]; simp
  have hA3 : Below w2.heap.size w2 W3 := hW3 ▸ (Below.refl _ w2).alloc (Nat.le_refl _) _
  have hr3 : Reads W3 (.slice (some ⟨w2.heap.size, 0, none⟩) 1 1) ([tg].map intE) := by
    refine ⟨some ⟨w2.heap.size, 0, none⟩, 1, rfl, by simp, fun i u hi => ⟨_, _, rfl, ?_⟩⟩
    rw [← hW3, cell_of_heap (heap_alloc_here w2 _)]
    match i, hi with
    | 0, hi => cases hi; rfl
    | n + 1, hi => cases hi
  obtain ⟨W4, hW4⟩ : ∃ W, W3.alloc (.cells #[.slice (some ⟨w2.heap.size, 0, none⟩) 1 1] 28) = W := ⟨_, rfl⟩
  have hA4 : Below W3.heap.size W3 W4 := hW4 ▸ (Below.refl _ W3).alloc (Nat.le_refl _) _
  have hq4 : VRow 28 W4 (w2.heap.size + 1) [.slice (some ⟨w2.heap.size, 0, none⟩) 1 1] := by rw [← hz3]; exact hW4 ▸ heap_alloc_here W3 _
  have HS4 : Hid (FSt w W4 E n tg 1 (w2.heap.size + 1) (List.replicate n (-1)) [tg]) := Lib.hid ⟨FarSt.zero E n tg, by omega, (HROW.out.below0 hA3).below0 hA4, ⟨some ⟨w2.heap.size, 0, none⟩, 1, hq4, hr3.below0 hA4⟩, by omega, (HB2.out.trans (hA3.mono HB2.out.size)).trans (hA4.mono (by have := HB2.out.size; omega))⟩
  clear hA3 hr3 hA4 hq4
  go_wp2_with fail
  go_loopw [6, 7] (fun sv bv wl => ∃ (s Bx : Nat) (f : List Int) (l : List Nat), sv = .int .i64 s ∧ bv = .pointer (some ⟨Bx, 0, none⟩) ∧ FSt w wl E n tg s Bx f l) (fun sv _ _ => n + 2 - (intOf sv).toNat)
  case atStart => exact ⟨1, w2.heap.size + 1, _, [tg], rfl, rfl, HS4.out⟩
  case round =>
    obtain ⟨s, Bx, f, l, rfl, rfl, hst⟩ := hrel
    obtain ⟨W5, rfl⟩ : ∃ W, W = wr := ⟨_, rfl⟩
    obtain ⟨al, cl, hbx, hrl⟩ := hst.box
    have HST := Lib.hid hst
    have HRL := Lib.hid hrl
    have HBX := Lib.hid hbx
    have hcb : W5.cell? ⟨Bx, 0, none⟩ = some (.slice al l.length cl) := hbx.cell rfl
    have hfb : W5.frozen? ⟨Bx, 0, none⟩ = false := hbx.frozen 0
    have hzB := hbx.lt
    have hzg := hst.row.lt
    have hfl := hst.st.len
    cases l with
    | nil =>
      have HF : Hid (FarAt E n tg f) := Lib.hid (hst.st.stop hst.le)
      clear hst hbx hrl
      go_wp2
      go_ret
      exact ⟨f, HF.out, rfl, HST.out.row, HST.out.below⟩
    | cons l0 lr =>
      have hsb := hst.st.bound (by simp)
      have hps := hst.st.pos
      have HNE := HST.out.ne
      have hpl : ((0 : Int) < (lr.length : Int) + 1) = True := eq_true (by omega)
      simp only [List.length_cons] at hcb
      generalize hl : l0 :: lr = l at *
      have hll : l.length = lr.length + 1 := by rw [← hl]; simp
      clear hst hbx hrl
      go_wp2_with fail
      go_loopw [8, 25] (fun nv iv wl => ∃ i : Nat, i ≤ n ∧ iv = .int .i64 i ∧ wl.ownsRow W5.heap.size 3 1 nv (nextF E i f l).length ((intsB (nextF E i f l)).map (Value.int .i64)) ∧ Below W5.heap.size W5 wl) (fun _ iv _ => n - (intOf iv).toNat)
      case atStart => exact ⟨0, by omega, rfl, World.ownsRow_nil _ _ _ _, Below.refl _ _⟩
      case round =>
        obtain ⟨i, hi, rfl, hown, hbi⟩ := hrel
        have HOW := Lib.hid hown
        have HBI := Lib.hid hbi
        have hzi := hbi.size
        have hnl := nextF_len E i f l
        by_cases hlt : i < n
        · have hlc : ((i : Int) < (n : Int)) = True := eq_true (by omega)
          have hix := idx_at (P := Tryz.prog) (T := 28) (E := 3) Tryz.underlying28 (by kernel_rfl) (w.heap.size + 1) n n i hlt
          have hci : wr.cell? ⟨w.heap.size + 1, i, none⟩ = some (.int .i64 (fa f i)) := (HST.out.row.below0 hbi).cell (by rw [List.getElem?_map, List.getElem?_eq_getElem (by omega), Option.map_some, fa_at (by omega)])
          have HSN : Hid (nextF E (i + 1) f l = nextF E i f l ++ if (decide (fa f i < 0) && (E i).any fun j => l.contains j) = true then [i] else []) := Lib.hid (nextF_succ E i f l)
          by_cases hneg : fa f i < 0
          · have hnc : (fa f i < 0) = True := eq_true hneg
            obtain ⟨-, -, be, oe, ue, hixe, hcee, hree⟩ := (HV.out.below0 (HST.out.below.trans (hbi.mono HST.out.below.size))).at hlt
            have hcb2 : wr.cell? ⟨Bx, 0, none⟩ = some (.slice al l.length cl) := (HBX.out.below0 hbi).cell rfl
            have hrl2 := HRL.out.below0 hbi
            have KA := Lib.hid (anyInt_any (fun j => l.contains j) 73 #[.pointer (some ⟨Bx, 0, none⟩)] ue (E i) wr hree
              ⟨fun _ _ => rfl, fun W x hx hb => fnGives_drew (far1_any l _ Bx x W ((hb.cell (p := ⟨Bx, 0, none⟩) (by simp; omega)).trans hcb2) (hrl2.below0 hb))⟩)
            cases hany : (E i).any fun j => l.contains j with
            | true =>
              rw [hany] at KA HSN
              have HS1 : Hid (nextF E (i + 1) f l = nextF E i f l ++ [i]) := Lib.hid (by rw [HSN.out, if_pos (by simp [hneg])])
              have HOQ : Hid (∀ q, (wr.drewN q).ownsRow W5.heap.size 3 1 u8 (nextF E i f l).length ((intsB (nextF E i f l)).map (Value.int .i64))) := Lib.hid (fun q => ownsRow_fr (S := fun _ => False) HOW.out (Fr.of_below (below_drewN (Below.refl wr.heap.size wr) q)) (fun k hk => ⟨(HOW.out.lt k hk).2, id⟩))
              clear hown hbi hneg hany hree hrl2 hcb2 HSN
              generalize fa f i = z at *
              go_wp2_with fail
              refine KA.out.mono ?_
              rintro e w6 ⟨rfl, q, rfl⟩
              go_wp2_with (first
                | (at_builtin
                   refine wpList_app _ rfl _ _ 28 rfl tyInts W5.heap.size _ _ _ rfl ((HOQ.out q).alloc _) ⟨wr.heap.size, 0, none⟩ 1 1 [intE i] rfl rfl (news_one ?_) ?_ (by decide) ?_ ?_ ?_
                   · have e := heap_alloc_here (wr.drewN q) (.cells #[intE i] 3)
                     rw [show (wr.drewN q).heap.size = wr.heap.size by simp] at e
                     rw [cell_of_heap e]; rfl
                   · intro u hu; simp at hu; subst hu; rfl
                   · omega
                   · simp; omega
                   intro v7 w7 ho7 hg7 hloc7
                   have HO7 := Lib.hid ho7
                   have HB7 : Hid (Below W5.heap.size W5 w7) := Lib.hid (((below_drewN HBI.out q).alloc (by simp; omega) _).grown hg7 (by simp; omega) (fun b hb => (HOW.out.lt b hb).1))
                   clear ho7 hg7 hloc7))
              go_wp2
              go_roundw
              case rel => exact ⟨i + 1, by omega, by go_num, by rw [HS1.out]; have h := HO7.out; simpa [intsB] using h, HB7.out⟩
              case measure => simp [intOf]; omega
            | false =>
              rw [hany] at KA HSN
              have HS1 : Hid (nextF E (i + 1) f l = nextF E i f l) := Lib.hid (by rw [HSN.out, if_neg (by simp), List.append_nil])
              have HOQ : Hid (∀ q, (wr.drewN q).ownsRow W5.heap.size 3 1 u8 (nextF E i f l).length ((intsB (nextF E i f l)).map (Value.int .i64))) := Lib.hid (fun q => ownsRow_fr (S := fun _ => False) HOW.out (Fr.of_below (below_drewN (Below.refl wr.heap.size wr) q)) (fun k hk => ⟨(HOW.out.lt k hk).2, id⟩))
              clear hown hbi hneg hany hree hrl2 hcb2 HSN
              generalize fa f i = z at *
              go_wp2_with fail
              refine KA.out.mono ?_
              rintro e w6 ⟨rfl, q, rfl⟩
              go_wp2
              go_roundw
              case rel => exact ⟨i + 1, by omega, by go_num, by rw [HS1.out]; exact HOQ.out q, below_drewN HBI.out q⟩
              case measure => simp [intOf]; omega
          · have hnc : (fa f i < 0) = False := eq_false hneg
            have HS1 : Hid (nextF E (i + 1) f l = nextF E i f l) := Lib.hid (by rw [HSN.out, if_neg (by simp [hneg]), List.append_nil])
            clear hown hbi hneg HSN
            generalize fa f i = z at *
            go_wp2
            go_roundw
            case rel => exact ⟨i + 1, by omega, by go_num, by rw [HS1.out]; exact HOW.out, HBI.out⟩
            case measure => simp [intOf]; omega
        · obtain rfl : i = n := by omega
          have hlc : ((i : Int) < (i : Int)) = False := eq_false (by omega)
          obtain ⟨an, cn, hnv⟩ : ∃ an cn, u8 = .slice an (nextF E i f l).length cn := by
            rcases hown.2 with ⟨e, h0⟩ | ⟨g, cap, _, e, -⟩
            · exact ⟨none, 0, by rw [e, h0]⟩
            · exact ⟨_, _, e⟩
          subst hnv
          have HST1 := Lib.hid HST.out.st.step
          have HNX : Hid (∀ k ∈ nextF E i f l, k < i) := Lib.hid (fun k hk => (mem_nextF.1 hk).1)
          have HR0 := Lib.hid (HST.out.row.below0 hbi)
          have HX0 := Lib.hid (HBX.out.below0 hbi)
          have HB0 := Lib.hid (HST.out.below.trans (hbi.mono HST.out.below.size))
          generalize nextF E i f l = nx at *
          clear hown hbi
          go_wp2_with fail
          go_loopw [48] (fun iv wl => ∃ j : Nat, j ≤ nx.length ∧ iv = .int .i64 j ∧ VRow 3 wl (w.heap.size + 1) ((setAll s f (nx.take j)).map (Value.int .i64)) ∧ wl.ownsRow W5.heap.size 3 1 (.slice an nx.length cn) nx.length ((intsB nx).map (Value.int .i64)) ∧ VRow 28 wl Bx [.slice al l.length cl] ∧ Below w.heap.size w wl) (fun iv _ => nx.length - (intOf iv).toNat)
          case atStart => exact ⟨0, by omega, rfl, HR0.out, HOW.out, HX0.out, HB0.out⟩
          case round =>
            obtain ⟨j, hj, rfl, hrw, hon, hbx, hbj⟩ := hrel
            by_cases hjl : j < nx.length
            · have hlc2 : ((j : Int) < (nx.length : Int)) = True := eq_true (by omega)
              obtain ⟨b1, o1, hix1, hc1⟩ := (reads_ints hon).at (P := Tryz.prog) Tryz.underlying28 (by kernel_rfl) j (by simpa using hjl)
              simp only [List.getElem_map] at hc1
              have hxn := HNX.out _ (List.getElem_mem hjl)
              have HTK : Hid (∀ x, nx[j] = x → setAll s f (nx.take (j + 1)) = (setAll s f (nx.take j)).set x s) := Lib.hid (fun x hx => by rw [List.take_succ_eq_append_getElem hjl, hx, setAll_snoc])
              generalize nx[j] = x at *
              have hixx := idx_at (P := Tryz.prog) (T := 28) (E := 3) Tryz.underlying28 (by kernel_rfl) (w.heap.size + 1) i i x hxn
              have hcx : ∃ z, wr.cell? ⟨w.heap.size + 1, x, none⟩ = some z := ⟨_, hrw.cell (List.getElem?_eq_getElem (by rw [List.length_map, setAll_len]; omega))⟩
              obtain ⟨zx, hcx⟩ := hcx
              have hfx : ∀ k, wr.frozen? ⟨w.heap.size + 1, k, none⟩ = false := hrw.frozen
              have hset := hrw.set x (.int .i64 (s : Int))
              rw [← List.map_set, ← HTK.out x rfl] at hset
              have HSE := Lib.hid hset
              have HON := Lib.hid (ownsRow_fr hon (Fr.setCell (S := fun q => q = w.heap.size + 1) (p := ⟨w.heap.size + 1, x, none⟩) (Fr.refl wr.heap.size _ wr) (fun _ => rfl) (.int .i64 (s : Int))) (fun q hq => ⟨(hon.lt q hq).2, fun e => by have := (hon.lt q hq).1; omega⟩))
              have HXN : Hid (VRow 28 (wr.setCell ⟨w.heap.size + 1, x, none⟩ (.int .i64 (s : Int))) Bx [.slice al l.length cl]) := Lib.hid ((Below.heap_setCell wr ⟨w.heap.size + 1, x, none⟩ _ Bx (by simp; omega)).trans hbx)
              have HBN := Lib.hid (hbj.setCell (p := ⟨w.heap.size + 1, x, none⟩) (by simp) (.int .i64 (s : Int)))
              clear hrw hon hbx hbj hset HTK
              go_wp2
              go_roundw
              case rel => exact ⟨j + 1, by omega, by go_num, HSE.out, HON.out, HXN.out, HBN.out⟩
              case measure => simp [intOf]; omega
            · obtain rfl : j = nx.length := by omega
              have hlc2 : ((nx.length : Int) < (nx.length : Int)) = False := eq_false (by omega)
              rw [List.take_length] at hrw
              have hfb2 : wr.frozen? ⟨Bx, 0, none⟩ = false := hbx.frozen 0
              have hcb2 : wr.cell? ⟨Bx, 0, none⟩ = some (.slice al l.length cl) := hbx.cell rfl
              have hws : IntKind.i64.wrap ((s : Int) + 1) = (s : Int) + 1 := IntWalk.i64_in _ (by omega)
              obtain ⟨W8, hW8⟩ : ∃ W, wr.setCell ⟨Bx, 0, none⟩ (.slice an nx.length cn) = W := ⟨_, rfl⟩
              have hz8 : W8.heap.size = wr.heap.size := by rw [← hW8]; simp
              have hx8 : VRow 28 W8 Bx [.slice an nx.length cn] := by rw [← hW8]; exact hbx.set 0 _
              have hc8 : W8.cell? ⟨Bx, 0, none⟩ = some (.slice an nx.length cn) := hx8.cell rfl
              have hr8 : VRow 3 W8 (w.heap.size + 1) ((setAll s f nx).map (Value.int .i64)) := by rw [← hW8]; exact (Below.heap_setCell wr ⟨Bx, 0, none⟩ _ (w.heap.size + 1) (by simp; omega)).trans hrw
              have ho8 : W8.ownsRow W5.heap.size 3 1 (.slice an nx.length cn) nx.length ((intsB nx).map (Value.int .i64)) := by
                rw [← hW8]
                exact ownsRow_fr hon (Fr.setCell (S := fun q => q = Bx) (p := ⟨Bx, 0, none⟩) (Fr.refl wr.heap.size _ wr) (fun _ => rfl) _) (fun q hq => ⟨(hon.lt q hq).2, fun e => by have := (hon.lt q hq).1; omega⟩)
              have hb8 : Below w.heap.size w W8 := by rw [← hW8]; exact hbj.setCell (p := ⟨Bx, 0, none⟩) (by simp; omega) _
              obtain ⟨W9, hW9⟩ : ∃ W, W8.alloc (.cells #[.slice an nx.length cn] 28) = W := ⟨_, rfl⟩
              have hA9 : Below W8.heap.size W8 W9 := hW9 ▸ (Below.refl _ W8).alloc (Nat.le_refl _) _
              have hx9 : VRow 28 W9 wr.heap.size [.slice an nx.length cn] := by rw [← hz8]; exact hW9 ▸ heap_alloc_here W8 _
              have HS9 : Hid (FSt w W9 E i tg (s + 1) wr.heap.size (setAll s f nx) nx) := Lib.hid ⟨HST1.out, by omega, hr8.below0 hA9, ⟨an, cn, hx9, (reads_ints ho8).below0 hA9⟩, by have := hbx.lt; omega, hb8.trans (hA9.mono hb8.size)⟩
              clear hrw hon hbx hbj hx8 hr8 ho8 hb8 hA9 hx9
              go_wp2
              go_roundw
              case rel => exact ⟨s + 1, wr.heap.size, setAll s f nx, nx, by go_num, rfl, HS9.out⟩
              case measure => simp [intOf]; omega
end Go.Proofs.YtmlmogllgnfklaaGreatDoor
