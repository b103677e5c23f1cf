/-
  Package want: the asker. Package graph: order of those that are so. Package graph: Part of a right sheet.
-/
import Derived.Test.YtgjialbmlhbngaaGreatDoorPkI
import Derived.Test.YtgjialbmlhbngaaGreatDoorPkH
import Derived.Test.YtgjialbmlhbngaaGreatDoorPkL
import Derived.Test.YtgjialbmlhbngaaGreatDoorPkM
import Derived.Laws.CopyOwn
import Derived.BigQuiet
import Derived.Deep.RegionHeld3
import Derived.Test.YtgjialbmlhbngaaGreatDoorPkG

set_option maxRecDepth 100000
namespace Go.Proofs.YtgjialbmlhbngaaGreatDoor
open Go Go.RowKit Go.Kf Go.Sort Go.Proofs
theorem order1_any (n : Nat) (out : List Nat) (B g j : Nat) (hj : j < n) (w : World) (hB : w.cell? ⟨B, 0, none⟩ = some (.slice (some ⟨g, 0, none⟩) n n)) (hg : Bits w g (bitsOf n out)) :
    Calls Tryz.prog 192 #[intE j, .pointer (some ⟨B, 0, none⟩)] w fun e w' => e = .returned (.bool (!out.contains j)) ∧ w' = w := by
  have hix := idx_at (P := Tryz.prog) (T := 156) (E := 4) Tryz.underlying156 (by kernel_rfl) g n n j hj
  have hc := hg.at (k := j) (by rw [bitsOf_len]; exact hj)
  rw [bitsOf_at] at hc
  have hjn : ((j : Int) < (n : Int)) = True := eq_true (by omega)
  generalize out.contains j = b at *
  clear hg
  go_enter Tryz.func192, Tryz.ntmps192
  go_wp2
  go_ret
  trivial
structure OSt (w : World) (B : Nat) (wl : World) (n : Nat) (out : List Nat) (ov : Value) : Prop where
  own : wl.ownsRow (w.heap.size + 2) 3 1 ov out.length ((intsB out).map (Value.int .i64))
  bits : Bits wl w.heap.size (bitsOf n out)
  box : wl.cell? ⟨B, 0, none⟩ = some (.slice (some ⟨w.heap.size, 0, none⟩) n n)
  below : Below w.heap.size w wl
  size : w.heap.size + 2 ≤ wl.heap.size
theorem OSt.step {w wl w5 : World} {B n k q : Nat} {out : List Nat} {ov v5 : Value} (h : OSt w B wl n out ov) (hB : B = w.heap.size + 1)
    (ho : w5.ownsRow (w.heap.size + 2) 3 1 v5 (out.length + 1) ((intsB out).map (Value.int .i64) ++ [intE k]))
    (hg : (((wl.drewN q).setCell ⟨w.heap.size, k, none⟩ (.bool true)).alloc (.cells #[intE k] 3)).grownBy w5 ov.ownBlock) : OSt w B w5 n (out ++ [k]) v5 := by
  have h0 : Bits ((wl.drewN q).setCell ⟨w.heap.size, k, none⟩ (.bool true)) w.heap.size (bitsOf n (out ++ [k])) := by
    rw [← bitsOf_set]
    exact Bits.put (w := wl.drewN q) h.bits k true
  have h1 := VRow.below0 h0 ((Below.refl _ _).alloc (Nat.le_refl _) (.cells #[intE k] 3))
  have hl : ∀ b, ov.ownBlock = some b → w.heap.size + 2 ≤ b := fun b hb => (h.own.lt b hb).1
  refine ⟨?_, h1.fr (Fr.of_grown hg) h1.lt (fun e => by have := hl _ e; omega), ?_, ?_, ?_⟩
  · simpa [intsB] using ho
  · refine ((Fr.of_grown hg).cell (p := ⟨B, 0, none⟩) ?_ (fun e => by have h3 : w.heap.size + 2 ≤ B := hl _ e; omega)).trans ?_
    · have := h.size
      simp
      omega
    · rw [World.cell?_of_block (w := wl) (a := ⟨B, 0, none⟩)]
      · exact h.box
      · rw [Below.heap_alloc _ _ _ (by have := h.size; show B < _; simp; omega), Below.heap_setCell _ _ _ _ (by show B ≠ _; simp; omega)]
        rfl
  · refine Below.grown ?_ hg ?_ (fun b hb => Nat.le_trans (by omega) (hl b hb))
    · exact (((below_drewN h.below q).setCell (p := ⟨w.heap.size, k, none⟩) (Nat.le_refl _) _).alloc (by have := h.size; simp; omega) _)
    · have := h.size; simp; omega
  · have := h.size
    have h2 := (Fr.of_grown hg).size
    simp at h2
    omega
set_option maxHeartbeats 4000000 in
theorem order_any (v : Value) (n : Nat) (E : Nat → List Nat) (isB : Nat → Bool) (f : Nat) (L : Array Value) (w : World) (hv : EdgesV w v n E) (hE : ∀ i, ∀ k ∈ E i, k < n) (hp : PredI isB f L (List.range n) w) (hn : n ≤ 1000) :
    Calls Tryz.prog 135 #[v, .func (.func f) #[] L] w fun e w' =>
      ((∃ o u, orderB E isB n = some o ∧ e = .returned (.tuple #[u, .bool true]) ∧ w'.ownsRow w.heap.size 3 1 u o.length ((intsB o).map (Value.int .i64))) ∨
       (orderB E isB n = none ∧ e = .returned (.tuple #[.slice none 0 0, .bool false]))) ∧ Below w.heap.size w w' := by
  obtain ⟨vs, hrv, hvl, -⟩ := id hv
  obtain ⟨a, c, hv0, hle, -⟩ := id hrv
  subst hv0
  rw [hvl] at *
  have eg := hp.1
  have HP := Hd hp.2
  have HV := Hd hv
  have HE := Hd hE
  have hmk := make_bools n (by omega) w
  obtain ⟨W1, hW1⟩ : ∃ W, w.alloc (.cells ((List.replicate n false).map Value.bool).toArray 4) = W := ⟨_, rfl⟩
  have hA : Below w.heap.size w W1 := hW1 ▸ (Below.refl _ w).alloc (Nat.le_refl _) _
  have hb0 : Bits W1 w.heap.size (bitsOf n []) := by
    rw [bitsOf_nil, ← hW1]
    exact heap_alloc_here w _
  have hz1 : W1.heap.size = w.heap.size + 1 := by rw [← hW1]; simp
  rw [hW1] at hmk
  obtain ⟨W2, hW2⟩ : ∃ W, W1.alloc (.cells #[.slice (some ⟨w.heap.size, 0, none⟩) n n] 156) = W := ⟨_, rfl⟩
  have hA2 : Below w.heap.size w W2 := hW2 ▸ hA.alloc (by omega) _
  have hb2 : Bits W2 w.heap.size (bitsOf n []) := hW2 ▸ (hb0.below0 ((Below.refl _ W1).alloc (Nat.le_refl _) _))
  have hq2 : W2.cell? ⟨w.heap.size + 1, 0, none⟩ = some (.slice (some ⟨w.heap.size, 0, none⟩) n n) := by rw [← hz1, ← hW2, cell_of_heap (heap_alloc_here W1 _)]; rfl
  have hz2 : W2.heap.size = w.heap.size + 2 := by rw [← hW2]; simp [hz1]
  have HA := Hd hA2
  have HB := Hd hb2
  have HQ := Hd hq2
  clear hv hE hp hrv hA hb0 hA2 hb2 hq2 hvl
  go_enter Tryz.func135, Tryz.ntmps135
  go_wp2_with fail
  go_loopw [8, 17] (fun mv iv wl => ∃ i : Nat, i ≤ n ∧ iv = .int .i64 i ∧ mv = .int .i64 (manyB isB i : Nat) ∧ ∃ q, wl = W2.drewN q) (fun _ iv _ => n - (intOf iv).toNat)
  case atStart => exact ⟨0, by omega, rfl, rfl, 0, rfl⟩
  case round =>
    obtain ⟨i, hi, rfl, rfl, q, rfl⟩ := hrel
    have hbi := below_drewN HA.out q
    by_cases hlt : i < n
    · have hlc : ((i : Int) < (n : Int)) = True := eq_true (by omega)
      have hms := manyB_succ isB i
      have hml := manyB_le isB i
      have K := Hd (HP.out (W2.drewN q) i (List.mem_range.2 hlt) hbi)
      cases hb : isB i with
      | true =>
        rw [hb] at K hms
        simp only [if_true] at hms
        generalize manyB isB i = m at *
        go_wp2_with fail
        refine K.out.mono ?_
        rintro e w3 ⟨rfl, q2, rfl⟩
        go_wp2
        go_roundw
        case rel => exact ⟨i + 1, by omega, by go_num, by rw [hms]; go_num, q + q2, rfl⟩
        case measure => simp [intOf]; omega
      | false =>
        rw [hb] at K hms
        simp only [Bool.false_eq_true, if_false, Nat.add_zero] at hms
        generalize manyB isB i = m at *
        go_wp2_with fail
        refine K.out.mono ?_
        rintro e w3 ⟨rfl, q2, rfl⟩
        go_wp2
        go_roundw
        case rel => exact ⟨i + 1, by omega, by go_num, by rw [hms], q + q2, rfl⟩
        case measure => simp [intOf]; omega
    · obtain rfl : n = i := by omega
      have hlc : ((n : Int) < (n : Int)) = False := eq_false (by omega)
      have hml := manyB_le isB n
      have HOB : Hid (orderB E isB n = orderGo E isB n (manyB isB n) []) := Hd rfl
      generalize hm : manyB isB n = m at *
      clear hm hlt hi
      have HBI := Hd hbi
      clear hbi
      go_wp2_with fail
      go_loopw [7] (fun ov wl => ∃ out : List Nat, out.length ≤ m ∧ OSt w (w.heap.size + 1) wl n out ov ∧ orderB E isB n = orderGo E isB n (m - out.length) out) (fun ov _ => m - lenV ov)
      case atStart => exact ⟨[], by simp, ⟨World.ownsRow_nil _ _ _ _, HB.out, HQ.out, HBI.out, by simp [hz2]⟩, by rw [HOB.out]; rfl⟩
      case round =>
        obtain ⟨out, hol, hst, hgo⟩ := hrel
        obtain ⟨ao, co, hov⟩ : ∃ ao co, u7 = .slice ao out.length co := by
          rcases hst.own.2 with ⟨e, h0⟩ | ⟨g, cap, _, e, -⟩
          · exact ⟨none, 0, by rw [e, h0]⟩
          · exact ⟨_, _, e⟩
        subst hov
        have HST := Hd hst
        have HGO := Hd hgo
        have hcq := hst.box
        have hfz : ∀ i, wr.frozen? ⟨w.heap.size, i, none⟩ = false := hst.bits.frozen
        by_cases hlm : out.length < m
        · have hlc2 : ((out.length : Int) < (m : Int)) = True := eq_true (by omega)
          have HEV := Hd (HV.out.below0 hst.below)
          have HBT : Hid (∀ i, i < n → wr.cell? ⟨w.heap.size, i, none⟩ = some (.bool (out.contains i))) := Hd (fun i hi => by
            have := hst.bits.at (k := i) (by rw [bitsOf_len]; exact hi)
            rw [bitsOf_at] at this
            exact this)
          have HPD : Hid (∀ i, i < n → ∀ q, PredI (fun j => !out.contains j) 192 #[.pointer (some ⟨w.heap.size + 1, 0, none⟩)] (E i) (wr.drewN q)) := Hd (fun i hi q => ⟨fun _ _ => rfl, fun W x hx hb => fnGives_drew (order1_any n out (w.heap.size + 1) w.heap.size x (HE.out i x hx) W
            ((hb.cell (p := ⟨w.heap.size + 1, 0, none⟩) (by have := hst.size; simp; omega)).trans hst.box) (VRow.below0 (w := wr.drewN q) hst.bits hb))⟩)
          have HBL : Hid (∀ q, Below w.heap.size w (wr.drewN q)) := Hd (fun q => below_drewN hst.below q)
          have HKA : Hid (∀ i, i < n → ∀ ue, Reads wr ue ((E i).map intE) → Hid (∀ q', Calls Tryz.prog 191 #[ue, .func (.func 192) #[] #[.pointer (some ⟨w.heap.size + 1, 0, none⟩)]] (wr.drewN q') fun e w' => e = .returned (.bool ((E i).any fun j => !out.contains j)) ∧ ∃ q, w' = (wr.drewN q').drewN q)) := Hd (fun i hi ue hre => Hd (fun q' =>
            anyInt_any _ _ _ _ (E i) _ (hre.below0 (below_drewN (Below.refl _ _) q')) (HPD.out i hi q')))
          clear hst hgo
          go_wp2_with fail
          go_loopw [10, 32] (fun kv iv wl => ∃ i : Nat, i ≤ n ∧ iv = .int .i64 i ∧ kv = .int .i64 (-1) ∧ (∀ j, j < i → candB E isB out j = false) ∧ ∃ q, wl = wr.drewN q) (fun _ iv _ => n - (intOf iv).toNat)
          case atStart => exact ⟨0, by omega, rfl, rfl, fun j h => by omega, 0, rfl⟩
          case round =>
            obtain ⟨i, hi, rfl, rfl, hno, q, rfl⟩ := hrel
            have HNO := Hd hno
            clear hno
            by_cases hlt : i < n
            · have hlc3 : ((i : Int) < (n : Int)) = True := eq_true (by omega)
              have K := Hd (HP.out _ i (List.mem_range.2 hlt) (HBL.out q))
              have hnn : ∀ h : candB E isB out i = false, ∀ j, j < i + 1 → candB E isB out j = false := fun h j hj => by
                by_cases hji : j = i
                · exact hji ▸ h
                · exact HNO.out j (by omega)
              have HNN := Hd hnn
              clear hnn
              cases hb : isB i with
              | false =>
                rw [hb] at K
                have HC : Hid (candB E isB out i = false) := Hd (by simp [candB, hb])
                clear hb
                go_wp2_with fail
                refine K.out.mono ?_
                rintro e w3 ⟨rfl, q2, rfl⟩
                go_wp2
                go_roundw
                case rel => exact ⟨i + 1, by omega, by go_num, rfl, HNN.out HC.out, q + q2, rfl⟩
                case measure => simp [intOf]; omega
              | true =>
                rw [hb] at K
                have hcb := HBT.out i hlt
                have hixb := idx_at (P := Tryz.prog) (T := 156) (E := 4) Tryz.underlying156 (by kernel_rfl) w.heap.size n n i hlt
                cases hdn : out.contains i with
                | true =>
                  rw [hdn] at hcb
                  have HC : Hid (candB E isB out i = false) := Hd (by simp [candB]; intro _ h; rw [List.contains_iff_mem] at hdn; exact absurd hdn h)
                  clear hb hdn
                  go_wp2_with fail
                  refine K.out.mono ?_
                  rintro e w3 ⟨rfl, q2, rfl⟩
                  go_wp2
                  go_roundw
                  case rel => exact ⟨i + 1, by omega, by go_num, rfl, HNN.out HC.out, q + q2, rfl⟩
                  case measure => simp [intOf]; omega
                | false =>
                  rw [hdn] at hcb
                  obtain ⟨-, -, be, oe, ue, hixe, hce, hre⟩ := HEV.out.at hlt
                  have KA := HKA.out i hlt ue hre
                  clear hre
                  cases hany : (E i).any fun j => !out.contains j with
                  | true =>
                    rw [hany] at KA
                    have HC : Hid (candB E isB out i = false) := Hd (by simp only [candB, hany]; simp)
                    clear hb hdn hany
                    go_wp2_with fail
                    refine K.out.mono ?_
                    rintro e w3 ⟨rfl, q2, rfl⟩
                    go_wp2_with fail
                    refine (KA.out (q + q2)).mono ?_
                    rintro e w4 ⟨rfl, q4, rfl⟩
                    go_wp2
                    go_roundw
                    case rel => exact ⟨i + 1, by omega, by go_num, rfl, HNN.out HC.out, q + q2 + q4, rfl⟩
                    case measure => simp [intOf]; omega
                  | false =>
                    rw [hany] at KA
                    have hcd : candB E isB out i = true := by simp only [candB, hb, hdn, hany]; rfl
                    have HNX : Hid (orderB E isB n = orderGo E isB n (m - (out.length + 1)) (out ++ [i])) := Hd (by
                      rw [HGO.out, show m - out.length = (m - (out.length + 1)) + 1 by omega]
                      exact orderGo_some (nextB_hit hlt hcd HNO.out))
                    have HO5 : Hid (∀ Q, ((wr.drewN Q).setCell ⟨w.heap.size, i, none⟩ (.bool true)).ownsRow (w.heap.size + 2) 3 1 (.slice ao out.length co) out.length ((intsB out).map (Value.int .i64))) := Hd (fun Q =>
                      ownsRow_fr HST.out.own (Fr.setCell (S := fun k => k = w.heap.size) (p := ⟨w.heap.size, i, none⟩) ((Fr.refl wr.heap.size _ wr).drewN Q) (fun _ => rfl) _) (fun k hk => ⟨(HST.out.own.lt k hk).2, fun e => by have := (HST.out.own.lt k hk).1; omega⟩))
                    have hzr := HST.out.size
                    clear hb hdn hany hcd
                    have hi0 : ((i : Int) < 0) = False := eq_false (by omega)
                    go_wp2_with fail
                    refine K.out.mono ?_
                    rintro e w3 ⟨rfl, q2, rfl⟩
                    go_wp2_with fail
                    refine (KA.out (q + q2)).mono ?_
                    rintro e w4 ⟨rfl, q4, rfl⟩
                    go_wp2_with (first
                      | (at_builtin
                         refine wpList_app _ rfl _ _ 53 rfl tyInts (w.heap.size + 2) _ _ _ rfl ((HO5.out (q + q2 + q4)).alloc _) ⟨wr.heap.size, 0, none⟩ 1 1 [intE i] rfl rfl (news_one ?_) ?_ (by decide) ?_ ?_ ?_
                         · have e := heap_alloc_here ((wr.drewN (q + q2 + q4)).setCell ⟨w.heap.size, i, none⟩ (.bool true)) (.cells #[intE i] 3)
                           rw [show ((wr.drewN (q + q2 + q4)).setCell ⟨w.heap.size, i, none⟩ (.bool true)).heap.size = wr.heap.size by simp] at e
                           rw [cell_of_heap e]; rfl
                         · intro u hu; simp at hu; subst hu; rfl
                         · omega
                         · simp; omega
                         intro v6 w6 ho6 hg6 hloc6
                         have HST6 := Hd (HST.out.step rfl (k := i) (q := q + q2 + q4) ho6 hg6)
                         obtain ⟨g6, cap6, rfl⟩ := ownsRow_some ho6 (by omega)
                         clear ho6 hg6 hloc6))
                    go_wp2
                    go_roundw
                    case rel => exact ⟨out ++ [i], by simp; omega, HST6.out, by rw [List.length_append, List.length_singleton]; exact HNX.out⟩
                    case measure => show m - (out.length + 1) < m - out.length; omega
            · obtain rfl : n = i := by omega
              have hlc3 : ((n : Int) < (n : Int)) = False := eq_false (by omega)
              have HF : Hid (orderB E isB n = none) := Hd (by
                rw [HGO.out, show m - out.length = (m - out.length - 1) + 1 by omega]
                exact orderGo_none (nextB_miss HNO.out))
              have HBq := Hd (HBL.out q)
              go_wp2
              go_ret2
              exact ⟨Or.inr ⟨HF.out, rfl⟩, HBq.out⟩
        · have hlc2 : ((out.length : Int) < (m : Int)) = False := eq_false (by omega)
          have HF : Hid (orderB E isB n = some out) := Hd (by
            rw [hgo, show m - out.length = 0 by omega]; rfl)
          clear hst hgo hcq hfz
          go_wp2
          go_ret2
          exact ⟨Or.inl ⟨out, _, HF.out, rfl, ownsRow_base HST.out.own (by omega)⟩, HST.out.below⟩
theorem gpart1_any (N : List Nat) (vs : Value) (B j : Nat) (w : World) (hB : w.cell? ⟨B, 0, none⟩ = some vs) (hr : Reads w vs (N.map intE)) :
    Calls Tryz.prog 151 #[intE j, .pointer (some ⟨B, 0, none⟩)] w fun e w' => e = .returned (.bool (N.contains j)) ∧ w' = w := by
  have K := Hd (containsInt_any j vs N w hr)
  clear hr
  go_enter Tryz.func151, Tryz.ntmps151
  go_wp2_with fail
  refine K.out.mono ?_
  rintro e w' ⟨rfl, rfl⟩
  go_wp2
  go_ret
  exact ⟨by simp, rfl⟩
def PartAns (S : Nat → Addr) (l : List RuleL) (N : List Nat) (B : Nat) (e : Ending) (w' : World) : Prop :=
  (∃ o u, orderB (edgesB l) (fun i => N.contains i) l.length = some o ∧ e = .returned (.tuple #[u, .nilIface]) ∧ w'.ownsRow B 3 1 u o.length ((intsB o).map (Value.int .i64))) ∨
  (orderB (edgesB l) (fun i => N.contains i) l.length = none ∧ e = .returned (.tuple #[.slice none 0 0, errI (S 8)]))
set_option maxHeartbeats 4000000 in
theorem gpart_any (R : List RV) (v : Value) (N : List Nat) (vs : Value) (w : World) (S : Nat → Addr) (hR : RulesAt w v R) (hri : Right (R.map Prod.fst)) (hs : Reads w vs (N.map intE)) (hE : KErr w S) (hb : ∀ x ∈ R, x.1.ins.length ≤ 1000) (hn : R.length ≤ 1000) :
    Calls Tryz.prog 84 #[v, vs] w fun e w' => PartAns S (R.map Prod.fst) N w.heap.size e w' ∧ Below w.heap.size w w' := by
  obtain ⟨a, c, hv, -, -⟩ := id hR.1
  rw [List.length_map] at hv
  subst hv
  obtain ⟨aw, cw, hvs, -, -⟩ := id hs
  rw [List.length_map] at hvs
  subst hvs
  obtain ⟨W0, hW0⟩ : ∃ W, w.alloc (.cells #[.slice aw N.length cw] 53) = W := ⟨_, rfl⟩
  have hA0 : Below w.heap.size w W0 := hW0 ▸ (Below.refl _ w).alloc (Nat.le_refl _) _
  have hz0 : w.heap.size < W0.heap.size := by rw [← hW0]; simp
  have hg0 : W0.heap[w.heap.size]? = some (.cells #[.slice aw N.length cw] 53 (0, 0)) := hW0 ▸ heap_alloc_here w _
  have HBX := Hd (fun wl (hb : Below W0.heap.size W0 wl) => ((cell_of_heap ((hb.block _ hz0).trans hg0) 0).trans rfl : wl.cell? ⟨w.heap.size, 0, none⟩ = some (.slice aw N.length cw)))
  have HSR := Hd (fun wl (hb : Below W0.heap.size W0 wl) => (hs.below0 hA0).below0 hb)
  have KE := Hd (edges_any R (.slice a R.length c) W0 (hR.below0 hA0) hri (by omega) hb)
  have HE := Hd (hE.below hA0 (Nat.le_refl _))
  have HA := Hd hA0
  have hml : (R.map Prod.fst).length = R.length := List.length_map _
  have HML := Hd hml
  clear hR hri hs hE hb hml hA0 hg0
  go_enter Tryz.func84, Tryz.ntmps84
  go_wp2_with fail
  refine KE.out.mono ?_
  rintro e w2 ⟨ev, rfl, hea, hb2⟩
  have hev : EdgesV w2 ev R.length (edgesB (R.map Prod.fst)) := by
    have := hea.view (by rw [HML.out]; omega)
    rw [HML.out] at this
    exact this
  have HB2 := Hd hb2
  have KO := Hd (order_any ev R.length (edgesB (R.map Prod.fst)) (fun i => N.contains i) 151 #[.pointer (some ⟨w.heap.size, 0, none⟩)] w2 hev (fun i k hk => by have h := edges_lt _ i k hk; rw [HML.out] at h; exact h)
    ⟨fun _ _ => rfl, fun W x _ hW => fnGives_drew (gpart1_any N _ w.heap.size x W (HBX.out W (hb2.trans (hW.mono hb2.size))) (HSR.out W (hb2.trans (hW.mono hb2.size))))⟩ (by omega))
  clear hea hb2 hev KE
  go_wp2_with fail
  refine KO.out.mono ?_
  rintro e w3 ⟨⟨o, u, ho, rfl, how⟩ | ⟨ho, rfl⟩, hb3⟩
  · have HO := Hd ho
    have HOW := Hd how
    have hz2 := HB2.out.size
    have HB3 := Hd (HA.out.trans ((HB2.out.trans (hb3.mono HB2.out.size)).mono HA.out.size))
    clear ho how hb3 KO
    go_wp2
    go_ret2
    exact ⟨Or.inl ⟨o, u, by rw [HML.out]; exact HO.out, rfl, ownsRow_base HOW.out (by omega)⟩, HB3.out⟩
  · have HO := Hd ho
    have hb03 := HB2.out.trans (hb3.mono HB2.out.size)
    have HB3 := Hd (HA.out.trans (hb03.mono HA.out.size))
    have hcy := (HE.out.below hb03 (Nat.le_refl _)).cycle
    clear ho hb3 KO hb03
    go_wp2_with fail
    go_quiet (fail)
    go_wp2
    go_ret2
    exact ⟨Or.inr ⟨by rw [HML.out]; exact HO.out, rfl⟩, by first | exact HB3.out | exact HB3.out.drew | exact below_drewN HB3.out _⟩
end Go.Proofs.YtgjialbmlhbngaaGreatDoor
