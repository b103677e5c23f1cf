/-
  The reference's order, in plain words. LongTexts at any texts. The laws' LongRules and OwnRules at any rules. What the laws of what is wanted stand on. What is wanted of files, by rules, in plain words.
-/
import Derived.Test.YtgjialbmlhbngaaGreatDoorPkH
import Derived.Test.YtgjialbmlhbngaaGreatDoorPkG
import Derived.Test.YtgjialbmlhbngaaGreatDoorPkC
import Derived.Test.YtgjialbmlhbngaaGreatDoorPkF
import Derived.Test.YtgjialbmlhbngaaGreatDoorPkE

set_option maxRecDepth 100000
namespace Go.Proofs.YtgjialbmlhbngaaGreatDoor
open Go Go.RowKit Go.Kf Go.Sort Go.Proofs
def freeB (l : List RuleL) (out : List Nat) (i k : Nat) : Bool := (List.range k).all fun j => out.contains j || !needB l i j
theorem freeB_succ (l : List RuleL) (out : List Nat) (i k : Nat) : freeB l out i (k + 1) = (freeB l out i k && (out.contains k || !needB l i k)) := by
  unfold freeB
  rw [List.range_succ, List.all_append]
  simp
theorem cand_free (l : List RuleL) (isB : Nat → Bool) (out : List Nat) (i : Nat) : candB (edgesB l) isB out i = (isB i && (!out.contains i && freeB l out i l.length)) := by
  rw [Bool.eq_iff_iff, candB_iff, Bool.and_eq_true, Bool.and_eq_true]
  unfold freeB
  rw [List.all_eq_true]
  constructor
  · rintro ⟨h0, h1, h2⟩
    refine ⟨h0, by simpa using h1, fun j hj => ?_⟩
    by_cases hn : needB l i j = true
    · have := h2 j (List.mem_filter.2 ⟨hj, hn⟩)
      simp [this]
    · rw [Bool.eq_false_iff.2 hn]
      simp
  · rintro ⟨h0, h1, h2⟩
    refine ⟨h0, by simpa using h1, fun j hj => ?_⟩
    obtain ⟨h3, h4⟩ := List.mem_filter.1 hj
    have := h2 j h3
    rw [h4] at this
    simpa using this
def leftB (isB : Nat → Bool) (out : List Nat) (i : Nat) : Bool := (List.range i).any fun j => isB j && !out.contains j
theorem leftB_succ (isB : Nat → Bool) (out : List Nat) (i : Nat) : leftB isB out (i + 1) = (leftB isB out i || (isB i && !out.contains i)) := by
  unfold leftB
  rw [List.range_succ, List.any_append]
  simp
def NextSt (C : Nat → Bool) (i : Nat) (z : Int) : Prop := (z = -1 ∧ ∀ j, j < i → C j = false) ∨ ∃ k : Nat, k < i ∧ z = k ∧ C k = true ∧ ∀ j, j < k → C j = false
theorem NextSt.zero (C : Nat → Bool) : NextSt C 0 (-1) := Or.inl ⟨rfl, fun j h => absurd h (Nat.not_lt_zero j)⟩
theorem NextSt.skip {C : Nat → Bool} {i : Nat} {z : Int} (h : NextSt C i z) (hc : C i = false) : NextSt C (i + 1) z := by
  rcases h with ⟨h1, h2⟩ | ⟨k, h1, h2, h3, h4⟩
  · refine Or.inl ⟨h1, fun j hj => ?_⟩
    by_cases hji : j = i
    · exact hji ▸ hc
    · exact h2 j (by omega)
  · exact Or.inr ⟨k, by omega, h2, h3, h4⟩
theorem NextSt.keep {C : Nat → Bool} {i : Nat} {z : Int} (h : NextSt C i z) (hz : 0 ≤ z) : NextSt C (i + 1) z := by
  rcases h with ⟨h1, -⟩ | ⟨k, h1, h2, h3, h4⟩
  · omega
  · exact Or.inr ⟨k, by omega, h2, h3, h4⟩
theorem NextSt.take {C : Nat → Bool} {i : Nat} {z : Int} (h : NextSt C i z) (hz : z < 0) (hc : C i = true) : NextSt C (i + 1) i := by
  rcases h with ⟨-, h2⟩ | ⟨k, h1, h2, -⟩
  · exact Or.inr ⟨i, by omega, rfl, hc, h2⟩
  · omega
def OrdR (l : List RuleL) (isB : Nat → Bool) (out : List Nat) : Prop := Outs (edgesB l) isB l.length out ∧ orderB (edgesB l) isB l.length = orderGo (edgesB l) isB l.length (manyB isB l.length - out.length) out
theorem OrdR.zero (l : List RuleL) (isB : Nat → Bool) : OrdR l isB [] := ⟨outs_nil _ _ _, rfl⟩
theorem outs_room {E : Nat → List Nat} {isB : Nat → Bool} {n j : Nat} {out : List Nat} (h : Outs E isB n out) (hj : j < n) (hb : isB j = true) (hm : j ∉ out) : out.length < manyB isB n := by
  have := nodup_sub (j :: out) ((List.range n).filter isB) (List.nodup_cons.2 ⟨hm, h.nd⟩) (fun k hk => by
    rcases List.mem_cons.1 hk with rfl | hk
    · exact List.mem_filter.2 ⟨List.mem_range.2 hj, hb⟩
    · exact List.mem_filter.2 ⟨List.mem_range.2 (h.lt k hk).1, (h.lt k hk).2⟩)
  simp only [List.length_cons] at this
  exact this
theorem many_le (isB : Nat → Bool) (n : Nat) : manyB isB n ≤ n := by
  unfold manyB
  exact Nat.le_trans (List.length_filter_le _ _) (by simp)
theorem OrdR.left {l : List RuleL} {isB : Nat → Bool} {out : List Nat} (h : OrdR l isB out) (hl : leftB isB out l.length = true) : out.length < manyB isB l.length := by
  obtain ⟨j, hj, hm⟩ := List.any_eq_true.1 hl
  rw [Bool.and_eq_true] at hm
  exact outs_room h.1 (List.mem_range.1 hj) hm.1 (fun hm2 => by rw [List.contains_iff_mem.2 hm2] at hm; cases hm.2)
theorem OrdR.done {l : List RuleL} {isB : Nat → Bool} {out : List Nat} (h : OrdR l isB out) (hl : leftB isB out l.length = false) : orderB (edgesB l) isB l.length = some out := by
  have hall : ∀ j, j < l.length → isB j = true → j ∈ out := fun j hj hb => by
    have := List.any_eq_false.1 hl j (List.mem_range.2 hj)
    rw [hb] at this
    simpa using this
  have h1 := nodup_sub ((List.range l.length).filter isB) out (List.Pairwise.filter _ List.nodup_range) (fun j hj => by
    obtain ⟨h1, h2⟩ := List.mem_filter.1 hj
    exact hall j (List.mem_range.1 h1) h2)
  have h1' : manyB isB l.length ≤ out.length := h1
  rw [h.2, show manyB isB l.length - out.length = 0 by omega]
  rfl
theorem OrdR.none {l : List RuleL} {isB : Nat → Bool} {out : List Nat} (h : OrdR l isB out) (hl : leftB isB out l.length = true) (hn : NextSt (candB (edgesB l) isB out) l.length (-1)) : orderB (edgesB l) isB l.length = none := by
  have h1 := h.left hl
  rcases hn with ⟨-, h2⟩ | ⟨k, -, h2, -⟩
  · rw [h.2, show manyB isB l.length - out.length = (manyB isB l.length - out.length - 1) + 1 by omega]
    exact orderGo_none (nextB_miss h2)
  · omega
theorem OrdR.step {l : List RuleL} {isB : Nat → Bool} {out : List Nat} {k : Nat} (h : OrdR l isB out) (hl : leftB isB out l.length = true) (hn : NextSt (candB (edgesB l) isB out) l.length (k : Int)) : k < l.length ∧ OrdR l isB (out ++ [k]) := by
  have h1 := h.left hl
  rcases hn with ⟨h2, -⟩ | ⟨j, h2, h3, h4, h5⟩
  · omega
  · obtain rfl : k = j := by omega
    refine ⟨h2, h.1.add h2 h4, ?_⟩
    rw [h.2, show manyB isB l.length - out.length = (manyB isB l.length - (out.length + 1)) + 1 by omega, orderGo_some (nextB_hit h2 h4 h5), List.length_append, List.length_singleton]
structure RSt (w : World) (wl : World) (n : Nat) (out : List Nat) (ov : Value) : Prop where
  own : wl.ownsRow (w.heap.size + 1) 3 1 ov out.length ((intsB out).map (Value.int .i64))
  bits : Bits wl w.heap.size (bitsOf n out)
  below : Below w.heap.size w wl
theorem RSt.size {w wl : World} {n : Nat} {out : List Nat} {ov : Value} (h : RSt w wl n out ov) : w.heap.size + 1 ≤ wl.heap.size := VRow.lt h.bits
theorem RSt.keep {w wl w2 : World} {n : Nat} {out : List Nat} {ov : Value} (h : RSt w wl n out ov) (hb : Below wl.heap.size wl w2) : RSt w w2 n out ov :=
  ⟨ownsRow_fr (S := fun _ => False) h.own (Fr.of_below hb) (fun k hk => ⟨(h.own.lt k hk).2, id⟩), VRow.below0 h.bits hb, h.below.trans (hb.mono (by have := h.size; omega))⟩
theorem RSt.step {w wl w5 : World} {n k : Nat} {out : List Nat} {ov v5 : Value} (h : RSt w wl n out ov)
    (ho : w5.ownsRow (w.heap.size + 1) 3 1 v5 (out.length + 1) ((intsB out).map (Value.int .i64) ++ [intE k]))
    (hg : ((wl.setCell ⟨w.heap.size, k, none⟩ (.bool true)).alloc (.cells #[intE k] 3)).grownBy w5 ov.ownBlock) : RSt w w5 n (out ++ [k]) v5 := by
  have h0 : Bits (wl.setCell ⟨w.heap.size, k, none⟩ (.bool true)) w.heap.size (bitsOf n (out ++ [k])) := by
    rw [← bitsOf_set]
    exact Bits.put h.bits k true
  have h1 := VRow.below0 h0 ((Below.refl _ _).alloc (Nat.le_refl _) (.cells #[intE k] 3))
  have hl : ∀ b, ov.ownBlock = some b → w.heap.size + 1 ≤ b := fun b hb => (h.own.lt b hb).1
  refine ⟨by simpa [intsB] using ho, h1.fr (Fr.of_grown hg) h1.lt (fun e => by have := hl _ e; omega), ?_⟩
  refine Below.grown ?_ hg ?_ (fun b hb => Nat.le_trans (by omega) (hl b hb))
  · exact ((h.below.setCell (p := ⟨w.heap.size, k, none⟩) (Nat.le_refl _) _).alloc (by have := h.size; simp; omega) _)
  · have := h.size; simp; omega
set_option maxHeartbeats 4000000 in
theorem orderOfP_any (R : List RV) (v : Value) (isB : Nat → Bool) (gs : Nat) (w : World) (hr : ReadsK 4 w v (R.map rvRow)) (hx : ∀ x ∈ R, Reads w x.2 (x.1.ins.map str)) (hs : Bits w gs ((List.range R.length).map isB)) (hn : R.length ≤ 1000) :
    Calls Tryz.prog 89 #[v, .slice (some ⟨gs, 0, none⟩) R.length R.length] w fun e w' =>
      ((∃ o u, orderB (edgesB (R.map Prod.fst)) isB (R.map Prod.fst).length = some o ∧ e = .returned (.tuple #[u, .bool true]) ∧ w'.ownsRow w.heap.size 3 1 u o.length ((intsB o).map (Value.int .i64))) ∨
       (orderB (edgesB (R.map Prod.fst)) isB (R.map Prod.fst).length = none ∧ e = .returned (.tuple #[.slice none 0 0, .bool false]))) ∧ Below w.heap.size w w' := by
  have hrow : ∀ r ∈ R.map rvRow, r ≠ [] := fun r hr => by obtain ⟨x, -, rfl⟩ := List.mem_map.1 hr; simp [rvRow]
  obtain ⟨a, c, hv, hle, -⟩ := id hr
  rw [List.length_map] at hv hle
  subst hv
  have KR := Hd (fun wl (hb : Below w.heap.size w wl) i k (hi : i < R.length) (hk : k < R.length) => needs_any R (.slice a R.length c) i k wl (readsK_below0 hr hrow hb) (fun x h => (hx x h).below0 hb) hi hk)
  have HSB : Hid (∀ wl, Below w.heap.size w wl → ∀ i, i < R.length → wl.cell? ⟨gs, i, none⟩ = some (.bool (isB i))) := Hd (fun wl hb i hi => by
    have h := Bits.at (VRow.below0 hs hb) (k := i) (by simpa using hi)
    simpa using h)
  obtain ⟨L, hL⟩ : ∃ L, R.map Prod.fst = L := ⟨_, rfl⟩
  have hLn : L.length = R.length := by rw [← hL]; simp
  rw [hL] at KR ⊢
  have HLN := Hd hLn
  have hmk := make_bools R.length (by omega) w
  obtain ⟨W1, hW1⟩ : ∃ W, w.alloc (.cells ((List.replicate R.length false).map Value.bool).toArray 4) = W := ⟨_, rfl⟩
  have hA : Below w.heap.size w W1 := hW1 ▸ (Below.refl _ w).alloc (Nat.le_refl _) _
  have hb0 : Bits W1 w.heap.size (bitsOf R.length []) := by
    rw [bitsOf_nil, ← hW1]
    exact heap_alloc_here w _
  rw [hW1] at hmk
  have HA := Hd hA
  have HB := Hd hb0
  have HCF : Hid (∀ out i, candB (edgesB L) isB out i = (isB i && (!out.contains i && freeB L out i R.length))) := Hd (fun out i => by rw [cand_free, hLn])
  clear hr hx hs hL hA hb0 hW1 hLn hrow
  go_enter Tryz.func89, Tryz.ntmps89
  go_wp2_with fail
  go_loopw [6] (fun ov wl => ∃ out : List Nat, OrdR L isB out ∧ RSt w wl R.length out ov) (fun ov _ => R.length - lenV ov)
  case atStart => exact ⟨[], OrdR.zero L isB, World.ownsRow_nil _ _ _ _, HB.out, HA.out⟩
  case round =>
    obtain ⟨out, hor, hst⟩ := hrel
    obtain ⟨W2, rfl⟩ : ∃ W, W = wr := ⟨_, rfl⟩
    obtain ⟨ao, co, hov⟩ : ∃ ao co, u6 = .slice ao out.length co := by
      rcases hst.own.2 with ⟨e, h0⟩ | ⟨g, cap, _, e, -⟩
      · exact ⟨none, 0, by rw [e, h0]⟩
      · exact ⟨_, _, e⟩
    subst hov
    have HOR := Hd hor
    have HST := Hd hst
    have HW : Hid (∀ wl, Below W2.heap.size W2 wl → Below w.heap.size w wl) := Hd (fun wl h => (hst.keep h).below)
    have HBT : Hid (∀ wl, Below W2.heap.size W2 wl → ∀ j, j < R.length → wl.cell? ⟨w.heap.size, j, none⟩ = some (.bool (out.contains j))) := Hd (fun wl hb j hj => by
      have h := Bits.at (hst.keep hb).bits (k := j) (by rw [bitsOf_len]; exact hj)
      rw [bitsOf_at] at h
      exact h)
    clear hor hst
    go_wp2_with fail
    go_loopw [8, 9, 10] (fun zv lv iv wl => ∃ (i : Nat) (z : Int), i ≤ R.length ∧ iv = .int .i64 i ∧ zv = .int .i64 z ∧ NextSt (candB (edgesB L) isB out) i z ∧ lv = .bool (leftB isB out i) ∧ Below W2.heap.size W2 wl) (fun _ _ iv _ => R.length - (intOf iv).toNat)
    case atStart => exact ⟨0, -1, by omega, rfl, rfl, NextSt.zero _, rfl, Below.refl _ _⟩
    case round =>
      obtain ⟨i, z, hi, rfl, rfl, hnx, rfl, hbi⟩ := hrel
      have HNX := Hd hnx
      have HBI := Hd hbi
      by_cases hlt : i < R.length
      · have hlc : ((i : Int) < (R.length : Int)) = True := eq_true (by omega)
        have hcd := HBT.out _ hbi i hlt
        have hixb := fun g => idx_at (P := Tryz.prog) (T := 156) (E := 4) Tryz.underlying156 (by kernel_rfl) g R.length R.length i hlt
        have hLS := leftB_succ isB out i
        cases hdn : out.contains i with
        | true =>
          rw [hdn] at hcd hLS
          have HC : Hid (candB (edgesB L) isB out i = false) := Hd (by rw [HCF.out, hdn]; simp)
          have HLS : Hid (leftB isB out (i + 1) = leftB isB out i) := Hd (by rw [hLS]; simp)
          clear hnx hbi hdn hLS
          generalize leftB isB out i = lf at *
          go_wp2
          go_roundw
          case rel => exact ⟨i + 1, z, by omega, by go_num, rfl, HNX.out.skip HC.out, by rw [HLS.out], HBI.out⟩
          case measure => simp [intOf]; omega
        | false =>
          rw [hdn] at hcd hLS
          have hcs := HSB.out _ (HW.out _ hbi) i hlt
          cases hsb : isB i with
          | false =>
          rw [hsb] at hcs hLS
          have HC : Hid (candB (edgesB L) isB out i = false) := Hd (by rw [HCF.out, hsb]; simp)
          have HLS : Hid (leftB isB out (i + 1) = leftB isB out i) := Hd (by rw [hLS]; simp)
          clear hnx hbi hdn hLS hsb
          generalize leftB isB out i = lf at *
          go_wp2
          go_roundw
          case rel => exact ⟨i + 1, z, by omega, by go_num, rfl, HNX.out.skip HC.out, by rw [HLS.out], HBI.out⟩
          case measure => simp [intOf]; omega
          | true =>
          rw [hsb] at hcs hLS
          have HLS : Hid (leftB isB out (i + 1) = true) := Hd (by rw [hLS]; simp)
          have HCI : Hid (candB (edgesB L) isB out i = freeB L out i R.length) := Hd (by rw [HCF.out, hdn, hsb]; simp)
          clear hnx hbi hdn hLS hsb
          generalize leftB isB out i = lf at *
          go_wp2_with fail
          go_loopw [11, 12] (fun fv kv wl => ∃ k : Nat, k ≤ R.length ∧ kv = .int .i64 k ∧ fv = .bool (freeB L out i k) ∧ Below W2.heap.size W2 wl) (fun _ kv _ => R.length - (intOf kv).toNat)
          case atStart => exact ⟨0, by omega, rfl, rfl, HBI.out⟩
          case round =>
            obtain ⟨k, hk, rfl, rfl, hbk⟩ := hrel
            have HBK := Hd hbk
            have hFS := freeB_succ L out i k
            by_cases hlk : k < R.length
            · have hlc2 : ((k : Int) < (R.length : Int)) = True := eq_true (by omega)
              have hck := HBT.out _ hbk k hlk
              have hixk := idx_at (P := Tryz.prog) (T := 156) (E := 4) Tryz.underlying156 (by kernel_rfl) w.heap.size R.length R.length k hlk
              cases hdk : out.contains k with
              | true =>
                rw [hdk] at hck hFS
                have HFS : Hid (freeB L out i (k + 1) = freeB L out i k) := Hd (by rw [hFS]; simp)
                clear hbk hdk hFS
                generalize freeB L out i k = fr at *
                go_wp2
                go_roundw
                case rel => exact ⟨k + 1, by omega, by go_num, by rw [HFS.out], HBK.out⟩
                case measure => simp [intOf]; omega
              | false =>
                rw [hdk] at hck hFS
                have K := Hd (KR.out _ (HW.out _ hbk) i k hlt hlk)
                have HZ := Hd hbk.size
                cases hnb : needB L i k with
                | true =>
                  rw [hnb] at K hFS
                  have HFS : Hid (freeB L out i (k + 1) = false) := Hd (by rw [hFS]; simp)
                  clear hbk hdk hFS hnb
                  generalize freeB L out i k = fr at *
                  go_wp2_with fail
                  refine K.out.mono ?_
                  rintro e w9 ⟨rfl, hb9⟩
                  have HB9 := Hd (HBK.out.trans (hb9.mono HZ.out))
                  clear hb9
                  go_wp2
                  go_roundw
                  case rel => exact ⟨k + 1, by omega, by go_num, by rw [HFS.out], HB9.out⟩
                  case measure => simp [intOf]; omega
                | false =>
                  rw [hnb] at K hFS
                  have HFS : Hid (freeB L out i (k + 1) = freeB L out i k) := Hd (by rw [hFS]; simp)
                  clear hbk hdk hFS hnb
                  generalize freeB L out i k = fr at *
                  go_wp2_with fail
                  refine K.out.mono ?_
                  rintro e w9 ⟨rfl, hb9⟩
                  have HB9 := Hd (HBK.out.trans (hb9.mono HZ.out))
                  clear hb9
                  go_wp2
                  go_roundw
                  case rel => exact ⟨k + 1, by omega, by go_num, by rw [HFS.out], HB9.out⟩
                  case measure => simp [intOf]; omega
            · obtain rfl : k = R.length := by omega
              have hlc2 : ((R.length : Int) < (R.length : Int)) = False := eq_false (by omega)
              clear hbk hFS
              cases hfr : freeB L out i R.length with
              | false =>
                have HC : Hid (candB (edgesB L) isB out i = false) := Hd (by rw [HCI.out, hfr])
                clear hfr
                go_wp2
                go_roundw
                case rel => exact ⟨i + 1, z, by omega, by go_num, rfl, HNX.out.skip HC.out, by rw [HLS.out], HBK.out⟩
                case measure => simp [intOf]; omega
              | true =>
                have HC : Hid (candB (edgesB L) isB out i = true) := Hd (by rw [HCI.out, hfr])
                clear hfr
                by_cases hz : z < 0
                · have hzc : (z < 0) = True := eq_true hz
                  have HZN := Hd hz
                  clear hz
                  go_wp2
                  go_roundw
                  case rel => exact ⟨i + 1, i, by omega, by go_num, rfl, HNX.out.take HZN.out HC.out, by rw [HLS.out], HBK.out⟩
                  case measure => simp [intOf]; omega
                · have hzc : (z < 0) = False := eq_false hz
                  have HZN : Hid (0 ≤ z) := Hd (by omega)
                  clear hz
                  go_wp2
                  go_roundw
                  case rel => exact ⟨i + 1, z, by omega, by go_num, rfl, HNX.out.keep HZN.out, by rw [HLS.out], HBK.out⟩
                  case measure => simp [intOf]; omega
      · obtain rfl : i = R.length := by omega
        have hlc : ((R.length : Int) < (R.length : Int)) = False := eq_false (by omega)
        have HSK := Hd (HST.out.keep hbi)
        have HLF := HLN.out
        cases hlf : leftB isB out R.length with
        | false =>
          have HD : Hid (orderB (edgesB L) isB L.length = some out) := Hd (HOR.out.done (by rw [HLN.out]; exact hlf))
          clear hnx hbi hlf
          go_wp2
          go_ret2
          exact ⟨Or.inl ⟨out, _, HD.out, rfl, ownsRow_base HSK.out.own (by omega)⟩, HSK.out.below⟩
        | true =>
          have hlf2 : leftB isB out L.length = true := by rw [HLN.out]; exact hlf
          have hnx2 : NextSt (candB (edgesB L) isB out) L.length z := by rw [HLN.out]; exact hnx
          by_cases hz : z < 0
          · have hzc : (z < 0) = True := eq_true hz
            obtain rfl : z = -1 := by
              rcases hnx with ⟨h, -⟩ | ⟨k, -, h, -⟩ <;> omega
            have HD : Hid (orderB (edgesB L) isB L.length = none) := Hd (HOR.out.none hlf2 hnx2)
            clear hnx hbi hlf hlf2 hnx2 hz
            go_wp2
            go_ret2
            exact ⟨Or.inr ⟨HD.out, rfl⟩, HSK.out.below⟩
          · obtain ⟨k, rfl⟩ : ∃ k : Nat, z = k := ⟨z.toNat, by omega⟩
            have hzc : ((k : Int) < 0) = False := eq_false (by omega)
            obtain ⟨hkn, hor2⟩ := HOR.out.step hlf2 hnx2
            rw [HLN.out] at hkn
            have HOR2 := Hd hor2
            have hol : out.length < R.length := by have := HOR.out.left hlf2; have := many_le isB L.length; rw [HLN.out] at *; omega
            have hixk := idx_at (P := Tryz.prog) (T := 156) (E := 4) Tryz.underlying156 (by kernel_rfl) w.heap.size R.length R.length k hkn
            have hck := HBT.out _ hbi k hkn
            have hfz : ∀ j, wr.frozen? ⟨w.heap.size, j, none⟩ = false := VRow.frozen HSK.out.bits
            have HO5 : Hid ((wr.setCell ⟨w.heap.size, k, none⟩ (.bool true)).ownsRow (w.heap.size + 1) 3 1 (.slice ao out.length co) out.length ((intsB out).map (Value.int .i64))) := Hd
              (ownsRow_fr HSK.out.own (Fr.setCell (S := fun q => q = w.heap.size) (p := ⟨w.heap.size, k, none⟩) (Fr.refl wr.heap.size _ wr) (fun _ => rfl) _) (fun q hq => ⟨(HSK.out.own.lt q hq).2, fun e => by have := (HSK.out.own.lt q hq).1; omega⟩))
            have hzr := HSK.out.size
            clear hnx hbi hlf hlf2 hnx2 hz hor2
            go_wp2_with (first
              | (at_builtin
                 refine wpList_app _ rfl _ _ 53 rfl tyInts (w.heap.size + 1) _ _ _ rfl (HO5.out.alloc _) ⟨wr.heap.size, 0, none⟩ 1 1 [intE k] rfl rfl (news_one ?_) ?_ (by decide) ?_ ?_ ?_
                 · have e := heap_alloc_here (wr.setCell ⟨w.heap.size, k, none⟩ (.bool true)) (.cells #[intE k] 3)
                   rw [show (wr.setCell ⟨w.heap.size, k, none⟩ (.bool true)).heap.size = wr.heap.size by simp] at e
                   rw [cell_of_heap e]; rfl
                 · intro u hu; simp at hu; subst hu; rfl
                 · omega
                 · simp; omega
                 intro v6 w6 ho6 hg6 hloc6
                 have HST6 := Hd (HSK.out.step ho6 hg6)
                 obtain ⟨g6, cap6, rfl⟩ := ownsRow_some ho6 (by omega)
                 clear ho6 hg6 hloc6))
            go_wp2
            go_roundw
            case rel => exact ⟨out ++ [k], HOR2.out, HST6.out⟩
            case measure => show R.length - (out.length + 1) < R.length - out.length; omega
theorem bitsOf_congr {n : Nat} {a b : List Nat} (h : ∀ k, k < n → (k ∈ a ↔ k ∈ b)) : bitsOf n a = bitsOf n b := by
  apply List.ext_getElem
  · simp [bitsOf]
  · intro i h1 h2
    rw [bitsOf_at, bitsOf_at, Bool.eq_iff_iff, List.contains_iff_mem, List.contains_iff_mem]
    exact h i (by simpa [bitsOf] using h1)
theorem needL_nodup (n : Nat) (N : List Nat) : (needL n N).Nodup := List.Pairwise.filter _ List.nodup_range
theorem needL_congr {n : Nat} {a b : List Nat} (h : ∀ k, k ∈ a ↔ k ∈ b) : needL n a = needL n b := by
  unfold needL
  congr 1
  funext i
  rw [Bool.eq_iff_iff, List.contains_iff_mem, List.contains_iff_mem]
  exact h i
theorem clo_start {l : List RuleL} {outs : List (List UInt8)} {ks : List Nat} (h : PlacesAt l outs ks) : Clo (edgesB l) l.length ks (needL l.length ks) ∧ bitsOf l.length ks = bitsOf l.length (needL l.length ks) := by
  have key : ∀ k, k ∈ needL l.length ks ↔ k ∈ ks := fun k => mem_needL h.1
  exact ⟨⟨needL_nodup _ _, fun k hk => h.1 k ((key k).1 hk), fun k hk => .base ((key k).1 hk), fun k hk => (key k).2 hk⟩, bitsOf_congr (fun k _ => (key k).symm)⟩
theorem bitsOf_again {n k : Nat} {N : List Nat} (hk : k ∈ N) : bitsOf n (N ++ [k]) = bitsOf n N := bitsOf_congr (fun j _ => by
  rw [List.mem_append, List.mem_singleton]
  exact ⟨fun h => h.elim id (fun e => e ▸ hk), Or.inl⟩)
def FoundSt (l : List RuleL) (ks : List Nat) (s : List UInt8) (k : Nat) (f : Bool) (M : List Nat) : Prop :=
  (f = false ∧ M = ks ∧ ∀ j (hj : j < l.length), j < k → l[j].out ≠ s) ∨ ∃ q, ∃ hq : q < l.length, q < k ∧ f = true ∧ l[q].out = s ∧ M = ks ++ [q]
set_option maxHeartbeats 4000000 in
theorem neededOf_any (R : List RV) (v : Value) (outs : List (List UInt8)) (vo : Value) (w : World) (hr : ReadsK 4 w v (R.map rvRow)) (hx : ∀ x ∈ R, Reads w x.2 (x.1.ins.map str)) (hO : Reads w vo (outs.map str)) (hR : RightS (R.map Prod.fst)) (hn : R.length ≤ 1000) (ho : outs.length ≤ 1000) :
    Calls Tryz.prog 88 #[v, vo] w fun e w' =>
      ((∃ ks N, PlacesAt (R.map Prod.fst) outs ks ∧ (∀ k, k ∈ N ↔ Reach (edgesB (R.map Prod.fst)) ks k) ∧ e = .returned (.tuple #[.slice (some ⟨w.heap.size, 0, none⟩) R.length R.length, .int .i64 (-1)]) ∧ Bits w' w.heap.size (bitsOf R.length N)) ∨
       (∃ i, ∃ h : i < outs.length, (∀ j (hj : j < outs.length), j < i → outs[j] ∈ (R.map Prod.fst).map RuleL.out) ∧ outs[i] ∉ (R.map Prod.fst).map RuleL.out ∧ e = .returned (.tuple #[.slice none 0 0, .int .i64 (i : Int)]))) ∧ Below w.heap.size w w' := by
  have hrow : ∀ r ∈ R.map rvRow, r ≠ [] := fun r hr => by obtain ⟨x, -, rfl⟩ := List.mem_map.1 hr; simp [rvRow]
  obtain ⟨a, c, hv, hle, -⟩ := id hr
  rw [List.length_map] at hv hle
  subst hv
  obtain ⟨ao, co, hvo, hole, -⟩ := id hO
  rw [List.length_map] at hvo hole
  subst hvo
  have KR := Hd (fun wl (hb : Below w.heap.size w wl) i k (hi : i < R.length) (hk : k < R.length) => needs_any R (.slice a R.length c) i k wl (readsK_below0 hr hrow hb) (fun x h => (hx x h).below0 hb) hi hk)
  have HRK := Hd (fun wl (hb : Below w.heap.size w wl) => readsK_below0 hr hrow hb)
  have HO := Hd (fun wl (hb : Below w.heap.size w wl) => hO.below0 hb)
  obtain ⟨L, hL⟩ : ∃ L, R.map Prod.fst = L := ⟨_, rfl⟩
  have hLn : L.length = R.length := by rw [← hL]; simp
  have hLR : ∀ i (h : i < R.length) (h2 : i < L.length), R[i].1.out = L[i].out := fun i h h2 => by simp only [← hL, List.getElem_map]
  rw [hL] at KR hR ⊢
  have HLN := Hd hLn
  have HLR := Hd hLR
  have HRT := Hd hR
  have hmk := make_bools R.length (by omega) w
  obtain ⟨W1, hW1⟩ : ∃ W, w.alloc (.cells ((List.replicate R.length false).map Value.bool).toArray 4) = W := ⟨_, rfl⟩
  have hA : Below w.heap.size w W1 := hW1 ▸ (Below.refl _ w).alloc (Nat.le_refl _) _
  have hb0 : Bits W1 w.heap.size (bitsOf R.length []) := by
    rw [bitsOf_nil, ← hW1]
    exact heap_alloc_here w _
  rw [hW1] at hmk
  have HA := Hd hA
  have HB := Hd hb0
  clear hr hx hL hA hb0 hW1 hLn hLR hrow hO hR
  go_enter Tryz.func88, Tryz.ntmps88
  go_wp2_with fail
  go_loopw [7] (fun iv wl => ∃ (i : Nat) (ks : List Nat), i ≤ outs.length ∧ iv = .int .i64 i ∧ PlacesAt L (outs.take i) ks ∧ Bits wl w.heap.size (bitsOf R.length ks) ∧ Below w.heap.size w wl) (fun iv _ => outs.length - (intOf iv).toNat)
  case atStart => exact ⟨0, [], by omega, rfl, PlacesAt.nil _, HB.out, HA.out⟩
  case round =>
    obtain ⟨i, ks, hi, rfl, hpl, hbt, hbi⟩ := hrel
    have HPL := Hd hpl
    have HBT := Hd hbt
    have HBI := Hd hbi
    by_cases hlt : i < outs.length
    · have hlc : ((i : Int) < (outs.length : Int)) = True := eq_true (by omega)
      have HTK : Hid (outs.take (i + 1) = outs.take i ++ [outs[i]]) := Hd (by rw [List.take_succ_eq_append_getElem hlt])
      have HMK : Hid (∀ j (hj : j < outs.length), j < i → outs[j] ∈ L.map RuleL.out) := Hd (fun j hj hji => by
        have h1 : outs[j] ∈ outs.take i := List.mem_iff_getElem.2 ⟨j, by rw [List.length_take]; omega, by rw [List.getElem_take]⟩
        rw [← hpl.2] at h1
        obtain ⟨k, hk, e⟩ := List.mem_map.1 h1
        have hkk := hpl.1 k hk
        rw [List.getD_eq_getElem?_getD, List.getElem?_eq_getElem hkk, Option.getD_some] at e
        rw [← e]
        exact List.mem_map.2 ⟨_, List.getElem_mem hkk, rfl⟩)
      have HAT : Hid (∀ s, outs[i] = s → s ∉ L.map RuleL.out → ∃ h : i < outs.length, outs[i] ∉ L.map RuleL.out) := Hd (fun s h1 h2 => ⟨hlt, h1 ▸ h2⟩)
      have HCO : Hid (∀ s, outs[i] = s → ∀ wl, Below w.heap.size w wl → ∃ b o, (∀ w', (Instr.indexAt 33 (.slice ao outs.length co) (.int .i64 (i : Int))).run Tryz.prog w' = .ok (.pointer (some ⟨b, o, none⟩)) w') ∧ wl.cell? ⟨b, o, none⟩ = some (str s)) := Hd (fun s hs wl hb => by
        obtain ⟨b, o, h1, h2⟩ := (HO.out wl hb).at (P := Tryz.prog) Tryz.underlying33 (by kernel_rfl) i (by simpa using hlt)
        simp only [List.getElem_map] at h2
        exact ⟨b, o, h1, by rw [h2, hs]⟩)
      generalize hs : outs[i] = s at *
      have HAT2 := Hd (HAT.out s rfl)
      have HCO2 := Hd (HCO.out s rfl)
      clear HAT HCO hs hpl hbt hbi
      go_wp2_with fail
      go_loopw [8, 9] (fun fv kv wl => ∃ (k : Nat) (f : Bool) (M : List Nat), k ≤ R.length ∧ kv = .int .i64 k ∧ fv = .bool f ∧ FoundSt L ks s k f M ∧ Bits wl w.heap.size (bitsOf R.length M) ∧ Below w.heap.size w wl) (fun _ kv _ => R.length - (intOf kv).toNat)
      case atStart => exact ⟨0, false, ks, by omega, rfl, rfl, Or.inl ⟨rfl, rfl, fun j hj h => absurd h (Nat.not_lt_zero j)⟩, HBT.out, HBI.out⟩
      case round =>
        obtain ⟨k, f, M, hk, rfl, rfl, hfs, hbt, hbk⟩ := hrel
        have HFS := Hd hfs
        have HBTK := Hd hbt
        have HBK := Hd hbk
        by_cases hlk : k < R.length
        · have hlc2 : ((k : Int) < (R.length : Int)) = True := eq_true (by omega)
          obtain ⟨b2, o2, hix2, hc2⟩ := HCO2.out _ hbk
          obtain ⟨b, of, hix, -, hce⟩ := (HRK.out _ hbk).at (P := Tryz.prog) Tryz.underlying22 (by kernel_rfl) k (by simpa using hlk)
          simp only [List.getElem_map] at hce
          have hc0 := hce 0 _ rfl
          simp only [Nat.add_zero] at hc0
          rw [HLR.out k hlk (by rw [HLN.out]; exact hlk)] at hc0
          have hkL : k < L.length := by rw [HLN.out]; exact hlk
          have HSM : Hid ((L[k].out == s) = true → FoundSt L ks s (k + 1) true (ks ++ [k])) := Hd (fun h => Or.inr ⟨k, hkL, by omega, rfl, by simpa using h, rfl⟩)
          have HEX : Hid ((L[k].out == s) = true → M = ks) := Hd (fun h => by
            rcases HFS.out with ⟨-, h1, -⟩ | ⟨q, hq, h1, -, h2, -⟩
            · exact h1
            · have := HRT.out.2.outs hq hkL (h2.trans (by simpa using h : L[k].out = s).symm)
              omega)
          have HNO : Hid ((L[k].out == s) = false → FoundSt L ks s (k + 1) f M) := Hd (fun h => by
            rcases HFS.out with ⟨h1, h2, h3⟩ | ⟨q, hq, h1, h2, h3, h4⟩
            · refine Or.inl ⟨h1, h2, fun j hj hjk => ?_⟩
              by_cases hji : j = k
              · subst hji; simpa using h
              · exact h3 j hj (by omega)
            · exact Or.inr ⟨q, hq, by omega, h2, h3, h4⟩)
          clear hce hfs hbt hbk
          cases hb : L[k].out == s with
          | true =>
            have hbM := HEX.out hb
            have HF2 := Hd (HSM.out hb)
            have hixk := idx_at (P := Tryz.prog) (T := 156) (E := 4) Tryz.underlying156 (by kernel_rfl) w.heap.size R.length R.length k hlk
            have hfz : ∀ j, wr.frozen? ⟨w.heap.size, j, none⟩ = false := VRow.frozen HBTK.out
            have hcx := Bits.at HBTK.out (k := k) (by rw [bitsOf_len]; exact hlk)
            have HBP : Hid (∀ q, Bits ((wr.drewN q).setCell ⟨w.heap.size, k, none⟩ (.bool true)) w.heap.size (bitsOf R.length (ks ++ [k]))) := Hd (fun q => by
              have hbp := Bits.put (VRow.below0 HBTK.out (below_drewN (Below.refl _ _) q)) k true
              rw [bitsOf_set, hbM] at hbp
              exact hbp)
            clear hbM
            generalize L[k].out = x at *
            go_wp2_with fail
            go_quiet (fail)
            go_wp2
            go_roundw
            case rel => exact ⟨k + 1, true, _, by omega, by go_num, rfl, HF2.out, HBP.out _, (below_drewN HBK.out _).setCell (p := ⟨w.heap.size, k, none⟩) (Nat.le_refl _) _⟩
            case measure => simp [intOf]; omega
          | false =>
            have HF2 := Hd (HNO.out hb)
            generalize L[k].out = x at *
            go_wp2_with fail
            go_quiet (fail)
            go_wp2
            go_roundw
            case rel => exact ⟨k + 1, f, M, by omega, by go_num, rfl, HF2.out, VRow.below0 HBTK.out (below_drewN (Below.refl _ _) _), below_drewN HBK.out _⟩
            case measure => simp [intOf]; omega
        · obtain rfl : k = R.length := by omega
          have hlc2 : ((R.length : Int) < (R.length : Int)) = False := eq_false (by omega)
          clear hbt hbk
          cases f with
          | true =>
            have HST : Hid (∃ q, M = ks ++ [q] ∧ PlacesAt L (outs.take (i + 1)) (ks ++ [q])) := Hd (by
              rcases hfs with ⟨h, -⟩ | ⟨q, hq, -, -, h1, h2⟩
              · cases h
              · exact ⟨q, h2, by rw [HTK.out]; exact HPL.out.snoc hq h1⟩)
            clear hfs
            obtain ⟨q, hM, hpq⟩ := HST.out
            subst hM
            have HPQ := Hd hpq
            clear hpq HST
            go_wp2
            go_roundw
            case rel => exact ⟨i + 1, _, by omega, by go_num, HPQ.out, HBTK.out, HBK.out⟩
            case measure => simp [intOf]; omega
          | false =>
            have HNM : Hid (s ∉ L.map RuleL.out) := Hd (by
              rcases hfs with ⟨-, -, h⟩ | ⟨q, hq, -, h, -⟩
              · intro hm
                obtain ⟨r, hr, e⟩ := List.mem_map.1 hm
                obtain ⟨j, hj, rfl⟩ := List.mem_iff_getElem.1 hr
                exact h j hj (by rw [← HLN.out]; exact hj) e
              · cases h)
            clear hfs
            go_wp2
            go_ret2
            obtain ⟨h1, h2⟩ := HAT2.out HNM.out
            exact ⟨Or.inr ⟨i, h1, HMK.out, h2, rfl⟩, HBK.out⟩
    · obtain rfl : i = outs.length := by omega
      have hlc : ((outs.length : Int) < (outs.length : Int)) = False := eq_false (by omega)
      have hpl2 := hpl
      rw [List.take_length] at hpl2
      have hst := clo_start hpl2
      rw [HLN.out] at hst
      have HP2 := Hd hpl2
      have HC0 : Hid (CloN (edgesB L) R.length ks 0 (needL R.length ks)) := Hd (CloN.zero hst.1)
      have HB0 : Hid (Bits wr w.heap.size (bitsOf R.length (needL R.length ks))) := Hd (by rw [← hst.2]; exact hbt)
      have HEL : Hid (∀ i, ∀ k ∈ edgesB L i, k < R.length) := Hd (fun i k hk => by have h := edges_lt _ i k hk; rw [HLN.out] at h; exact h)
      clear hpl hpl2 hst hbt hbi
      go_wp2_with fail
      go_loopw [10] (fun nv wl => ∃ (r : Nat) (N : List Nat), r ≤ R.length ∧ nv = .int .i64 r ∧ CloN (edgesB L) R.length ks r N ∧ Bits wl w.heap.size (bitsOf R.length N) ∧ Below w.heap.size w wl) (fun nv _ => R.length - (intOf nv).toNat)
      case atStart => exact ⟨0, _, by omega, rfl, HC0.out, HB0.out, HBI.out⟩
      case round =>
        obtain ⟨r, N0, hr, rfl, hcn, hbt, hbr⟩ := hrel
        by_cases hlr : r < R.length
        · have hlc3 : ((r : Int) < (R.length : Int)) = True := eq_true (by omega)
          have HCN := Hd hcn
          have HR0 : Hid (CloR (edgesB L) R.length ks N0 (0 * R.length) N0) := Hd (by rw [Nat.zero_mul]; exact CloR.zero hcn.1)
          have HBTR := Hd hbt
          have HBR := Hd hbr
          clear hcn hbt hbr
          go_wp2_with fail
          go_loopw [11] (fun iv wl => ∃ (i : Nat) (N : List Nat), i ≤ R.length ∧ iv = .int .i64 i ∧ CloR (edgesB L) R.length ks N0 (i * R.length) N ∧ Bits wl w.heap.size (bitsOf R.length N) ∧ Below w.heap.size w wl) (fun iv _ => R.length - (intOf iv).toNat)
          case atStart => exact ⟨0, _, by omega, rfl, HR0.out, HBTR.out, HBR.out⟩
          case round =>
            obtain ⟨i, N1, hi, rfl, hcr, hbt, hbi⟩ := hrel
            by_cases hli : i < R.length
            · have hlc4 : ((i : Int) < (R.length : Int)) = True := eq_true (by omega)
              have HCR : Hid (CloR (edgesB L) R.length ks N0 (i * R.length + 0) N1) := Hd hcr
              have HBTI := Hd hbt
              have HBII := Hd hbi
              clear hcr hbt hbi
              go_wp2_with fail
              go_loopw [12] (fun kv wl => ∃ (k : Nat) (N : List Nat), k ≤ R.length ∧ kv = .int .i64 k ∧ CloR (edgesB L) R.length ks N0 (i * R.length + k) N ∧ Bits wl w.heap.size (bitsOf R.length N) ∧ Below w.heap.size w wl) (fun kv _ => R.length - (intOf kv).toNat)
              case atStart => exact ⟨0, _, by omega, rfl, HCR.out, HBTI.out, HBII.out⟩
              case round =>
                obtain ⟨k, N, hk, rfl, hcr, hbt, hbk⟩ := hrel
                by_cases hlk : k < R.length
                · have hlc5 : ((k : Int) < (R.length : Int)) = True := eq_true (by omega)
                  have hixi := idx_at (P := Tryz.prog) (T := 156) (E := 4) Tryz.underlying156 (by kernel_rfl) w.heap.size R.length R.length i hli
                  have hci := Bits.at hbt (k := i) (by rw [bitsOf_len]; exact hli)
                  rw [bitsOf_at] at hci
                  have HCK := Hd hcr
                  have HBTK := Hd hbt
                  have HBK := Hd hbk
                  cases hii : N.contains i with
                  | false =>
                    rw [hii] at hci
                    have HN := Hd (hcr.skip hlk (fun h => by rw [List.contains_iff_mem.2 h] at hii; cases hii) HEL.out)
                    clear hcr hbt hbk hii
                    go_wp2
                    go_roundw
                    case rel => exact ⟨k + 1, _, by omega, by go_num, HN.out, HBTK.out, HBK.out⟩
                    case measure => simp [intOf]; omega
                  | true =>
                    rw [hii] at hci
                    have HII := Hd (List.contains_iff_mem.1 hii)
                    have K := Hd (KR.out _ hbk i k hli hlk)
                    have HZ := Hd hbk.size
                    cases hnb : needB L i k with
                    | false =>
                      rw [hnb] at K
                      have HN := Hd (hcr.skip hlk (fun _ h => by have := (edges_need h).2; rw [hnb] at this; cases this) HEL.out)
                      clear hcr hbt hbk hii hnb
                      go_wp2_with fail
                      refine K.out.mono ?_
                      rintro e w9 ⟨rfl, hb9⟩
                      have HB9 := Hd (HBK.out.trans (hb9.mono HZ.out))
                      have HBT9 := Hd (VRow.below0 HBTK.out hb9)
                      clear hb9
                      go_wp2
                      go_roundw
                      case rel => exact ⟨k + 1, _, by omega, by go_num, HN.out, HBT9.out, HB9.out⟩
                      case measure => simp [intOf]; omega
                    | true =>
                      rw [hnb] at K
                      have hke : k ∈ edgesB L i := need_edges (by rw [HLN.out]; exact hlk) hnb
                      have hixk := idx_at (P := Tryz.prog) (T := 156) (E := 4) Tryz.underlying156 (by kernel_rfl) w.heap.size R.length R.length k hlk
                      have HNX : Hid (∃ N', CloR (edgesB L) R.length ks N0 (i * R.length + (k + 1)) N' ∧ bitsOf R.length (N ++ [k]) = bitsOf R.length N') := Hd (by
                        by_cases hkN : k ∈ N
                        · exact ⟨N, hcr.skip hlk (fun _ _ => hkN) HEL.out, bitsOf_again hkN⟩
                        · exact ⟨N ++ [k], hcr.add hlk HII.out hke hkN HEL.out, rfl⟩)
                      obtain ⟨N', hN', hNe⟩ := HNX.out
                      have HN' := Hd hN'
                      have HNE := Hd hNe
                      clear hcr hbt hbk hii hnb hke HNX hN' hNe
                      go_wp2_with fail
                      refine K.out.mono ?_
                      rintro e w9 ⟨rfl, hb9⟩
                      have HB9 := Hd (HBK.out.trans (hb9.mono HZ.out))
                      have hbt9 := VRow.below0 HBTK.out hb9
                      have hfz : ∀ j, w9.frozen? ⟨w.heap.size, j, none⟩ = false := VRow.frozen hbt9
                      have hck := Bits.at hbt9 (k := k) (by rw [bitsOf_len]; exact hlk)
                      have hbp := Bits.put hbt9 k true
                      rw [bitsOf_set, HNE.out] at hbp
                      have HBP := Hd hbp
                      clear hb9 hbt9 hbp
                      go_wp2
                      go_roundw
                      case rel => exact ⟨k + 1, _, by omega, by go_num, HN'.out, HBP.out, HB9.out.setCell (p := ⟨w.heap.size, k, none⟩) (Nat.le_refl _) _⟩
                      case measure => simp [intOf]; omega
                · obtain rfl : k = R.length := by omega
                  have hlc5 : ((R.length : Int) < (R.length : Int)) = False := eq_false (by omega)
                  have HN : Hid (CloR (edgesB L) R.length ks N0 ((i + 1) * R.length) N) := Hd (by rw [Nat.succ_mul]; exact hcr)
                  have HBTK := Hd hbt
                  have HBK := Hd hbk
                  clear hcr hbt hbk
                  go_wp2
                  go_roundw
                  case rel => exact ⟨i + 1, _, by omega, by go_num, HN.out, HBTK.out, HBK.out⟩
                  case measure => simp [intOf]; omega
            · obtain rfl : i = R.length := by omega
              have hlc4 : ((R.length : Int) < (R.length : Int)) = False := eq_false (by omega)
              have HN := Hd (HCN.out.turn hcr HEL.out)
              have HBTK := Hd hbt
              have HBK := Hd hbi
              clear hcr hbt hbi
              go_wp2
              go_roundw
              case rel => exact ⟨r + 1, _, by omega, by go_num, HN.out, HBTK.out, HBK.out⟩
              case measure => simp [intOf]; omega
        · obtain rfl : r = R.length := by omega
          have hlc3 : ((R.length : Int) < (R.length : Int)) = False := eq_false (by omega)
          have HF : Hid (∀ k, k ∈ N0 ↔ Reach (edgesB L) ks k) := Hd (fun k => hcn.stop k)
          have HBT := Hd hbt
          have HBR := Hd hbr
          clear hcn hbt hbr
          go_wp2
          go_ret2
          exact ⟨Or.inl ⟨ks, N0, HP2.out, HF.out, rfl, HBT.out⟩, HBR.out⟩
end Go.Proofs.YtgjialbmlhbngaaGreatDoor

namespace Go.Proofs.YtgjialbmlhbngaaGreatDoor
open Go Go.RowKit Go.Kf
def FewTexts (l : List (List UInt8)) (many most : Nat) : Prop := l.length ≤ many ∧ (∀ s ∈ l, s.length ≤ most) ∧ (l.map List.length).sum ≤ most
def LongPost (l : List (List UInt8)) (many most : Nat) (w : World) (e : Ending) (w' : World) : Prop := w = w' ∧ ((e = .returned (.int .i64 1)) ∨ (e = .returned (.int .i64 0) ∧ FewTexts l many most))
theorem sum_take_succ {l : List (List UInt8)} {j : Nat} (h : j < l.length) : ((l.take (j + 1)).map List.length).sum = ((l.take j).map List.length).sum + l[j].length := by
  rw [List.take_succ_eq_append_getElem h]
  simp only [List.map_append, List.map_cons, List.map_nil, List.sum_append, List.sum_cons, List.sum_nil, Nat.add_zero]
theorem longTexts_any (v : Value) (l : List (List UInt8)) (many most : Nat) (w : World) (hr : Reads w v (l.map str)) (hm : many ≤ 1000) (hM : most ≤ 1000000) :
    Calls Tryz.prog 27 #[v, .int .i64 many, .int .i64 most] w (LongPost l many most w) := by
  have hle := hr.le
  obtain ⟨a, cap, rfl, -, -⟩ := id hr
  simp only [List.length_map] at *
  have HR := Hd hr
  clear hr
  by_cases hlm : many < l.length
  · go_enter Tryz.func27, Tryz.ntmps27
    go_wp2
    go_ret
    exact ⟨rfl, Or.inl rfl⟩
  · go_enter Tryz.func27, Tryz.ntmps27
    go_wp2
    go_loop [7, 8] (fun n i => ∃ j : Nat, j ≤ l.length ∧ i = .int .i64 j ∧ n = .int .i64 ((l.take j).map List.length).sum ∧ (∀ s ∈ l.take j, s.length ≤ most) ∧ ((l.take j).map List.length).sum ≤ most) (fun _ i => l.length - (intOf i).toNat)
    case atStart => exact ⟨0, by omega, rfl, rfl, by simp, by simp⟩
    case round =>
      obtain ⟨j, hj, rfl, rfl, hall, hsum⟩ := hrel
      have HA := Hd hall
      clear hall
      by_cases hlt : j < l.length
      · obtain ⟨b, o, hix, hce⟩ := HR.out.at (P := Tryz.prog) Tryz.underlying33 (by kernel_rfl) j (by simpa using hlt)
        simp only [List.getElem_map] at hce
        have HS := Hd (sum_take_succ hlt)
        have hmem : ∀ s ∈ l.take (j + 1), s ∈ l.take j ∨ s = l[j] := by
          intro s hs
          rw [List.take_succ_eq_append_getElem hlt] at hs
          simpa only [List.mem_append, List.mem_singleton] using hs
        have HM := Hd hmem
        clear hmem
        generalize ((l.take j).map List.length).sum = n at *
        generalize l[j] = s at *
        by_cases hs : s.length ≤ most
        · by_cases hs2 : n + s.length ≤ most
          · go_wp2
            go_round
            case rel =>
              refine ⟨j + 1, by omega, by go_num, by rw [HS.out]; go_num, fun t ht => ?_, by rw [HS.out]; omega⟩
              rcases HM.out t ht with h | rfl
              · exact HA.out t h
              · exact hs
            case measure => simp [intOf]; omega
          · go_wp2
            go_ret
            exact ⟨rfl, Or.inl rfl⟩
        · go_wp2
          go_ret
          exact ⟨rfl, Or.inl rfl⟩
      · obtain rfl : j = l.length := by omega
        rw [List.take_length] at hsum HA
        go_wp2
        go_ret
        exact ⟨rfl, Or.inr ⟨rfl, by omega, HA.out, hsum⟩⟩
open Go.Sort Go.Proofs
def ShortR (r : RuleL) : Prop := r.out.length ≤ 100 ∧ r.kind.length ≤ 60 ∧ r.word.length ≤ 150 ∧ FewTexts r.ins 12 300
def LongRPost (R : List RV) (many : Nat) (w : World) (e : Ending) (w' : World) : Prop := w = w' ∧ (e = .returned (.int .i64 1) ∨ (e = .returned (.int .i64 0) ∧ (R.length ≤ many ∨ R.length = 41) ∧ ∀ x ∈ R, ShortR x.1))
set_option maxHeartbeats 1000000 in
theorem longRules_any (R : List RV) (v : Value) (many : Nat) (w : World) (hr : ReadsK 4 w v (R.map rvRow)) (hi : ∀ x ∈ R, Reads w x.2 (x.1.ins.map str)) (_hm : many ≤ 1000) :
    Calls Tryz.prog 12 #[v, .int .i64 many] w (LongRPost R many w) := by
  have hle := hr.le
  obtain ⟨a, c, rfl, -, -⟩ := id hr
  simp only [List.length_map] at *
  have HR := Hd hr
  have HI := Hd hi
  clear hr hi
  by_cases hlong : many < R.length ∧ R.length ≠ 41
  · have d1 : ((many : Int) < (R.length : Int)) = True := eq_true (by omega)
    have d2 : ((R.length : Int) != 41) = true := by rw [bne_iff_ne]; omega
    clear hlong
    go_enter Tryz.func12, Tryz.ntmps12
    go_wp2
    go_ret
    exact ⟨rfl, Or.inl rfl⟩
  · have HOK : Hid (R.length ≤ many ∨ R.length = 41) := Hd (by omega)
    have hcs : ((many : Int) < (R.length : Int)) = False ∨ (((many : Int) < (R.length : Int)) = True ∧ ((R.length : Int) != 41) = false) := by
      by_cases h : many < R.length
      · exact Or.inr ⟨eq_true (by omega), by rw [show R.length = 41 by omega]; rfl⟩
      · exact Or.inl (eq_false (by omega))
    clear hlong
    rcases hcs with d1 | ⟨d1, d2⟩
    all_goals
      go_enter Tryz.func12, Tryz.ntmps12
      go_wp2_with fail
      go_loopw [5] (fun iv wl => ∃ i : Nat, i ≤ R.length ∧ iv = .int .i64 i ∧ (∀ x ∈ R.take i, ShortR x.1) ∧ wl = w) (fun iv _ => R.length - (intOf iv).toNat)
      case atStart => exact ⟨0, by omega, rfl, fun x hx => by simp at hx, rfl⟩
      case round =>
        obtain ⟨i, hi, rfl, hsh, rfl⟩ := hrel
        have HSH := Hd hsh
        clear hsh
        by_cases hlt : i < R.length
        · have hlc : ((i : Int) < (R.length : Int)) = True := eq_true (by omega)
          obtain ⟨b, o, hix, -, hce⟩ := HR.out.at (P := Tryz.prog) Tryz.underlying22 (by kernel_rfl) i (by simpa using hlt)
          simp only [List.getElem_map] at hce
          have hc0 := hce 0 _ rfl
          have hc1 := hce 1 _ rfl
          have hc2 := hce 2 _ rfl
          have hc3 := hce 3 _ rfl
          simp only [Nat.add_zero] at hc0
          have hrx := HI.out _ (List.getElem_mem hlt)
          have HTK : Hid (∀ x, R[i] = x → ShortR x.1 → ∀ y ∈ R.take (i + 1), ShortR y.1) := Hd (fun x hx h y hy => by
            rw [List.take_succ_eq_append_getElem hlt] at hy
            rcases List.mem_append.1 hy with hy | hy
            · exact HSH.out y hy
            · rw [List.mem_singleton.1 hy, hx]; exact h)
          clear hce
          generalize hx : R[i] = x at *
          have HTK2 := Hd (HTK.out x rfl)
          clear hx HTK
          obtain ⟨r, u⟩ := x
          simp only at hc0 hc1 hc2 hc3 hrx HTK2
          have KT := Hd (longTexts_any u r.ins 12 300 wr hrx (by decide) (by decide))
          clear hrx
          by_cases h1 : 100 < r.out.length
          · have e1 : ((100 : Int) < (r.out.length : Int)) = True := eq_true (by omega)
            go_wp2
            go_ret
            exact ⟨rfl, Or.inl rfl⟩
          · have e1 : ((100 : Int) < (r.out.length : Int)) = False := eq_false (by omega)
            by_cases h2 : 60 < r.kind.length
            · have e2 : ((60 : Int) < (r.kind.length : Int)) = True := eq_true (by omega)
              go_wp2
              go_ret
              exact ⟨rfl, Or.inl rfl⟩
            · have e2 : ((60 : Int) < (r.kind.length : Int)) = False := eq_false (by omega)
              by_cases h3 : 150 < r.word.length
              · have e3 : ((150 : Int) < (r.word.length : Int)) = True := eq_true (by omega)
                go_wp2
                go_ret
                exact ⟨rfl, Or.inl rfl⟩
              · have e3 : ((150 : Int) < (r.word.length : Int)) = False := eq_false (by omega)
                go_wp2_with fail
                refine KT.out.mono ?_
                rintro e w2 ⟨rfl, rfl | ⟨rfl, hfew⟩⟩
                · go_wp2
                  go_ret
                  exact ⟨rfl, Or.inl rfl⟩
                · have HS2 := Hd (HTK2.out ⟨by omega, by omega, by omega, hfew⟩)
                  clear hfew
                  go_wp2
                  go_roundw
                  case rel => exact ⟨i + 1, by omega, by go_num, HS2.out, by first | rfl | trivial⟩
                  case measure => simp [intOf]; omega
        · obtain rfl : i = R.length := by omega
          have hlc : ((R.length : Int) < (R.length : Int)) = False := eq_false (by omega)
          have HF : Hid (∀ x ∈ R, ShortR x.1) := Hd (by have := HSH.out; rw [List.take_length] at this; exact this)
          go_wp2
          go_ret
          exact ⟨rfl, Or.inr ⟨rfl, HOK.out, HF.out⟩⟩
theorem own_row (v : Value) (l : List (List UInt8)) (w : World) (hr : Reads w v (l.map str)) (hn : NilOr v) (hl : l.length ≤ 1000) :
    Calls Tryz.prog 32 #[v] w fun e w' => ∃ v', e = .returned v' ∧ w'.ownsRow w.heap.size 9 1 v' l.length (l.map str) ∧ Below w.heap.size w w' := by
  rcases hn with rfl | ⟨ad, n, c, rfl⟩
  · obtain ⟨i, hi, hz0, hz1, hz2⟩ := info_parts tyStrsK.info
    obtain rfl : l = [] := by
      have := hr.len
      rw [List.length_map] at this
      exact List.length_eq_zero_iff.1 this.symm
    clear hr
    go_enter Tryz.func32, Tryz.ntmps32
    go_wp2_with (at_builtin; refine wpList_append_own_none rfl _ _ 33 rfl 0 9 i 1 tyStrsK.und hi _ 0 [] rfl (World.ownsRow_nil _ _ _ _) rfl ?_)
    go_ret
    exact ⟨_, rfl, World.ownsRow_nil _ _ _ _, Below.refl _ _⟩
  · obtain rfl := hr.len
    have HR := Hd hr
    have hm : (l.map str).length = l.length := List.length_map _
    rw [hm]
    clear hr hm
    go_enter Tryz.func32, Tryz.ntmps32
    go_wp2_with (at_builtin; refine wpList_app _ rfl _ _ 33 rfl tyStrsK w.heap.size _ 0 [] rfl (World.ownsRow_nil _ _ _ _) ad l.length c (l.map str) rfl (by simp) ?c1 ?c2 (by decide) (by omega) (Nat.le_refl _) ?_)
    case c1 =>
      intro j u hj
      obtain ⟨a', cap', e, -, hc⟩ := HR.out
      cases e
      obtain ⟨b, o, e, hcell⟩ := hc j u hj
      cases e
      rw [addr_add rfl]
      exact hcell
    case c2 =>
      intro u hu
      obtain ⟨t, -, rfl⟩ := List.mem_map.1 hu
      rfl
    intro v' w' hown hgrow hblk
    go_wp2
    go_ret
    refine ⟨_, rfl, ?_, (Below.refl _ _).grown hgrow (Nat.le_refl _) (fun k hk => by cases hk)⟩
    simpa using hown
theorem ownsRow_roomy {w : World} {base : Nat} {e : TypeId} {s : Nat} {v : Value} {n : Nat} {xs : List Value} (h : w.ownsRow base e s v n xs) : Roomy v := by
  rcases h.2 with ⟨rfl, -⟩ | ⟨g, cap, cur, rfl, -, -, hcn, -⟩
  · intro a n c h
    cases h
    exact Nat.le_refl _
  · intro a n c h
    cases h
    exact hcn
theorem tyRules : SliceTyK Tryz.prog 22 35 (.agg #[str [], str [], str [], .slice none 0 0]) 4 72 := ⟨Tryz.underlying22, by kernel_rfl, rfl, by decide⟩
def OwnAt (B : Nat) (w : World) (v : Value) (R : List RV) : Prop :=
  w.ownsRow B 35 4 v R.length (R.map rvRow).flatten ∧ ∀ x ∈ R, w.ownsRow B 9 1 x.2 x.1.ins.length (x.1.ins.map str) ∧ ∀ k, x.2.ownBlock = some k → v.ownBlock ≠ some k
theorem OwnAt.rules {B : Nat} {w : World} {v : Value} {R : List RV} (h : OwnAt B w v R) : RulesAt w v R ∧ Roomy v :=
  ⟨⟨ownsRow_readsK h.1 (List.length_map _) (fun r hr => by obtain ⟨x, -, rfl⟩ := List.mem_map.1 hr; rfl), fun x hx => ⟨ownsRow_reads (h.2 x hx).1, ownsRow_roomy (h.2 x hx).1⟩⟩, ownsRow_roomy h.1⟩
theorem OwnAt.fr {B : Nat} {w w' : World} {v : Value} {R : List RV} (h : OwnAt B w v R) (hb : Below w.heap.size w w') : OwnAt B w' v R :=
  ⟨ownsRow_fr (S := fun _ => False) h.1 (Fr.of_below hb) (fun k hk => ⟨(h.1.lt k hk).2, id⟩), fun x hx => ⟨ownsRow_fr (S := fun _ => False) (h.2 x hx).1 (Fr.of_below hb) (fun k hk => ⟨((h.2 x hx).1.lt k hk).2, id⟩), (h.2 x hx).2⟩⟩
set_option maxHeartbeats 2000000 in
theorem ownRules_any (R : List RV) (v : Value) (w : World) (hr : ReadsK 4 w v (R.map rvRow)) (hi : ∀ x ∈ R, Reads w x.2 (x.1.ins.map str) ∧ NilOr x.2 ∧ x.1.ins.length ≤ 1000) (hn : R.length ≤ 1000) :
    Calls Tryz.prog 15 #[v] w fun e w' => ∃ v' R', e = .returned v' ∧ R'.map Prod.fst = R.map Prod.fst ∧ OwnAt w.heap.size w' v' R' ∧ Below w.heap.size w w' := by
  have hle := hr.le
  obtain ⟨a, c, rfl, -, -⟩ := id hr
  simp only [List.length_map] at *
  have HR := Hd (fun w1 (hb : Below w.heap.size w w1) => readsK_below0 hr (fun r hr => by obtain ⟨x, -, rfl⟩ := List.mem_map.1 hr; simp [rvRow]) hb)
  have HI := Hd hi
  clear hr hi
  go_enter Tryz.func15, Tryz.ntmps15
  go_wp2_with fail
  go_loopw [3, 4] (fun lv iv wl => ∃ (i : Nat) (R2 : List RV), i ≤ R.length ∧ iv = .int .i64 i ∧ R2.map Prod.fst = (R.take i).map Prod.fst ∧ OwnAt w.heap.size wl lv R2 ∧ Below w.heap.size w wl) (fun _ iv _ => R.length - (intOf iv).toNat)
  case atStart => exact ⟨0, [], by omega, rfl, rfl, ⟨World.ownsRow_nil _ _ _ _, fun x hx => by cases hx⟩, Below.refl _ _⟩
  case round =>
    obtain ⟨i, R2, hi, rfl, hfst, hown, hbi⟩ := hrel
    have HF := Hd hfst
    have HO := Hd hown
    have HBi := Hd hbi
    have hzi := hbi.size
    have hl2 : R2.length = i := by
      have := congrArg List.length hfst
      rw [List.length_map, List.length_map, List.length_take] at this
      omega
    clear hfst hown
    by_cases hlt : i < R.length
    · have hlc : ((i : Int) < (R.length : Int)) = True := eq_true (by omega)
      obtain ⟨b, o, hix, -, hce⟩ := (HR.out _ hbi).at (P := Tryz.prog) Tryz.underlying22 (by kernel_rfl) i (by simpa using hlt)
      simp only [List.getElem_map] at hce
      have hc0 := hce 0 _ rfl
      have hc1 := hce 1 _ rfl
      have hc2 := hce 2 _ rfl
      have hc3 := hce 3 _ rfl
      simp only [Nat.add_zero] at hc0
      obtain ⟨hrx, hnx, hlx⟩ := HI.out _ (List.getElem_mem hlt)
      have HTK : Hid (∀ x u', R[i] = x → (R2 ++ [(x.1, u')]).map Prod.fst = (R.take (i + 1)).map Prod.fst) := Hd (fun x u' hx => by
        rw [List.take_succ_eq_append_getElem hlt, List.map_append, List.map_append, HF.out, hx]
        rfl)
      clear hce
      generalize hx : R[i] = x at *
      have HTK2 := Hd (fun u' => HTK.out x u' rfl)
      clear hx HTK
      obtain ⟨r, u⟩ := x
      simp only at hc0 hc1 hc2 hc3 hrx hnx hlx HTK2
      have KO := Hd (own_row u r.ins wr (hrx.below0 hbi) hnx hlx)
      clear hrx hnx hbi
      go_wp2_with fail
      refine KO.out.mono ?_
      rintro e w2 ⟨u2, rfl, hou, hb2⟩
      have hz2 := hb2.size
      have HO2 := Hd (HO.out.fr hb2)
      have HB2 := Hd (HBi.out.trans (hb2.mono hzi))
      have hbz := HB2.out.size
      have HU := Hd (ownsRow_base hou hzi)
      have HUN : Hid (∀ k, u2.ownBlock = some k → u3.ownBlock ≠ some k) := Hd (fun k hk e => by
        have h1 := (hou.lt k hk).1
        have h2 := (HO.out.1.lt k e).2
        omega)
      have hq0 := (hb2.cell (p := ⟨b, o, none⟩) (lt_of_cell hc0)).trans hc0
      have hq1 := (hb2.cell (p := ⟨b, o + 1, none⟩) (lt_of_cell hc1)).trans hc1
      have hq2 := (hb2.cell (p := ⟨b, o + 2, none⟩) (lt_of_cell hc2)).trans hc2
      obtain ⟨au, cu, hu2, -, -⟩ := id (ownsRow_reads hou)
      rw [List.length_map] at hu2
      subst hu2
      clear hc0 hc1 hc2 hc3 hou hb2 KO
      go_wp2_with fail
      go_region_law (first
        | (refine step_appK rfl (.tmp 18) (.tmp 36) 22 rfl tyRules w.heap.size u3 _ _ rfl (by first | exact HO2.out.1.alloc _ | exact HO2.out.1.drew.alloc _ | exact (HO2.out.1.alloc _).drew) ⟨w2.heap.size, 0, none⟩ 1 1 [str r.out, str r.kind, str r.word, .slice au r.ins.length cu] rfl rfl ?_ ?_ (by decide) ?_ ?_ ?_
           · first | exact news_block w2 [str r.out, str r.kind, str r.word, .slice au r.ins.length cu] _ | exact news_block w2.drew [str r.out, str r.kind, str r.word, .slice au r.ins.length cu] _
           · intro u hu; simp at hu; rcases hu with rfl | rfl | rfl | rfl <;> rfl
           · omega
           · simp; omega
           intro v5 w5 ho5 hg5 hloc5))
      all_goals
        have HX5 : Hid (∀ (B' : Nat) (x : Value) (n : Nat) (xs : List Value), w2.ownsRow w.heap.size 9 1 x n xs → (∀ k, x.ownBlock = some k → u3.ownBlock ≠ some k) → w5.ownsRow w.heap.size 9 1 x n xs ∧ ∀ k, x.ownBlock = some k → v5.ownBlock ≠ some k) := Hd (fun B' x n xs hx hne => by
          have hfr := Fr.of_grown hg5
          have hlt : ∀ k, x.ownBlock = some k → k < w2.heap.size := fun k hk => (hx.lt k hk).2
          refine ⟨ownsRow_fr (by first | exact hx.alloc _ | exact hx.drew.alloc _ | exact (hx.alloc _).drew) hfr (fun k hk => ⟨by have := hlt k hk; simp; omega, hne k hk⟩), fun k hk e => ?_⟩
          rcases hloc5 with h | h
          · rw [h] at e; exact hne k hk e
          · rw [h] at e
            have h1 := Option.some.inj e
            have h2 := hlt k hk
            simp at h1
            omega)
        have HB5 : Hid (Below w.heap.size w w5) := Hd (by
          first
          | exact ((HB2.out.alloc hbz _).drew).grown hg5 (by simp; omega) (fun r hr => (HO2.out.1.lt r hr).1)
          | exact (HB2.out.alloc hbz _).grown hg5 (by simp; omega) (fun r hr => (HO2.out.1.lt r hr).1))
        have HO5 := Hd ho5
        clear ho5 hg5 hloc5
        go_wp2
        go_roundw
        case rel =>
          refine ⟨i + 1, R2 ++ [(r, .slice au r.ins.length cu)], by omega, by go_num, HTK2.out _, ⟨?_, fun x hx => ?_⟩, HB5.out⟩
          · have h5 := HO5.out
            rw [List.map_append, List.flatten_append, List.length_append]
            simpa [rvRow] using h5
          · rcases List.mem_append.1 hx with hx | hx
            · exact HX5.out 0 _ _ _ (HO2.out.2 x hx).1 (HO2.out.2 x hx).2
            · obtain rfl := List.mem_singleton.1 hx
              exact HX5.out 0 _ _ _ (by have := HU.out; exact this) HUN.out
        case measure => simp [intOf]; omega
    · obtain rfl : i = R.length := by omega
      have hlc : ((R.length : Int) < (R.length : Int)) = False := eq_false (by omega)
      have HFF : Hid (R2.map Prod.fst = R.map Prod.fst) := Hd (by have := HF.out; rw [List.take_length] at this; exact this)
      clear hbi
      go_wp2
      go_ret
      exact ⟨_, R2, rfl, HFF.out, HO.out, HBi.out⟩
theorem own_rulesT {w : World} {v : Value} {R : List RV} (h : ∃ B, OwnAt B w v R) : RulesAt w v R ∧ Roomy v := by
  obtain ⟨B, h⟩ := h
  exact h.rules
theorem reach_congr {E : Nat → List Nat} {a b : List Nat} (h : ∀ k, k ∈ a ↔ k ∈ b) (k : Nat) : Reach E a k ↔ Reach E b k := by
  constructor
  · intro hr
    induction hr with
    | base hk => exact .base ((h _).1 hk)
    | step _ hk ih => exact .step ih hk
  · intro hr
    induction hr with
    | base hk => exact .base ((h _).2 hk)
    | step _ hk ih => exact .step ih hk
theorem places_same {l : List RuleL} {outs : List (List UInt8)} {a b : List Nat} (hr : Right l) (ha : PlacesAt l outs a) (hb : PlacesAt l outs b) (k : Nat) : k ∈ a ↔ k ∈ b := by
  constructor
  · intro hk
    have hkl := ha.1 k hk
    exact (hb.mem hr hkl).2 ((ha.mem hr hkl).1 hk)
  · intro hk
    have hkl := hb.1 k hk
    exact (ha.mem hr hkl).2 ((hb.mem hr hkl).1 hk)
theorem same_needs {l : List RuleL} {outs : List (List UInt8)} {a b N M : List Nat} (hr : Right l) (ha : PlacesAt l outs a) (hb : PlacesAt l outs b) (hN : ∀ k, k ∈ N ↔ Reach (edgesB l) a k) (hM : ∀ k, k ∈ M ↔ Reach (edgesB l) b k) (n : Nat) : needL n N = needL n M :=
  needL_congr (fun k => ((hN k).trans (reach_congr (places_same hr ha hb) k)).trans (hM k).symm)
theorem places_made {l : List RuleL} {outs : List (List UInt8)} {a : List Nat} (ha : PlacesAt l outs a) : ∀ s ∈ outs, s ∈ l.map RuleL.out := by
  intro s hs
  rw [← ha.2] at hs
  obtain ⟨k, hk, e⟩ := List.mem_map.1 hs
  have hkl := ha.1 k hk
  rw [List.getD_eq_getElem?_getD, List.getElem?_eq_getElem hkl, Option.getD_some] at e
  exact List.mem_map.2 ⟨l[k], List.getElem_mem hkl, e⟩
theorem short_bounds {R : List RV} (h : ∀ x ∈ R, ShortR x.1) : ∀ x ∈ R, x.1.out.length ≤ 1000000 ∧ x.1.word.length ≤ 100000 ∧ (∀ s ∈ x.1.ins, s.length ≤ 1000000) ∧ x.1.ins.length ≤ 1000 := fun x hx => by
  obtain ⟨h1, h2, h3, h4, h5, h6⟩ := h x hx
  exact ⟨by omega, by omega, fun s hs => by have := h5 s hs; omega, by omega⟩
theorem short_other {R R' : List RV} (h : ∀ x ∈ R, ShortR x.1) (he : R'.map Prod.fst = R.map Prod.fst) : ∀ x ∈ R', ShortR x.1 := fun x hx => by
  have hm : x.1 ∈ R.map Prod.fst := he ▸ List.mem_map.2 ⟨x, hx, rfl⟩
  obtain ⟨y, hy, e⟩ := List.mem_map.1 hm
  exact e ▸ h y hy
def oneL : List RuleL := [⟨[98], [117, 112, 112, 101, 114], [], [[97]]⟩]
def oneR (b : Nat) : List RV := [(⟨[98], [117, 112, 112, 101, 114], [], [[97]]⟩, .slice (some ⟨b, 0, none⟩) 1 1)]
theorem oneL_right : RightS oneL := by
  have h0 : errAt oneL 0 ⟨[98], [117, 112, 112, 101, 114], [], [[97]]⟩ = 0 := by decide +kernel
  refine ⟨by decide, fun i r h => ?_⟩
  match i, h with
  | 0, h => cases h; exact h0
  | n + 1, h => cases h
theorem oneR_short (b : Nat) : ∀ x ∈ oneR b, x.1.out.length ≤ 1000000 ∧ x.1.word.length ≤ 100000 ∧ (∀ s ∈ x.1.ins, s.length ≤ 1000000) ∧ x.1.ins.length ≤ 1000 := by
  intro x hx
  simp only [oneR, List.mem_cons, List.not_mem_nil, or_false] at hx
  subst hx
  exact ⟨by simp, by simp, fun s hs => (by obtain rfl := List.mem_singleton.1 hs; simp), by simp⟩
theorem oneR_at {w W1 W2 : World} (h1 : w.alloc (.cells #[.string ⟨#[97]⟩] 9) = W1)
    (h2 : W1.alloc (.cells #[.string ⟨#[98]⟩, .string ⟨#[117, 112, 112, 101, 114]⟩, .string ⟨#[]⟩, .slice (some ⟨w.heap.size, 0, none⟩) 1 1] 35) = W2) :
    RulesAt W2 (.slice (some ⟨w.heap.size + 1, 0, none⟩) 1 1) (oneR w.heap.size) := by
  have hz : W1.heap.size = w.heap.size + 1 := by rw [← h1]; simp
  have hc : ∀ j, W2.cell? ⟨w.heap.size + 1, j, none⟩ = (#[Value.string ⟨#[98]⟩, .string ⟨#[117, 112, 112, 101, 114]⟩, .string ⟨#[]⟩, .slice (some ⟨w.heap.size, 0, none⟩) 1 1] : Array Value)[j]? := fun j => by
    rw [← hz, ← h2, cell_of_heap (heap_alloc_here W1 _)]
  have hb : W2.cell? ⟨w.heap.size, 0, none⟩ = some (.string ⟨#[97]⟩) := by
    have h3 : W1.cell? ⟨w.heap.size, 0, none⟩ = some (.string ⟨#[97]⟩) := by rw [← h1, cell_of_heap (heap_alloc_here w _)]; rfl
    rw [← h2]
    exact (((Below.refl _ W1).alloc (Nat.le_refl _) _).cell (p := ⟨w.heap.size, 0, none⟩) (by simp; omega)).trans h3
  refine ⟨⟨some ⟨w.heap.size + 1, 0, none⟩, 1, rfl, by simp [oneR], fun i row hi => ⟨_, _, rfl, fun j u hj => ?_⟩⟩, fun x hx => ?_⟩
  · rw [hc]
    match i, hi with
    | 0, hi =>
      cases hi
      match j, hj with
      | 0, hj => cases hj; rfl
      | 1, hj => cases hj; rfl
      | 2, hj => cases hj; rfl
      | 3, hj => cases hj; rfl
      | n + 4, hj => cases hj
    | n + 1, hi => cases hi
  · simp only [oneR, List.mem_cons, List.not_mem_nil, or_false] at hx
    subst hx
    refine ⟨⟨some ⟨w.heap.size, 0, none⟩, 1, rfl, by simp, fun i u hi => ⟨_, _, rfl, ?_⟩⟩, fun a n c h => ?_⟩
    · match i, hi with
      | 0, hi => cases hi; exact hb
      | n + 1, hi => cases hi
    · cases h
      exact Nat.le_refl _
abbrev Told := Nat × List UInt8
abbrev Look := List UInt8 → Option (List UInt8)
def toldOf (r : RuleL) (xs : List Told) : Told := match xs.find? (fun x => decide (x.1 ≠ 0)) with
  | some x => x
  | none => actOf r.kind r.word (xs.map Prod.snd)
def leafT (T : Look) (p : List UInt8) : Told := match T p with
  | some b => (0, b)
  | none => (6, [])
def wantF (l : List RuleL) (T : Look) : Nat → List UInt8 → Told
  | 0, _ => (0, [])
  | f + 1, p => match l.find? (fun r => r.out == p) with
    | some r => toldOf r (r.ins.map (wantF l T f))
    | none => leafT T p
def wantV (l : List RuleL) (T : Look) (p : List UInt8) : Told := wantF l T (l.length + 2) p
theorem find_out {l : List RuleL} (hr : Right l) {i : Nat} (hi : i < l.length) : l.find? (fun r => r.out == l[i].out) = some l[i] := by
  rw [List.find?_eq_some_iff_getElem]
  refine ⟨by simp, i, hi, rfl, fun j hj => ?_⟩
  have : l[j].out ≠ l[i].out := fun e => by
    have := hr.outs (by omega) hi e
    omega
  simpa using this
theorem find_noout {l : List RuleL} {p : List UInt8} (h : p ∉ l.map RuleL.out) : l.find? (fun r => r.out == p) = none := by
  rw [List.find?_eq_none]
  intro r hr e
  exact h (List.mem_map.2 ⟨r, hr, by simpa using e⟩)
theorem out_cases (l : List RuleL) (p : List UInt8) : (∃ i, ∃ h : i < l.length, l[i].out = p) ∨ p ∉ l.map RuleL.out := by
  by_cases h : p ∈ l.map RuleL.out
  · obtain ⟨r, hr, e⟩ := List.mem_map.1 h
    obtain ⟨i, hi, rfl⟩ := List.mem_iff_getElem.1 hr
    exact Or.inl ⟨i, hi, e⟩
  · exact Or.inr h
theorem order_mem {E : Nat → List Nat} {isB : Nat → Bool} {n : Nat} {o : List Nat} (h : orderB E isB n = some o) : Outs E isB n o ∧ ∀ i, i < n → isB i = true → i ∈ o := by
  unfold orderB at h
  obtain ⟨h1, h2⟩ := (orderGo_outs (manyB isB n) [] (outs_nil E isB n)).1 o h
  refine ⟨h1, fun i hi hb => Classical.byContradiction (fun hm => ?_)⟩
  have hs := nodup_sub (i :: o) ((List.range n).filter isB) (List.nodup_cons.2 ⟨hm, h1.nd⟩) (fun k hk => by
    rcases List.mem_cons.1 hk with rfl | hk
    · exact List.mem_filter.2 ⟨List.mem_range.2 hi, hb⟩
    · have := h1.lt k hk
      exact List.mem_filter.2 ⟨List.mem_range.2 this.1, this.2⟩)
  have hm : ((List.range n).filter isB).length = manyB isB n := rfl
  simp only [List.length_cons, List.length_nil, Nat.zero_add] at hs h2
  omega
theorem wantF_leaf {l : List RuleL} {T : Look} {p : List UInt8} (h : p ∉ l.map RuleL.out) (f : Nat) : wantF l T (f + 1) p = leafT T p := by
  unfold wantF
  rw [find_noout h]
theorem wantF_rule {l : List RuleL} {T : Look} (hr : Right l) {i : Nat} (hi : i < l.length) (f : Nat) : wantF l T (f + 1) l[i].out = toldOf l[i] (l[i].ins.map (wantF l T f)) := by
  conv => lhs; unfold wantF
  rw [find_out hr hi]
theorem want_stable {l : List RuleL} {T : Look} {isB : Nat → Bool} {o : List Nat} (hr : Right l) (ho : Outs (edgesB l) isB l.length o) :
    ∀ (t : Nat) (ht : t < o.length) (hn : o[t] < l.length) (f f' : Nat), t + 2 ≤ f → t + 2 ≤ f' → wantF l T f l[o[t]].out = wantF l T f' l[o[t]].out := by
  intro t
  induction t using Nat.strongRecOn with
  | ind t ih =>
    intro ht hn f f' hf hf'
    obtain ⟨g, rfl⟩ : ∃ g, f = g + 1 := ⟨f - 1, by omega⟩
    obtain ⟨g', rfl⟩ : ∃ g, f' = g + 1 := ⟨f' - 1, by omega⟩
    rw [wantF_rule hr hn, wantF_rule hr hn]
    congr 1
    refine List.map_congr_left (fun s hs => ?_)
    rcases out_cases l s with ⟨j, hj, rfl⟩ | hno
    · have hje : j ∈ edgesB l o[t] := (mem_edges hn).2 ⟨hj, hs⟩
      obtain ⟨t', ht', e⟩ := List.mem_iff_getElem.1 (ho.back t ht j hje)
      rw [List.length_take] at ht'
      rw [List.getElem_take] at e
      subst e
      exact ih t' (by omega) (by omega) hj g g' (by omega) (by omega)
    · obtain ⟨k, rfl⟩ : ∃ k, g = k + 1 := ⟨g - 1, by omega⟩
      obtain ⟨k', rfl⟩ : ∃ k, g' = k + 1 := ⟨g' - 1, by omega⟩
      rw [wantF_leaf hno, wantF_leaf hno]
theorem wantV_leaf {l : List RuleL} {T : Look} {p : List UInt8} (h : p ∉ l.map RuleL.out) : wantV l T p = leafT T p := wantF_leaf h _
theorem outs_len {E : Nat → List Nat} {isB : Nat → Bool} {n : Nat} {o : List Nat} (h : Outs E isB n o) : o.length ≤ n := nodup_le n o h.nd (fun k hk => (h.lt k hk).1)
theorem wantV_rule {l : List RuleL} {T : Look} {isB : Nat → Bool} {o : List Nat} (hr : Right l) (ho : Outs (edgesB l) isB l.length o) {i : Nat} (hi : i < l.length) (hm : i ∈ o) : wantV l T l[i].out = toldOf l[i] (l[i].ins.map (wantV l T)) := by
  unfold wantV
  rw [wantF_rule hr hi]
  congr 1
  refine List.map_congr_left (fun s hs => ?_)
  rcases out_cases l s with ⟨j, hj, rfl⟩ | hno
  · obtain ⟨t, ht, e⟩ := List.mem_iff_getElem.1 hm
    subst e
    have hje : j ∈ edgesB l o[t] := (mem_edges hi).2 ⟨hj, hs⟩
    obtain ⟨t', ht', e⟩ := List.mem_iff_getElem.1 (ho.back t ht j hje)
    rw [List.length_take] at ht'
    rw [List.getElem_take] at e
    subst e
    have := outs_len ho
    exact want_stable hr ho t' (by omega) hj _ _ (by omega) (by omega)
  · rw [wantF_leaf hno, wantF_leaf hno]
theorem actOf_len (k w : List UInt8) (ins : List (List UInt8)) : (actOf k w ins).2.length ≤ 2000 := by
  unfold actOf
  split
  · split
    · simp
    · split
      · simp
      · rename_i h; exact Nat.le_of_not_lt h
  · simp
theorem actOf_err (k w : List UInt8) (ins : List (List UInt8)) : (actOf k w ins).1 ≠ 0 → (actOf k w ins).2 = [] := by
  unfold actOf
  split
  · split
    · intro h; exact absurd rfl h
    · split
      · intro _; rfl
      · intro h; exact absurd rfl h
  · intro _; rfl
theorem actErr_code (k w : List UInt8) (n : Nat) : actErr k w n = 0 ∨ actErr k w n = 3 ∨ actErr k w n = 5 ∨ actErr k w n = 10 := by
  unfold actErr
  split
  · omega
  · split
    · split <;> omega
    · omega
theorem actOf_code (k w : List UInt8) (ins : List (List UInt8)) : (actOf k w ins).1 = 0 ∨ (actOf k w ins).1 = 3 ∨ (actOf k w ins).1 = 5 ∨ (actOf k w ins).1 = 10 := by
  unfold actOf
  split
  · split
    · exact Or.inl rfl
    · split
      · exact Or.inr (Or.inr (Or.inr rfl))
      · exact Or.inl rfl
  · exact actErr_code _ _ _
structure ToldOk (x : Told) : Prop where
  len : x.2.length ≤ 2000
  err : x.1 ≠ 0 → x.2 = []
  code : x.1 = 0 ∨ x.1 = 3 ∨ x.1 = 5 ∨ x.1 = 6 ∨ x.1 = 10
theorem toldOk_act (k w : List UInt8) (ins : List (List UInt8)) : ToldOk (actOf k w ins) := ⟨actOf_len _ _ _, actOf_err _ _ _, by have := actOf_code k w ins; omega⟩
theorem toldOk_of {r : RuleL} {xs : List Told} (h : ∀ x ∈ xs, ToldOk x) : ToldOk (toldOf r xs) := by
  unfold toldOf
  split
  · rename_i x hx
    exact h x (List.mem_of_find?_eq_some hx)
  · exact toldOk_act _ _ _
theorem toldOk_leaf {T : Look} (hT : ∀ p b, T p = some b → b.length ≤ 2000) (p : List UInt8) : ToldOk (leafT T p) := by
  unfold leafT
  split
  · rename_i b hb
    exact ⟨hT p b hb, fun h => absurd rfl h, Or.inl rfl⟩
  · exact ⟨by simp, fun _ => rfl, by simp⟩
theorem toldOk_wantF {l : List RuleL} {T : Look} (hT : ∀ p b, T p = some b → b.length ≤ 2000) : ∀ (f : Nat) (p : List UInt8), ToldOk (wantF l T f p)
  | 0, _ => ⟨by simp [wantF], fun h => absurd rfl h, Or.inl rfl⟩
  | f + 1, p => by
    unfold wantF
    split
    · exact toldOk_of (fun x hx => by
        obtain ⟨s, -, rfl⟩ := List.mem_map.1 hx
        exact toldOk_wantF hT f s)
    · exact toldOk_leaf hT p
theorem toldOk_want {l : List RuleL} {T : Look} (hT : ∀ p b, T p = some b → b.length ≤ 2000) (p : List UInt8) : ToldOk (wantV l T p) := toldOk_wantF hT _ p
theorem toldOf_good {r : RuleL} {xs : List Told} (h : ∀ x ∈ xs, x.1 = 0) : toldOf r xs = actOf r.kind r.word (xs.map Prod.snd) := by
  unfold toldOf
  have : xs.find? (fun x => decide (x.1 ≠ 0)) = none := by
    rw [List.find?_eq_none]
    intro x hx
    simpa using h x hx
  rw [this]
end Go.Proofs.YtgjialbmlhbngaaGreatDoor
