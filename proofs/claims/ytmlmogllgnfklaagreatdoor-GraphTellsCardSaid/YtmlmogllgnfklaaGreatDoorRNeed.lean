/-
  The reference's order, in plain words.
-/
import Derived.Test.YtmlmogllgnfklaaGreatDoorGraphP
import Derived.Test.YtmlmogllgnfklaaGreatDoorGAid
import Derived.Test.YtmlmogllgnfklaaGreatDoorNeeds
import Derived.Test.YtmlmogllgnfklaaGreatDoorCycP
namespace Go.Proofs.YtmlmogllgnfklaaGreatDoor
open Go Go.RowKit Go.Kf Go.Sort Go.Proofs

def freeB (l : List RuleL) (out : List Nat) (i k : Nat) : Bool := (List.range k).all fun j => out.contains j || !needB l i j
theorem freeB_succ (l : List RuleL) (out : List Nat) (i k : Nat) : freeB l out i (k + 1) = (freeB l out i k && (out.contains k || !needB l i k)) := by
  unfold freeB
  rw [List.range_succ, List.all_append]
  simp
theorem cand_free (l : List RuleL) (out : List Nat) (i : Nat) : candB (edgesB l) (fun _ => true) out i = (!out.contains i && freeB l out i l.length) := by
  rw [Bool.eq_iff_iff, candB_iff, Bool.and_eq_true]
  unfold freeB
  rw [List.all_eq_true]
  constructor
  · rintro ⟨-, h1, h2⟩
    refine ⟨by simpa using h1, fun j hj => ?_⟩
    by_cases hn : needB l i j = true
    · have := h2 j (List.mem_filter.2 ⟨hj, hn⟩)
      simp [this]
    · rw [Bool.eq_false_iff.2 hn]
      simp
  · rintro ⟨h1, h2⟩
    refine ⟨rfl, by simpa using h1, fun j hj => ?_⟩
    obtain ⟨h3, h4⟩ := List.mem_filter.1 hj
    have := h2 j h3
    rw [h4] at this
    simpa using this
def leftB (out : List Nat) (i : Nat) : Bool := (List.range i).any fun j => !out.contains j
theorem leftB_succ (out : List Nat) (i : Nat) : leftB out (i + 1) = (leftB out i || !out.contains i) := by
  unfold leftB
  rw [List.range_succ, List.any_append]
  simp
/-- Which is next, of those below i. -/
def NextSt (C : Nat → Bool) (i : Nat) (z : Int) : Prop := (z = -1 ∧ ∀ j, j < i → C j = false) ∨ ∃ k : Nat, k < i ∧ z = k ∧ C k = true ∧ ∀ j, j < k → C j = false
theorem NextSt.zero (C : Nat → Bool) : NextSt C 0 (-1) := Or.inl ⟨rfl, fun j h => absurd h (Nat.not_lt_zero j)⟩
theorem NextSt.skip {C : Nat → Bool} {i : Nat} {z : Int} (h : NextSt C i z) (hc : C i = false) : NextSt C (i + 1) z := by
  rcases h with ⟨h1, h2⟩ | ⟨k, h1, h2, h3, h4⟩
  · refine Or.inl ⟨h1, fun j hj => ?_⟩
    by_cases hji : j = i
    · exact hji ▸ hc
    · exact h2 j (by omega)
  · exact Or.inr ⟨k, by omega, h2, h3, h4⟩
theorem NextSt.keep {C : Nat → Bool} {i : Nat} {z : Int} (h : NextSt C i z) (hz : 0 ≤ z) : NextSt C (i + 1) z := by
  rcases h with ⟨h1, -⟩ | ⟨k, h1, h2, h3, h4⟩
  · omega
  · exact Or.inr ⟨k, by omega, h2, h3, h4⟩
theorem NextSt.take {C : Nat → Bool} {i : Nat} {z : Int} (h : NextSt C i z) (hz : z < 0) (hc : C i = true) : NextSt C (i + 1) i := by
  rcases h with ⟨-, h2⟩ | ⟨k, h1, h2, -⟩
  · exact Or.inr ⟨i, by omega, rfl, hc, h2⟩
  · omega
/-- How far the reference's order has come. -/
def OrdR (l : List RuleL) (out : List Nat) : Prop := Outs (edgesB l) (fun _ => true) l.length out ∧ orderB (edgesB l) (fun _ => true) l.length = orderGo (edgesB l) (fun _ => true) l.length (l.length - out.length) out
theorem OrdR.zero (l : List RuleL) : OrdR l [] := ⟨outs_nil _ _ _, by unfold orderB; rw [many_all]; rfl⟩
theorem outs_le {E : Nat → List Nat} {isB : Nat → Bool} {n : Nat} {out : List Nat} (h : Outs E isB n out) : out.length ≤ n := nodup_le n out h.nd (fun k hk => (h.lt k hk).1)
theorem outs_room {E : Nat → List Nat} {isB : Nat → Bool} {n j : Nat} {out : List Nat} (h : Outs E isB n out) (hj : j < n) (hm : j ∉ out) : out.length < n := by
  have := nodup_le n (j :: out) (List.nodup_cons.2 ⟨hm, h.nd⟩) (fun k hk => by
    rcases List.mem_cons.1 hk with rfl | hk
    · exact hj
    · exact (h.lt k hk).1)
  simp at this
  omega
theorem OrdR.left {l : List RuleL} {out : List Nat} (h : OrdR l out) (hl : leftB out l.length = true) : out.length < l.length := by
  obtain ⟨j, hj, hm⟩ := List.any_eq_true.1 hl
  exact outs_room h.1 (List.mem_range.1 hj) (fun hm2 => by rw [List.contains_iff_mem.2 hm2] at hm; cases hm)
theorem OrdR.done {l : List RuleL} {out : List Nat} (h : OrdR l out) (hl : leftB out l.length = false) : orderB (edgesB l) (fun _ => true) l.length = some out := by
  have hall : ∀ j, j < l.length → j ∈ out := fun j hj => by
    have := List.any_eq_false.1 hl j (List.mem_range.2 hj)
    simpa using this
  have h1 := nodup_sub (List.range l.length) out List.nodup_range (fun j hj => hall j (List.mem_range.1 hj))
  rw [List.length_range] at h1
  have h2 := outs_le h.1
  rw [h.2, show l.length - out.length = 0 by omega]
  rfl
theorem OrdR.none {l : List RuleL} {out : List Nat} (h : OrdR l out) (hl : leftB out l.length = true) (hn : NextSt (candB (edgesB l) (fun _ => true) out) l.length (-1)) : orderB (edgesB l) (fun _ => true) l.length = none := by
  have h1 := h.left hl
  rcases hn with ⟨-, h2⟩ | ⟨k, -, h2, -⟩
  · rw [h.2, show l.length - out.length = (l.length - out.length - 1) + 1 by omega]
    exact orderGo_none (nextB_miss h2)
  · omega
theorem OrdR.step {l : List RuleL} {out : List Nat} {k : Nat} (h : OrdR l out) (hl : leftB out l.length = true) (hn : NextSt (candB (edgesB l) (fun _ => true) out) l.length (k : Int)) : k < l.length ∧ OrdR l (out ++ [k]) := by
  have h1 := h.left hl
  rcases hn with ⟨h2, -⟩ | ⟨j, h2, h3, h4, h5⟩
  · omega
  · obtain rfl : k = j := by omega
    refine ⟨h2, h.1.add h2 h4, ?_⟩
    rw [h.2, show l.length - out.length = (l.length - (out.length + 1)) + 1 by omega, orderGo_some (nextB_hit h2 h4 h5), List.length_append, List.length_singleton]
end Go.Proofs.YtmlmogllgnfklaaGreatDoor

/-
  The reference: AllOf, OrderOf; the laws' numbers.
-/
namespace Go.Proofs.YtmlmogllgnfklaaGreatDoor
open Go Go.RowKit Go.Kf Go.Sort Go.Proofs

theorem bitsOf_all (n : Nat) : bitsOf n (List.range n) = List.replicate n true := by
  apply List.ext_getElem
  · simp [bitsOf]
  · intro i h1 h2
    rw [bitsOf_at, List.getElem_replicate, List.contains_iff_mem, List.mem_range]
    simpa [bitsOf] using h1

set_option maxRecDepth 100000 in
theorem allOf_any (n : Nat) (w : World) (hn : n ≤ 1000) :
    Calls Tryz.prog 31 #[.int .i64 (n : Int)] w fun e w' => e = .returned (.slice (some ⟨w.heap.size, 0, none⟩) n n) ∧ Bits w' w.heap.size (List.replicate n true) ∧ Below w.heap.size w w' := by
  have hmk := make_bools n (by omega) w
  obtain ⟨W1, hW1⟩ : ∃ W, w.alloc (.cells ((List.replicate n false).map Value.bool).toArray 4) = W := ⟨_, rfl⟩
  have hA : Below w.heap.size w W1 := hW1 ▸ (Below.refl _ w).alloc (Nat.le_refl _) _
  have hb0 : Bits W1 w.heap.size (bitsOf n []) := by
    rw [bitsOf_nil, ← hW1]
    exact heap_alloc_here w _
  rw [hW1] at hmk
  have HA := Lib.hid hA
  have HB := Lib.hid hb0
  clear hA hb0 hW1
  go_enter Tryz.func31, Tryz.ntmps31
  go_wp2_with fail
  go_loopw [4] (fun iv wl => ∃ i : Nat, i ≤ n ∧ iv = .int .i64 i ∧ Bits wl w.heap.size (bitsOf n (List.range i)) ∧ Below w.heap.size w wl) (fun iv _ => n - (intOf iv).toNat)
  case atStart => exact ⟨0, by omega, rfl, HB.out, HA.out⟩
  case round =>
    obtain ⟨i, hi, rfl, hbt, hbi⟩ := hrel
    have HBI := Lib.hid hbi
    by_cases hlt : i < n
    · have hlc : ((i : Int) < (n : Int)) = True := eq_true (by omega)
      have hixb := idx_at (P := Tryz.prog) (T := 34) (E := 4) Tryz.underlying34 (by kernel_rfl) w.heap.size n n i hlt
      have hcb := Bits.at hbt (k := i) (by rw [bitsOf_len]; exact hlt)
      have hfz : ∀ j, wr.frozen? ⟨w.heap.size, j, none⟩ = false := VRow.frozen hbt
      have hbp := Bits.put hbt i true
      rw [bitsOf_set, ← List.range_succ] at hbp
      have HBP := Lib.hid hbp
      clear hbt hbi hbp
      go_wp2
      go_roundw
      case rel => exact ⟨i + 1, by omega, by go_num, HBP.out, HBI.out.setCell (p := ⟨w.heap.size, i, none⟩) (Nat.le_refl _) _⟩
      case measure => simp [intOf]; omega
    · obtain rfl : i = n := by omega
      have hlc : ((i : Int) < (i : Int)) = False := eq_false (by omega)
      have hbt2 := hbt
      rw [bitsOf_all] at hbt2
      have HF := Lib.hid hbt2
      clear hbt hbi hbt2
      go_wp2
      go_ret
      exact ⟨rfl, HF.out, HBI.out⟩

set_option maxRecDepth 100000 in
set_option maxHeartbeats 1000000 in
theorem numbers_any (n g : Nat) (N : List Nat) (w : World) (hb : Bits w g (bitsOf n N)) (hn : n ≤ 1000) :
    Calls Tryz.prog 37 #[.slice (some ⟨g, 0, none⟩) n n] w fun e w' => ∃ u, e = .returned u ∧ w'.ownsRow w.heap.size 3 1 u (needL n N).length ((intsB (needL n N)).map (Value.int .i64)) ∧ Below w.heap.size w w' := by
  have HB := Lib.hid hb
  clear hb
  go_enter Tryz.func37, Tryz.ntmps37
  go_wp2_with fail
  go_loopw [3, 4] (fun ov iv wl => ∃ i : Nat, i ≤ n ∧ iv = .int .i64 i ∧ wl.ownsRow w.heap.size 3 1 ov (needL i N).length ((intsB (needL i N)).map (Value.int .i64)) ∧ Below w.heap.size w wl) (fun _ iv _ => n - (intOf iv).toNat)
  case atStart => exact ⟨0, by omega, rfl, World.ownsRow_nil _ _ _ _, Below.refl _ _⟩
  case round =>
    obtain ⟨i, hi, rfl, hown, hbi⟩ := hrel
    have HOW := Lib.hid hown
    have HBI := Lib.hid hbi
    have hzi := hbi.size
    have hnl := needL_len i N
    by_cases hlt : i < n
    · have hlc : ((i : Int) < (n : Int)) = True := eq_true (by omega)
      have hixb := idx_at (P := Tryz.prog) (T := 34) (E := 4) Tryz.underlying34 (by kernel_rfl) g n n i hlt
      have hcb := Bits.at (VRow.below0 HB.out hbi) (k := i) (by rw [bitsOf_len]; exact hlt)
      rw [bitsOf_at] at hcb
      have HSN : Hid (needL (i + 1) N = needL i N ++ if N.contains i then [i] else []) := Lib.hid (needL_snoc N i)
      cases hiN : N.contains i with
      | true =>
        rw [hiN] at hcb HSN
        simp only [if_true] at HSN
        clear hown hbi hiN
        go_wp2_with (first
          | (at_builtin
             refine wpList_app _ rfl _ _ 28 rfl tyInts w.heap.size _ _ _ rfl (HOW.out.alloc _) ⟨wr.heap.size, 0, none⟩ 1 1 [intE i] rfl rfl (news_one ?_) ?_ (by decide) ?_ ?_ ?_
             · rw [cell_of_heap (heap_alloc_here wr _)]; rfl
             · intro u hu; simp at hu; subst hu; rfl
             · omega
             · simp; omega
             intro v6 w6 ho6 hg6 hloc6
             have HO6 := Lib.hid ho6
             have HB6 := Lib.hid ((HBI.out.alloc hzi _).grown hg6 (by simp; omega) (fun q hq => (HOW.out.lt q hq).1))
             clear ho6 hg6 hloc6))
        go_wp2
        go_roundw
        case rel => exact ⟨i + 1, by omega, by go_num, by rw [HSN.out]; have h := HO6.out; simpa [intsB] using h, HB6.out⟩
        case measure => simp [intOf]; omega
      | false =>
        rw [hiN] at hcb HSN
        simp only [Bool.false_eq_true, if_false, List.append_nil] at HSN
        clear hown hbi hiN
        go_wp2
        go_roundw
        case rel => exact ⟨i + 1, by omega, by go_num, by rw [HSN.out]; exact HOW.out, HBI.out⟩
        case measure => simp [intOf]; omega
    · obtain rfl : i = n := by omega
      have hlc : ((i : Int) < (i : Int)) = False := eq_false (by omega)
      clear hown hbi
      go_wp2
      go_ret
      exact ⟨_, rfl, HOW.out, HBI.out⟩

/-- The state of OrderOf's great loop. -/
structure RSt (w : World) (wl : World) (n : Nat) (out : List Nat) (ov : Value) : Prop where
  own : wl.ownsRow (w.heap.size + 1) 3 1 ov out.length ((intsB out).map (Value.int .i64))
  bits : Bits wl w.heap.size (bitsOf n out)
  below : Below w.heap.size w wl
theorem RSt.size {w wl : World} {n : Nat} {out : List Nat} {ov : Value} (h : RSt w wl n out ov) : w.heap.size + 1 ≤ wl.heap.size := VRow.lt h.bits
theorem RSt.keep {w wl w2 : World} {n : Nat} {out : List Nat} {ov : Value} (h : RSt w wl n out ov) (hb : Below wl.heap.size wl w2) : RSt w w2 n out ov :=
  ⟨ownsRow_fr (S := fun _ => False) h.own (Fr.of_below hb) (fun k hk => ⟨(h.own.lt k hk).2, id⟩), VRow.below0 h.bits hb, h.below.trans (hb.mono (by have := h.size; omega))⟩
theorem RSt.step {w wl w5 : World} {n k : Nat} {out : List Nat} {ov v5 : Value} (h : RSt w wl n out ov)
    (ho : w5.ownsRow (w.heap.size + 1) 3 1 v5 (out.length + 1) ((intsB out).map (Value.int .i64) ++ [intE k]))
    (hg : ((wl.setCell ⟨w.heap.size, k, none⟩ (.bool true)).alloc (.cells #[intE k] 3)).grownBy w5 ov.ownBlock) : RSt w w5 n (out ++ [k]) v5 := by
  have h0 : Bits (wl.setCell ⟨w.heap.size, k, none⟩ (.bool true)) w.heap.size (bitsOf n (out ++ [k])) := by
    rw [← bitsOf_set]
    exact Bits.put h.bits k true
  have h1 := VRow.below0 h0 ((Below.refl _ _).alloc (Nat.le_refl _) (.cells #[intE k] 3))
  have hl : ∀ b, ov.ownBlock = some b → w.heap.size + 1 ≤ b := fun b hb => (h.own.lt b hb).1
  refine ⟨by simpa [intsB] using ho, h1.fr (Fr.of_grown hg) h1.lt (fun e => by have := hl _ e; omega), ?_⟩
  refine Below.grown ?_ hg ?_ (fun b hb => Nat.le_trans (by omega) (hl b hb))
  · exact ((h.below.setCell (p := ⟨w.heap.size, k, none⟩) (Nat.le_refl _) _).alloc (by have := h.size; simp; omega) _)
  · have := h.size; simp; omega

set_option maxRecDepth 100000 in
set_option maxHeartbeats 4000000 in
theorem orderOf_any (R : List RV) (v : Value) (gs : Nat) (w : World) (hr : ReadsK 4 w v (R.map rvRow)) (hx : ∀ x ∈ R, Reads w x.2 (x.1.ins.map str)) (hs : Bits w gs (List.replicate R.length true)) (hn : R.length ≤ 1000) :
    Calls Tryz.prog 30 #[v, .slice (some ⟨gs, 0, none⟩) R.length R.length] w fun e w' =>
      ((∃ o u, orderB (edgesB (R.map Prod.fst)) (fun _ => true) (R.map Prod.fst).length = some o ∧ e = .returned (.tuple #[u, .bool true]) ∧ w'.ownsRow w.heap.size 3 1 u o.length ((intsB o).map (Value.int .i64))) ∨
       (orderB (edgesB (R.map Prod.fst)) (fun _ => true) (R.map Prod.fst).length = none ∧ e = .returned (.tuple #[.slice none 0 0, .bool false]))) ∧ Below w.heap.size w w' := by
  have hrow : ∀ r ∈ R.map rvRow, r ≠ [] := fun r hr => by obtain ⟨x, -, rfl⟩ := List.mem_map.1 hr; simp [rvRow]
  obtain ⟨a, c, hv, hle, -⟩ := id hr
  rw [List.length_map] at hv hle
  subst hv
  have KR := Lib.hid (fun wl (hb : Below w.heap.size w wl) i k (hi : i < R.length) (hk : k < R.length) => needs_any R (.slice a R.length c) i k wl (readsK_below0 hr hrow hb) (fun x h => (hx x h).below0 hb) hi hk)
  have HSB : Hid (∀ wl, Below w.heap.size w wl → ∀ i, i < R.length → wl.cell? ⟨gs, i, none⟩ = some (.bool true)) := Lib.hid (fun wl hb i hi => by
    have h := Bits.at (VRow.below0 hs hb) (k := i) (by simpa using hi)
    simpa using h)
  obtain ⟨L, hL⟩ : ∃ L, R.map Prod.fst = L := ⟨_, rfl⟩
  have hLn : L.length = R.length := by rw [← hL]; simp
  rw [hL] at KR ⊢
  have HLN := Lib.hid hLn
  have hmk := make_bools R.length (by omega) w
  obtain ⟨W1, hW1⟩ : ∃ W, w.alloc (.cells ((List.replicate R.length false).map Value.bool).toArray 4) = W := ⟨_, rfl⟩
  have hA : Below w.heap.size w W1 := hW1 ▸ (Below.refl _ w).alloc (Nat.le_refl _) _
  have hb0 : Bits W1 w.heap.size (bitsOf R.length []) := by
    rw [bitsOf_nil, ← hW1]
    exact heap_alloc_here w _
  rw [hW1] at hmk
  have HA := Lib.hid hA
  have HB := Lib.hid hb0
  have HCF : Hid (∀ out i, candB (edgesB L) (fun _ => true) out i = (!out.contains i && freeB L out i R.length)) := Lib.hid (fun out i => by rw [cand_free, hLn])
  clear hr hx hs hL hA hb0 hW1 hLn hrow
  go_enter Tryz.func30, Tryz.ntmps30
  go_wp2_with fail
  go_loopw [6] (fun ov wl => ∃ out : List Nat, OrdR L out ∧ RSt w wl R.length out ov) (fun ov _ => R.length - lenV ov)
  case atStart => exact ⟨[], OrdR.zero L, World.ownsRow_nil _ _ _ _, HB.out, HA.out⟩
  case round =>
    obtain ⟨out, hor, hst⟩ := hrel
    obtain ⟨W2, rfl⟩ : ∃ W, W = wr := ⟨_, rfl⟩
    obtain ⟨ao, co, hov⟩ : ∃ ao co, u6 = .slice ao out.length co := by
      rcases hst.own.2 with ⟨e, h0⟩ | ⟨g, cap, _, e, -⟩
      · exact ⟨none, 0, by rw [e, h0]⟩
      · exact ⟨_, _, e⟩
    subst hov
    have HOR := Lib.hid hor
    have HST := Lib.hid hst
    have HW : Hid (∀ wl, Below W2.heap.size W2 wl → Below w.heap.size w wl) := Lib.hid (fun wl h => (hst.keep h).below)
    have HBT : Hid (∀ wl, Below W2.heap.size W2 wl → ∀ j, j < R.length → wl.cell? ⟨w.heap.size, j, none⟩ = some (.bool (out.contains j))) := Lib.hid (fun wl hb j hj => by
      have h := Bits.at (hst.keep hb).bits (k := j) (by rw [bitsOf_len]; exact hj)
      rw [bitsOf_at] at h
      exact h)
    clear hor hst
    go_wp2_with fail
    go_loopw [8, 9, 10] (fun zv lv iv wl => ∃ (i : Nat) (z : Int), i ≤ R.length ∧ iv = .int .i64 i ∧ zv = .int .i64 z ∧ NextSt (candB (edgesB L) (fun _ => true) out) i z ∧ lv = .bool (leftB out i) ∧ Below W2.heap.size W2 wl) (fun _ _ iv _ => R.length - (intOf iv).toNat)
    case atStart => exact ⟨0, -1, by omega, rfl, rfl, NextSt.zero _, rfl, Below.refl _ _⟩
    case round =>
      obtain ⟨i, z, hi, rfl, rfl, hnx, rfl, hbi⟩ := hrel
      have HNX := Lib.hid hnx
      have HBI := Lib.hid hbi
      by_cases hlt : i < R.length
      · have hlc : ((i : Int) < (R.length : Int)) = True := eq_true (by omega)
        have hcd := HBT.out _ hbi i hlt
        have hixb := fun g => idx_at (P := Tryz.prog) (T := 34) (E := 4) Tryz.underlying34 (by kernel_rfl) g R.length R.length i hlt
        have hLS := leftB_succ out i
        cases hdn : out.contains i with
        | true =>
          rw [hdn] at hcd hLS
          have HC : Hid (candB (edgesB L) (fun _ => true) out i = false) := Lib.hid (by rw [HCF.out, hdn]; rfl)
          have HLS : Hid (leftB out (i + 1) = leftB out i) := Lib.hid (by rw [hLS]; simp)
          clear hnx hbi hdn hLS
          generalize leftB out i = lf at *
          go_wp2
          go_roundw
          case rel => exact ⟨i + 1, z, by omega, by go_num, rfl, HNX.out.skip HC.out, by rw [HLS.out], HBI.out⟩
          case measure => simp [intOf]; omega
        | false =>
          rw [hdn] at hcd hLS
          have hcs := HSB.out _ (HW.out _ hbi) i hlt
          have HLS : Hid (leftB out (i + 1) = true) := Lib.hid (by rw [hLS]; simp)
          have HCI : Hid (candB (edgesB L) (fun _ => true) out i = freeB L out i R.length) := Lib.hid (by rw [HCF.out, hdn]; simp)
          clear hnx hbi hdn hLS
          generalize leftB out i = lf at *
          go_wp2_with fail
          go_loopw [11, 12] (fun fv kv wl => ∃ k : Nat, k ≤ R.length ∧ kv = .int .i64 k ∧ fv = .bool (freeB L out i k) ∧ Below W2.heap.size W2 wl) (fun _ kv _ => R.length - (intOf kv).toNat)
          case atStart => exact ⟨0, by omega, rfl, rfl, HBI.out⟩
          case round =>
            obtain ⟨k, hk, rfl, rfl, hbk⟩ := hrel
            have HBK := Lib.hid hbk
            have hFS := freeB_succ L out i k
            by_cases hlk : k < R.length
            · have hlc2 : ((k : Int) < (R.length : Int)) = True := eq_true (by omega)
              have hck := HBT.out _ hbk k hlk
              have hixk := idx_at (P := Tryz.prog) (T := 34) (E := 4) Tryz.underlying34 (by kernel_rfl) w.heap.size R.length R.length k hlk
              cases hdk : out.contains k with
              | true =>
                rw [hdk] at hck hFS
                have HFS : Hid (freeB L out i (k + 1) = freeB L out i k) := Lib.hid (by rw [hFS]; simp)
                clear hbk hdk hFS
                generalize freeB L out i k = fr at *
                go_wp2
                go_roundw
                case rel => exact ⟨k + 1, by omega, by go_num, by rw [HFS.out], HBK.out⟩
                case measure => simp [intOf]; omega
              | false =>
                rw [hdk] at hck hFS
                have K := Lib.hid (KR.out _ (HW.out _ hbk) i k hlt hlk)
                have HZ := Lib.hid hbk.size
                cases hnb : needB L i k with
                | true =>
                  rw [hnb] at K hFS
                  have HFS : Hid (freeB L out i (k + 1) = false) := Lib.hid (by rw [hFS]; simp)
                  clear hbk hdk hFS hnb
                  generalize freeB L out i k = fr at *
                  go_wp2_with fail
                  refine K.out.mono ?_
                  rintro e w9 ⟨rfl, hb9⟩
                  have HB9 := Lib.hid (HBK.out.trans (hb9.mono HZ.out))
                  clear hb9
                  go_wp2
                  go_roundw
                  case rel => exact ⟨k + 1, by omega, by go_num, by rw [HFS.out], HB9.out⟩
                  case measure => simp [intOf]; omega
                | false =>
                  rw [hnb] at K hFS
                  have HFS : Hid (freeB L out i (k + 1) = freeB L out i k) := Lib.hid (by rw [hFS]; simp)
                  clear hbk hdk hFS hnb
                  generalize freeB L out i k = fr at *
                  go_wp2_with fail
                  refine K.out.mono ?_
                  rintro e w9 ⟨rfl, hb9⟩
                  have HB9 := Lib.hid (HBK.out.trans (hb9.mono HZ.out))
                  clear hb9
                  go_wp2
                  go_roundw
                  case rel => exact ⟨k + 1, by omega, by go_num, by rw [HFS.out], HB9.out⟩
                  case measure => simp [intOf]; omega
            · obtain rfl : k = R.length := by omega
              have hlc2 : ((R.length : Int) < (R.length : Int)) = False := eq_false (by omega)
              clear hbk hFS
              cases hfr : freeB L out i R.length with
              | false =>
                have HC : Hid (candB (edgesB L) (fun _ => true) out i = false) := Lib.hid (by rw [HCI.out, hfr])
                clear hfr
                go_wp2
                go_roundw
                case rel => exact ⟨i + 1, z, by omega, by go_num, rfl, HNX.out.skip HC.out, by rw [HLS.out], HBK.out⟩
                case measure => simp [intOf]; omega
              | true =>
                have HC : Hid (candB (edgesB L) (fun _ => true) out i = true) := Lib.hid (by rw [HCI.out, hfr])
                clear hfr
                by_cases hz : z < 0
                · have hzc : (z < 0) = True := eq_true hz
                  have HZN := Lib.hid hz
                  clear hz
                  go_wp2
                  go_roundw
                  case rel => exact ⟨i + 1, i, by omega, by go_num, rfl, HNX.out.take HZN.out HC.out, by rw [HLS.out], HBK.out⟩
                  case measure => simp [intOf]; omega
                · have hzc : (z < 0) = False := eq_false hz
                  have HZN : Hid (0 ≤ z) := Lib.hid (by omega)
                  clear hz
                  go_wp2
                  go_roundw
                  case rel => exact ⟨i + 1, z, by omega, by go_num, rfl, HNX.out.keep HZN.out, by rw [HLS.out], HBK.out⟩
                  case measure => simp [intOf]; omega
      · obtain rfl : i = R.length := by omega
        have hlc : ((R.length : Int) < (R.length : Int)) = False := eq_false (by omega)
        have HSK := Lib.hid (HST.out.keep hbi)
        have HLF := HLN.out
        cases hlf : leftB out R.length with
        | false =>
          have HD : Hid (orderB (edgesB L) (fun _ => true) L.length = some out) := Lib.hid (HOR.out.done (by rw [HLN.out]; exact hlf))
          clear hnx hbi hlf
          go_wp2
          go_ret2
          exact ⟨Or.inl ⟨out, _, HD.out, rfl, ownsRow_base HSK.out.own (by omega)⟩, HSK.out.below⟩
        | true =>
          have hlf2 : leftB out L.length = true := by rw [HLN.out]; exact hlf
          have hnx2 : NextSt (candB (edgesB L) (fun _ => true) out) L.length z := by rw [HLN.out]; exact hnx
          by_cases hz : z < 0
          · have hzc : (z < 0) = True := eq_true hz
            obtain rfl : z = -1 := by
              rcases hnx with ⟨h, -⟩ | ⟨k, -, h, -⟩ <;> omega
            have HD : Hid (orderB (edgesB L) (fun _ => true) L.length = none) := Lib.hid (HOR.out.none hlf2 hnx2)
            clear hnx hbi hlf hlf2 hnx2 hz
            go_wp2
            go_ret2
            exact ⟨Or.inr ⟨HD.out, rfl⟩, HSK.out.below⟩
          · obtain ⟨k, rfl⟩ : ∃ k : Nat, z = k := ⟨z.toNat, by omega⟩
            have hzc : ((k : Int) < 0) = False := eq_false (by omega)
            obtain ⟨hkn, hor2⟩ := HOR.out.step hlf2 hnx2
            rw [HLN.out] at hkn
            have HOR2 := Lib.hid hor2
            have hol : out.length < R.length := by have := HOR.out.left hlf2; rw [HLN.out] at this; exact this
            have hixk := idx_at (P := Tryz.prog) (T := 34) (E := 4) Tryz.underlying34 (by kernel_rfl) w.heap.size R.length R.length k hkn
            have hck := HBT.out _ hbi k hkn
            have hfz : ∀ j, wr.frozen? ⟨w.heap.size, j, none⟩ = false := VRow.frozen HSK.out.bits
            have HO5 : Hid ((wr.setCell ⟨w.heap.size, k, none⟩ (.bool true)).ownsRow (w.heap.size + 1) 3 1 (.slice ao out.length co) out.length ((intsB out).map (Value.int .i64))) := Lib.hid
              (ownsRow_fr HSK.out.own (Fr.setCell (S := fun q => q = w.heap.size) (p := ⟨w.heap.size, k, none⟩) (Fr.refl wr.heap.size _ wr) (fun _ => rfl) _) (fun q hq => ⟨(HSK.out.own.lt q hq).2, fun e => by have := (HSK.out.own.lt q hq).1; omega⟩))
            have hzr := HSK.out.size
            clear hnx hbi hlf hlf2 hnx2 hz hor2
            go_wp2_with (first
              | (at_builtin
                 refine wpList_app _ rfl _ _ 28 rfl tyInts (w.heap.size + 1) _ _ _ rfl (HO5.out.alloc _) ⟨wr.heap.size, 0, none⟩ 1 1 [intE k] rfl rfl (news_one ?_) ?_ (by decide) ?_ ?_ ?_
                 · have e := heap_alloc_here (wr.setCell ⟨w.heap.size, k, none⟩ (.bool true)) (.cells #[intE k] 3)
                   rw [show (wr.setCell ⟨w.heap.size, k, none⟩ (.bool true)).heap.size = wr.heap.size by simp] at e
                   rw [cell_of_heap e]; rfl
                 · intro u hu; simp at hu; subst hu; rfl
                 · omega
                 · simp; omega
                 intro v6 w6 ho6 hg6 hloc6
                 have HST6 := Lib.hid (HSK.out.step ho6 hg6)
                 obtain ⟨g6, cap6, rfl⟩ := ownsRow_some ho6 (by omega)
                 clear ho6 hg6 hloc6))
            go_wp2
            go_roundw
            case rel => exact ⟨out ++ [k], HOR2.out, HST6.out⟩
            case measure => show R.length - (out.length + 1) < R.length - out.length; omega
end Go.Proofs.YtmlmogllgnfklaaGreatDoor

/-
  The reference: NeededOf.
-/
namespace Go.Proofs.YtmlmogllgnfklaaGreatDoor
open Go Go.RowKit Go.Kf Go.Sort Go.Proofs

theorem bitsOf_congr {n : Nat} {a b : List Nat} (h : ∀ k, k < n → (k ∈ a ↔ k ∈ b)) : bitsOf n a = bitsOf n b := by
  apply List.ext_getElem
  · simp [bitsOf]
  · intro i h1 h2
    rw [bitsOf_at, bitsOf_at, Bool.eq_iff_iff, List.contains_iff_mem, List.contains_iff_mem]
    exact h i (by simpa [bitsOf] using h1)
theorem needL_nodup (n : Nat) (N : List Nat) : (needL n N).Nodup := List.Pairwise.filter _ List.nodup_range
theorem needL_congr {n : Nat} {a b : List Nat} (h : ∀ k, k ∈ a ↔ k ∈ b) : needL n a = needL n b := by
  unfold needL
  congr 1
  funext i
  rw [Bool.eq_iff_iff, List.contains_iff_mem, List.contains_iff_mem]
  exact h i
/-- The marks before the first round. -/
theorem clo_start {l : List RuleL} {outs : List (List UInt8)} {ks : List Nat} (h : PlacesAt l outs ks) : Clo (edgesB l) l.length ks (needL l.length ks) ∧ bitsOf l.length ks = bitsOf l.length (needL l.length ks) := by
  have key : ∀ k, k ∈ needL l.length ks ↔ k ∈ ks := fun k => mem_needL h.1
  exact ⟨⟨needL_nodup _ _, fun k hk => h.1 k ((key k).1 hk), fun k hk => .base ((key k).1 hk), fun k hk => (key k).2 hk⟩, bitsOf_congr (fun k _ => (key k).symm)⟩
theorem bitsOf_again {n k : Nat} {N : List Nat} (hk : k ∈ N) : bitsOf n (N ++ [k]) = bitsOf n N := bitsOf_congr (fun j _ => by
  rw [List.mem_append, List.mem_singleton]
  exact ⟨fun h => h.elim id (fun e => e ▸ hk), Or.inl⟩)

/-- What the search for one out has marked. -/
def FoundSt (l : List RuleL) (ks : List Nat) (s : List UInt8) (k : Nat) (f : Bool) (M : List Nat) : Prop :=
  (f = false ∧ M = ks ∧ ∀ j (hj : j < l.length), j < k → l[j].out ≠ s) ∨ ∃ q, ∃ hq : q < l.length, q < k ∧ f = true ∧ l[q].out = s ∧ M = ks ++ [q]

set_option maxRecDepth 100000 in
set_option maxHeartbeats 4000000 in
theorem neededOf_any (R : List RV) (v : Value) (outs : List (List UInt8)) (vo : Value) (w : World) (hr : ReadsK 4 w v (R.map rvRow)) (hx : ∀ x ∈ R, Reads w x.2 (x.1.ins.map str)) (hO : Reads w vo (outs.map str)) (hR : RightS (R.map Prod.fst)) (hn : R.length ≤ 1000) (ho : outs.length ≤ 1000) :
    Calls Tryz.prog 36 #[v, vo] w fun e w' =>
      ((∃ ks N, PlacesAt (R.map Prod.fst) outs ks ∧ (∀ k, k ∈ N ↔ Reach (edgesB (R.map Prod.fst)) ks k) ∧ e = .returned (.tuple #[.slice (some ⟨w.heap.size, 0, none⟩) R.length R.length, .int .i64 (-1)]) ∧ Bits w' w.heap.size (bitsOf R.length N)) ∨
       (∃ i, ∃ h : i < outs.length, (∀ j (hj : j < outs.length), j < i → outs[j] ∈ (R.map Prod.fst).map RuleL.out) ∧ outs[i] ∉ (R.map Prod.fst).map RuleL.out ∧ e = .returned (.tuple #[.slice none 0 0, .int .i64 (i : Int)]))) ∧ Below w.heap.size w w' := by
  have hrow : ∀ r ∈ R.map rvRow, r ≠ [] := fun r hr => by obtain ⟨x, -, rfl⟩ := List.mem_map.1 hr; simp [rvRow]
  obtain ⟨a, c, hv, hle, -⟩ := id hr
  rw [List.length_map] at hv hle
  subst hv
  obtain ⟨ao, co, hvo, hole, -⟩ := id hO
  rw [List.length_map] at hvo hole
  subst hvo
  have KR := Lib.hid (fun wl (hb : Below w.heap.size w wl) i k (hi : i < R.length) (hk : k < R.length) => needs_any R (.slice a R.length c) i k wl (readsK_below0 hr hrow hb) (fun x h => (hx x h).below0 hb) hi hk)
  have HRK := Lib.hid (fun wl (hb : Below w.heap.size w wl) => readsK_below0 hr hrow hb)
  have HO := Lib.hid (fun wl (hb : Below w.heap.size w wl) => hO.below0 hb)
  obtain ⟨L, hL⟩ : ∃ L, R.map Prod.fst = L := ⟨_, rfl⟩
  have hLn : L.length = R.length := by rw [← hL]; simp
  have hLR : ∀ i (h : i < R.length) (h2 : i < L.length), R[i].1.out = L[i].out := fun i h h2 => by simp only [← hL, List.getElem_map]
  rw [hL] at KR hR ⊢
  have HLN := Lib.hid hLn
  have HLR := Lib.hid hLR
  have HRT := Lib.hid hR
  have hmk := make_bools R.length (by omega) w
  obtain ⟨W1, hW1⟩ : ∃ W, w.alloc (.cells ((List.replicate R.length false).map Value.bool).toArray 4) = W := ⟨_, rfl⟩
  have hA : Below w.heap.size w W1 := hW1 ▸ (Below.refl _ w).alloc (Nat.le_refl _) _
  have hb0 : Bits W1 w.heap.size (bitsOf R.length []) := by
    rw [bitsOf_nil, ← hW1]
    exact heap_alloc_here w _
  rw [hW1] at hmk
  have HA := Lib.hid hA
  have HB := Lib.hid hb0
  clear hr hx hL hA hb0 hW1 hLn hLR hrow hO hR
  go_enter Tryz.func36, Tryz.ntmps36
  go_wp2_with fail
  go_loopw [7] (fun iv wl => ∃ (i : Nat) (ks : List Nat), i ≤ outs.length ∧ iv = .int .i64 i ∧ PlacesAt L (outs.take i) ks ∧ Bits wl w.heap.size (bitsOf R.length ks) ∧ Below w.heap.size w wl) (fun iv _ => outs.length - (intOf iv).toNat)
  case atStart => exact ⟨0, [], by omega, rfl, PlacesAt.nil _, HB.out, HA.out⟩
  case round =>
    obtain ⟨i, ks, hi, rfl, hpl, hbt, hbi⟩ := hrel
    have HPL := Lib.hid hpl
    have HBT := Lib.hid hbt
    have HBI := Lib.hid hbi
    by_cases hlt : i < outs.length
    · have hlc : ((i : Int) < (outs.length : Int)) = True := eq_true (by omega)
      have HTK : Hid (outs.take (i + 1) = outs.take i ++ [outs[i]]) := Lib.hid (by rw [List.take_succ_eq_append_getElem hlt])
      have HMK : Hid (∀ j (hj : j < outs.length), j < i → outs[j] ∈ L.map RuleL.out) := Lib.hid (fun j hj hji => by
        have h1 : outs[j] ∈ outs.take i := List.mem_iff_getElem.2 ⟨j, by rw [List.length_take]; omega, by rw [List.getElem_take]⟩
        rw [← hpl.2] at h1
        obtain ⟨k, hk, e⟩ := List.mem_map.1 h1
        have hkk := hpl.1 k hk
        rw [List.getD_eq_getElem?_getD, List.getElem?_eq_getElem hkk, Option.getD_some] at e
        rw [← e]
        exact List.mem_map.2 ⟨_, List.getElem_mem hkk, rfl⟩)
      have HAT : Hid (∀ s, outs[i] = s → s ∉ L.map RuleL.out → ∃ h : i < outs.length, outs[i] ∉ L.map RuleL.out) := Lib.hid (fun s h1 h2 => ⟨hlt, h1 ▸ h2⟩)
      have HCO : Hid (∀ s, outs[i] = s → ∀ wl, Below w.heap.size w wl → ∃ b o, (∀ w', (Instr.indexAt 25 (.slice ao outs.length co) (.int .i64 (i : Int))).run Tryz.prog w' = .ok (.pointer (some ⟨b, o, none⟩)) w') ∧ wl.cell? ⟨b, o, none⟩ = some (str s)) := Lib.hid (fun s hs wl hb => by
        obtain ⟨b, o, h1, h2⟩ := (HO.out wl hb).at (P := Tryz.prog) Tryz.underlying25 (by kernel_rfl) i (by simpa using hlt)
        simp only [List.getElem_map] at h2
        exact ⟨b, o, h1, by rw [h2, hs]⟩)
      generalize hs : outs[i] = s at *
      have HAT2 := Lib.hid (HAT.out s rfl)
      have HCO2 := Lib.hid (HCO.out s rfl)
      clear HAT HCO hs hpl hbt hbi
      go_wp2_with fail
      go_loopw [8, 9] (fun fv kv wl => ∃ (k : Nat) (f : Bool) (M : List Nat), k ≤ R.length ∧ kv = .int .i64 k ∧ fv = .bool f ∧ FoundSt L ks s k f M ∧ Bits wl w.heap.size (bitsOf R.length M) ∧ Below w.heap.size w wl) (fun _ kv _ => R.length - (intOf kv).toNat)
      case atStart => exact ⟨0, false, ks, by omega, rfl, rfl, Or.inl ⟨rfl, rfl, fun j hj h => absurd h (Nat.not_lt_zero j)⟩, HBT.out, HBI.out⟩
      case round =>
        obtain ⟨k, f, M, hk, rfl, rfl, hfs, hbt, hbk⟩ := hrel
        have HFS := Lib.hid hfs
        have HBTK := Lib.hid hbt
        have HBK := Lib.hid hbk
        by_cases hlk : k < R.length
        · have hlc2 : ((k : Int) < (R.length : Int)) = True := eq_true (by omega)
          obtain ⟨b2, o2, hix2, hc2⟩ := HCO2.out _ hbk
          obtain ⟨b, of, hix, -, hce⟩ := (HRK.out _ hbk).at (P := Tryz.prog) Tryz.underlying22 (by kernel_rfl) k (by simpa using hlk)
          simp only [List.getElem_map] at hce
          have hc0 := hce 0 _ rfl
          simp only [Nat.add_zero] at hc0
          rw [HLR.out k hlk (by rw [HLN.out]; exact hlk)] at hc0
          have hkL : k < L.length := by rw [HLN.out]; exact hlk
          have HSM : Hid ((L[k].out == s) = true → FoundSt L ks s (k + 1) true (ks ++ [k])) := Lib.hid (fun h => Or.inr ⟨k, hkL, by omega, rfl, by simpa using h, rfl⟩)
          have HEX : Hid ((L[k].out == s) = true → M = ks) := Lib.hid (fun h => by
            rcases HFS.out with ⟨-, h1, -⟩ | ⟨q, hq, h1, -, h2, -⟩
            · exact h1
            · have := HRT.out.2.outs hq hkL (h2.trans (by simpa using h : L[k].out = s).symm)
              omega)
          have HNO : Hid ((L[k].out == s) = false → FoundSt L ks s (k + 1) f M) := Lib.hid (fun h => by
            rcases HFS.out with ⟨h1, h2, h3⟩ | ⟨q, hq, h1, h2, h3, h4⟩
            · refine Or.inl ⟨h1, h2, fun j hj hjk => ?_⟩
              by_cases hji : j = k
              · subst hji; simpa using h
              · exact h3 j hj (by omega)
            · exact Or.inr ⟨q, hq, by omega, h2, h3, h4⟩)
          clear hce hfs hbt hbk
          cases hb : L[k].out == s with
          | true =>
            have hbM := HEX.out hb
            have HF2 := Lib.hid (HSM.out hb)
            have hixk := idx_at (P := Tryz.prog) (T := 34) (E := 4) Tryz.underlying34 (by kernel_rfl) w.heap.size R.length R.length k hlk
            have hfz : ∀ j, wr.frozen? ⟨w.heap.size, j, none⟩ = false := VRow.frozen HBTK.out
            have hcx := Bits.at HBTK.out (k := k) (by rw [bitsOf_len]; exact hlk)
            have HBP : Hid (∀ q, Bits ((wr.drewN q).setCell ⟨w.heap.size, k, none⟩ (.bool true)) w.heap.size (bitsOf R.length (ks ++ [k]))) := Lib.hid (fun q => by
              have hbp := Bits.put (VRow.below0 HBTK.out (below_drewN (Below.refl _ _) q)) k true
              rw [bitsOf_set, hbM] at hbp
              exact hbp)
            clear hbM
            generalize L[k].out = x at *
            go_wp2_with fail
            go_quiet (fail)
            go_wp2
            go_roundw
            case rel => exact ⟨k + 1, true, _, by omega, by go_num, rfl, HF2.out, HBP.out _, (below_drewN HBK.out _).setCell (p := ⟨w.heap.size, k, none⟩) (Nat.le_refl _) _⟩
            case measure => simp [intOf]; omega
          | false =>
            have HF2 := Lib.hid (HNO.out hb)
            generalize L[k].out = x at *
            go_wp2_with fail
            go_quiet (fail)
            go_wp2
            go_roundw
            case rel => exact ⟨k + 1, f, M, by omega, by go_num, rfl, HF2.out, VRow.below0 HBTK.out (below_drewN (Below.refl _ _) _), below_drewN HBK.out _⟩
            case measure => simp [intOf]; omega
        · obtain rfl : k = R.length := by omega
          have hlc2 : ((R.length : Int) < (R.length : Int)) = False := eq_false (by omega)
          clear hbt hbk
          cases f with
          | true =>
            have HST : Hid (∃ q, M = ks ++ [q] ∧ PlacesAt L (outs.take (i + 1)) (ks ++ [q])) := Lib.hid (by
              rcases hfs with ⟨h, -⟩ | ⟨q, hq, -, -, h1, h2⟩
              · cases h
              · exact ⟨q, h2, by rw [HTK.out]; exact HPL.out.snoc hq h1⟩)
            clear hfs
            obtain ⟨q, hM, hpq⟩ := HST.out
            subst hM
            have HPQ := Lib.hid hpq
            clear hpq HST
            go_wp2
            go_roundw
            case rel => exact ⟨i + 1, _, by omega, by go_num, HPQ.out, HBTK.out, HBK.out⟩
            case measure => simp [intOf]; omega
          | false =>
            have HNM : Hid (s ∉ L.map RuleL.out) := Lib.hid (by
              rcases hfs with ⟨-, -, h⟩ | ⟨q, hq, -, h, -⟩
              · intro hm
                obtain ⟨r, hr, e⟩ := List.mem_map.1 hm
                obtain ⟨j, hj, rfl⟩ := List.mem_iff_getElem.1 hr
                exact h j hj (by rw [← HLN.out]; exact hj) e
              · cases h)
            clear hfs
            go_wp2
            go_ret2
            obtain ⟨h1, h2⟩ := HAT2.out HNM.out
            exact ⟨Or.inr ⟨i, h1, HMK.out, h2, rfl⟩, HBK.out⟩
    · obtain rfl : i = outs.length := by omega
      have hlc : ((outs.length : Int) < (outs.length : Int)) = False := eq_false (by omega)
      have hpl2 := hpl
      rw [List.take_length] at hpl2
      have hst := clo_start hpl2
      rw [HLN.out] at hst
      have HP2 := Lib.hid hpl2
      have HC0 : Hid (CloN (edgesB L) R.length ks 0 (needL R.length ks)) := Lib.hid (CloN.zero hst.1)
      have HB0 : Hid (Bits wr w.heap.size (bitsOf R.length (needL R.length ks))) := Lib.hid (by rw [← hst.2]; exact hbt)
      have HEL : Hid (∀ i, ∀ k ∈ edgesB L i, k < R.length) := Lib.hid (fun i k hk => by have h := edges_lt _ i k hk; rw [HLN.out] at h; exact h)
      clear hpl hpl2 hst hbt hbi
      go_wp2_with fail
      go_loopw [10] (fun nv wl => ∃ (r : Nat) (N : List Nat), r ≤ R.length ∧ nv = .int .i64 r ∧ CloN (edgesB L) R.length ks r N ∧ Bits wl w.heap.size (bitsOf R.length N) ∧ Below w.heap.size w wl) (fun nv _ => R.length - (intOf nv).toNat)
      case atStart => exact ⟨0, _, by omega, rfl, HC0.out, HB0.out, HBI.out⟩
      case round =>
        obtain ⟨r, N0, hr, rfl, hcn, hbt, hbr⟩ := hrel
        by_cases hlr : r < R.length
        · have hlc3 : ((r : Int) < (R.length : Int)) = True := eq_true (by omega)
          have HCN := Lib.hid hcn
          have HR0 : Hid (CloR (edgesB L) R.length ks N0 (0 * R.length) N0) := Lib.hid (by rw [Nat.zero_mul]; exact CloR.zero hcn.1)
          have HBTR := Lib.hid hbt
          have HBR := Lib.hid hbr
          clear hcn hbt hbr
          go_wp2_with fail
          go_loopw [11] (fun iv wl => ∃ (i : Nat) (N : List Nat), i ≤ R.length ∧ iv = .int .i64 i ∧ CloR (edgesB L) R.length ks N0 (i * R.length) N ∧ Bits wl w.heap.size (bitsOf R.length N) ∧ Below w.heap.size w wl) (fun iv _ => R.length - (intOf iv).toNat)
          case atStart => exact ⟨0, _, by omega, rfl, HR0.out, HBTR.out, HBR.out⟩
          case round =>
            obtain ⟨i, N1, hi, rfl, hcr, hbt, hbi⟩ := hrel
            by_cases hli : i < R.length
            · have hlc4 : ((i : Int) < (R.length : Int)) = True := eq_true (by omega)
              have HCR : Hid (CloR (edgesB L) R.length ks N0 (i * R.length + 0) N1) := Lib.hid hcr
              have HBTI := Lib.hid hbt
              have HBII := Lib.hid hbi
              clear hcr hbt hbi
              go_wp2_with fail
              go_loopw [12] (fun kv wl => ∃ (k : Nat) (N : List Nat), k ≤ R.length ∧ kv = .int .i64 k ∧ CloR (edgesB L) R.length ks N0 (i * R.length + k) N ∧ Bits wl w.heap.size (bitsOf R.length N) ∧ Below w.heap.size w wl) (fun kv _ => R.length - (intOf kv).toNat)
              case atStart => exact ⟨0, _, by omega, rfl, HCR.out, HBTI.out, HBII.out⟩
              case round =>
                obtain ⟨k, N, hk, rfl, hcr, hbt, hbk⟩ := hrel
                by_cases hlk : k < R.length
                · have hlc5 : ((k : Int) < (R.length : Int)) = True := eq_true (by omega)
                  have hixi := idx_at (P := Tryz.prog) (T := 34) (E := 4) Tryz.underlying34 (by kernel_rfl) w.heap.size R.length R.length i hli
                  have hci := Bits.at hbt (k := i) (by rw [bitsOf_len]; exact hli)
                  rw [bitsOf_at] at hci
                  have HCK := Lib.hid hcr
                  have HBTK := Lib.hid hbt
                  have HBK := Lib.hid hbk
                  cases hii : N.contains i with
                  | false =>
                    rw [hii] at hci
                    have HN := Lib.hid (hcr.skip hlk (fun h => by rw [List.contains_iff_mem.2 h] at hii; cases hii) HEL.out)
                    clear hcr hbt hbk hii
                    go_wp2
                    go_roundw
                    case rel => exact ⟨k + 1, _, by omega, by go_num, HN.out, HBTK.out, HBK.out⟩
                    case measure => simp [intOf]; omega
                  | true =>
                    rw [hii] at hci
                    have HII := Lib.hid (List.contains_iff_mem.1 hii)
                    have K := Lib.hid (KR.out _ hbk i k hli hlk)
                    have HZ := Lib.hid hbk.size
                    cases hnb : needB L i k with
                    | false =>
                      rw [hnb] at K
                      have HN := Lib.hid (hcr.skip hlk (fun _ h => by have := (edges_need h).2; rw [hnb] at this; cases this) HEL.out)
                      clear hcr hbt hbk hii hnb
                      go_wp2_with fail
                      refine K.out.mono ?_
                      rintro e w9 ⟨rfl, hb9⟩
                      have HB9 := Lib.hid (HBK.out.trans (hb9.mono HZ.out))
                      have HBT9 := Lib.hid (VRow.below0 HBTK.out hb9)
                      clear hb9
                      go_wp2
                      go_roundw
                      case rel => exact ⟨k + 1, _, by omega, by go_num, HN.out, HBT9.out, HB9.out⟩
                      case measure => simp [intOf]; omega
                    | true =>
                      rw [hnb] at K
                      have hke : k ∈ edgesB L i := need_edges (by rw [HLN.out]; exact hlk) hnb
                      have hixk := idx_at (P := Tryz.prog) (T := 34) (E := 4) Tryz.underlying34 (by kernel_rfl) w.heap.size R.length R.length k hlk
                      have HNX : Hid (∃ N', CloR (edgesB L) R.length ks N0 (i * R.length + (k + 1)) N' ∧ bitsOf R.length (N ++ [k]) = bitsOf R.length N') := Lib.hid (by
                        by_cases hkN : k ∈ N
                        · exact ⟨N, hcr.skip hlk (fun _ _ => hkN) HEL.out, bitsOf_again hkN⟩
                        · exact ⟨N ++ [k], hcr.add hlk HII.out hke hkN HEL.out, rfl⟩)
                      obtain ⟨N', hN', hNe⟩ := HNX.out
                      have HN' := Lib.hid hN'
                      have HNE := Lib.hid hNe
                      clear hcr hbt hbk hii hnb hke HNX hN' hNe
                      go_wp2_with fail
                      refine K.out.mono ?_
                      rintro e w9 ⟨rfl, hb9⟩
                      have HB9 := Lib.hid (HBK.out.trans (hb9.mono HZ.out))
                      have hbt9 := VRow.below0 HBTK.out hb9
                      have hfz : ∀ j, w9.frozen? ⟨w.heap.size, j, none⟩ = false := VRow.frozen hbt9
                      have hck := Bits.at hbt9 (k := k) (by rw [bitsOf_len]; exact hlk)
                      have hbp := Bits.put hbt9 k true
                      rw [bitsOf_set, HNE.out] at hbp
                      have HBP := Lib.hid hbp
                      clear hb9 hbt9 hbp
                      go_wp2
                      go_roundw
                      case rel => exact ⟨k + 1, _, by omega, by go_num, HN'.out, HBP.out, HB9.out.setCell (p := ⟨w.heap.size, k, none⟩) (Nat.le_refl _) _⟩
                      case measure => simp [intOf]; omega
                · obtain rfl : k = R.length := by omega
                  have hlc5 : ((R.length : Int) < (R.length : Int)) = False := eq_false (by omega)
                  have HN : Hid (CloR (edgesB L) R.length ks N0 ((i + 1) * R.length) N) := Lib.hid (by rw [Nat.succ_mul]; exact hcr)
                  have HBTK := Lib.hid hbt
                  have HBK := Lib.hid hbk
                  clear hcr hbt hbk
                  go_wp2
                  go_roundw
                  case rel => exact ⟨i + 1, _, by omega, by go_num, HN.out, HBTK.out, HBK.out⟩
                  case measure => simp [intOf]; omega
            · obtain rfl : i = R.length := by omega
              have hlc4 : ((R.length : Int) < (R.length : Int)) = False := eq_false (by omega)
              have HN := Lib.hid (HCN.out.turn hcr HEL.out)
              have HBTK := Lib.hid hbt
              have HBK := Lib.hid hbi
              clear hcr hbt hbi
              go_wp2
              go_roundw
              case rel => exact ⟨r + 1, _, by omega, by go_num, HN.out, HBTK.out, HBK.out⟩
              case measure => simp [intOf]; omega
        · obtain rfl : r = R.length := by omega
          have hlc3 : ((R.length : Int) < (R.length : Int)) = False := eq_false (by omega)
          have HF : Hid (∀ k, k ∈ N0 ↔ Reach (edgesB L) ks k) := Lib.hid (fun k => hcn.stop k)
          have HBT := Lib.hid hbt
          have HBR := Lib.hid hbr
          clear hcn hbt hbr
          go_wp2
          go_ret2
          exact ⟨Or.inl ⟨ks, N0, HP2.out, HF.out, rfl, HBT.out⟩, HBR.out⟩
end Go.Proofs.YtmlmogllgnfklaaGreatDoor
