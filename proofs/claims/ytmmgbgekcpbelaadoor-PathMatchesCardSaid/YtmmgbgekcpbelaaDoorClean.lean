/-
  The walk of path.Clean.
-/
import Derived.Test.YtmmgbgekcpbelaaDoorCleanPure
import Derived.Test.YtmmgbgekcpbelaaDoorSplIt
namespace Go.Proofs.YtmmgbgekcpbelaaDoor
open Go Go.RowKit Go.Shelf Go.Kf

attribute [local go_sem] Oper.semAt_some

/-- What Clean holds between two rounds: the parts that are left, the results. -/
def CleanI (w : World) (pre : List (List UInt8)) (W : World) : Prop :=
  ∃ out v, cleanFold pre = some out ∧ Boxed W (w.heap.size + 1 + 1) 29 v ∧ W.ownsRow (w.heap.size + 6) 9 1 v out.length (out.map str) ∧ Boxed W w.heap.size 9 (str []) ∧ Boxed W (w.heap.size + 1) 26 .nilIface ∧ w.heap.size + 6 ≤ W.heap.size ∧ Below w.heap.size w W
/-- What Clean holds where it has gone up too far. -/
def CleanX (w : World) (S : Nat → Addr) (c : Code) (pre : List (List UInt8)) (W : World) : Prop :=
  c = .ret ∧ cleanFold pre = none ∧ Boxed W w.heap.size 9 (str []) ∧ Boxed W (w.heap.size + 1) 26 (errI (S 2)) ∧ Below w.heap.size w W

theorem CleanI.keep {w : World} {pre : List (List UInt8)} {W W' : World} {row : Option Nat} (h : CleanI w pre W) (hg : W.grownBy W' row)
    (hr : ∀ r, row = some r → w.heap.size + 3 ≤ r ∧ (r = w.heap.size + 3 ∨ ∃ o : Obj, W.heap[r]? = some o ∧ o.isCells = false)) : CleanI w pre W' := by
  obtain ⟨out, v, hc, hb, hown, h0, h1, hz, hB⟩ := h
  have far : ∀ k, k < w.heap.size + 3 → some k ≠ row := fun k hk e => by have := (hr k e.symm).1; omega
  refine ⟨out, v, hc, hb.kept hg (far _ (by omega)), ?_, h0.kept hg (far _ (by omega)), h1.kept hg (far _ (by omega)), Nat.le_trans hz hg.size, hB.grown hg hB.size (fun k e => by have := (hr k e).1; omega)⟩
  refine hown.kept hg ?_
  rcases hown.2 with ⟨rfl, _⟩ | ⟨g, cap, cur, rfl, hbg, hh, _⟩
  · exact Or.inl rfl
  · refine Or.inr fun e => ?_
    simp only [Value.ownBlock] at e
    rcases (hr g e.symm).2 with h2 | ⟨o, h2, h3⟩
    · omega
    · rw [hh] at h2; cases h2; cases h3
theorem CleanX.keep {w : World} {S : Nat → Addr} {c : Code} {pre : List (List UInt8)} {W W' : World} {row : Option Nat} (h : CleanX w S c pre W) (hg : W.grownBy W' row)
    (hr : ∀ r, row = some r → w.heap.size + 3 ≤ r) : CleanX w S c pre W' := by
  obtain ⟨hc, hn, h0, h1, hB⟩ := h
  have far : ∀ k, k < w.heap.size + 3 → some k ≠ row := fun k hk e => by have := hr k e.symm; omega
  exact ⟨hc, hn, h0.kept hg (far _ (by omega)), h1.kept hg (far _ (by omega)), hB.grown hg hB.size (fun k e => by have := hr k e; omega)⟩
theorem cleanI_box (w : World) {B : Nat} (hB : w.heap.size + 3 ≤ B) : OwnBox B (w.heap.size + 3) (CleanI w) where
  alloc s W o h := h.keep (World.grownBy_alloc W o none) (fun r e => by cases e)
  put s W l o o' h hl ho hc := h.keep (grownBy_putObj' W l o') (fun r e => by cases e; exact ⟨by omega, Or.inr ⟨o, ho, hc⟩⟩)
  set s W v h := h.keep (grownBy_setCell' W _ v) (fun r e => by cases e; exact ⟨by omega, Or.inl rfl⟩)
theorem cleanX_box (w : World) (S : Nat → Addr) (c : Code) {B : Nat} (hB : w.heap.size + 3 ≤ B) : OwnBox B (w.heap.size + 3) (CleanX w S c) where
  alloc s W o h := h.keep (World.grownBy_alloc W o none) (fun r e => by cases e)
  put s W l o o' h hl ho hc := h.keep (grownBy_putObj' W l o') (fun r e => by cases e; omega)
  set s W v h := h.keep (grownBy_setCell' W _ v) (fun r e => by cases e; omega)

theorem _root_.Go.Kf.cell_far {w : World} {p q : Addr} (v : Value) (u : Option Value) (h : q.block ≠ p.block) : ((w.setCell p v).cell? q = u) = (w.cell? q = u) := by
  rw [World.cell?_of_block (w := w) (w' := w.setCell p v) (Below.heap_setCell _ _ _ _ h)]
theorem tyStrsC : (Tryd.prog.info? 9).map (fun i => (i.zero, i.size, i.bytes)) = some (some (str []), 1, 16) := by kernel_rfl

/-- The results laid, at the function's end. -/
theorem clean_end (w w2 : World) (D : Nat) (a : List UInt8) (u x y : Value) (v0 : Boxed w2 w.heap.size 9 x) (v1 : Boxed w2 (w.heap.size + 1) 26 y) (hK : w2.heap[D]? = some (.deferred (some []))) (hD : w.heap.size ≤ D) (hB : Below w.heap.size w w2) :
    ((w2.setCell ⟨w.heap.size, 0, none⟩ (str a)).setCell ⟨w.heap.size + 1, 0, none⟩ u).heap[D]? = some (.deferred (some [])) ∧
      (((w2.setCell ⟨w.heap.size, 0, none⟩ (str a)).setCell ⟨w.heap.size + 1, 0, none⟩ u).putObj D (.deferred none)).cell? ⟨w.heap.size, 0, none⟩ = some (str a) ∧
      (((w2.setCell ⟨w.heap.size, 0, none⟩ (str a)).setCell ⟨w.heap.size + 1, 0, none⟩ u).putObj D (.deferred none)).cell? ⟨w.heap.size + 1, 0, none⟩ = some u ∧
      Below w.heap.size w (((w2.setCell ⟨w.heap.size, 0, none⟩ (str a)).setCell ⟨w.heap.size + 1, 0, none⟩ u).putObj D (.deferred none)) := by
  have hK3 := ((KeepsOthers.setCell w2 ⟨w.heap.size, 0, none⟩ (str a)).trans (KeepsOthers.setCell _ ⟨w.heap.size + 1, 0, none⟩ u)).same D _ hK rfl
  have y0 := ((v0.set (str a)).other (B' := w.heap.size + 1) (by omega) u).cell
  have y1 := ((v1.other (B' := w.heap.size) (by omega) (str a)).set u).cell
  refine ⟨hK3, cell_kept y0 (grownBy_putObj' _ D (.deferred none)) (fun r e => by cases e; exact ⟨_, hK3, rfl⟩), cell_kept y1 (grownBy_putObj' _ D (.deferred none)) (fun r e => by cases e; exact ⟨_, hK3, rfl⟩), ?_⟩
  exact ((hB.setCell (p := ⟨w.heap.size, 0, none⟩) (Nat.le_refl _) _).setCell (p := ⟨w.heap.size + 1, 0, none⟩) (by simp) _).trans (belowK_b (w := w) (Nat.le_refl _) _ D _ _ hD hK3 rfl rfl)

set_option maxRecDepth 100000 in
set_option maxHeartbeats 4000000 in
theorem clean_short (s : List UInt8) (w : World) (S : Nat → Addr) (hm : Ml w) (hE : PErr w S) (hs : s.length ≤ 200) :
    CallsIn Fence.wide 6 Tryd.prog 32 #[str s] w fun e w' => e = .returned (.tuple #[str (cleanR s).1, codeV S (cleanR s).2]) ∧ Below w.heap.size w w' := by
  have HM := Lib.hid hm
  have HE := Lib.hid hE
  clear hm hE
  obtain ⟨i0, hi, hz0, hz1, hz2⟩ := info_parts tyStrsC
  refine callsIn_of_wp_marks Tryd.func32 rfl trivial ?_ rfl
  simp only [Tryd.ntmps32, List.size_toArray, List.length_cons, List.length_nil, Nat.reduceAdd, Nat.reduceSub, Array.replicate_succ, Array.replicate_zero, List.push_toArray, List.append_toArray, List.nil_append, List.cons_append]
  gi_wp2_with (refine ⟨trivial, ?_⟩; gi_at_call 53; refine (callsIn_wide.2 (splitSeq_any s [47] _)).mono ?_; rintro e w' ⟨rfl, rfl⟩)
  have hd200 : decide ((200 : Int) < (s.length : Int)) = false := by simp; omega
  obtain ⟨W0, hW0⟩ : ∃ W0, ((((((w.alloc (.cells #[str []] 9)).alloc (.cells #[.nilIface] 26)).alloc (.cells #[.slice none 0 0] 29)).alloc (.cells #[str s] 9)).alloc (.cells #[str [47]] 9)).alloc (.cells #[.int .i64 0] 3)) = W0 := ⟨_, rfl⟩
  have z0 : W0.heap.size = w.heap.size + 6 := by rw [← hW0]; simp
  have bB : Below w.heap.size w W0 := by
    rw [← hW0]
    exact ((((((Below.refl _ w).alloc (Nat.le_refl _) _).alloc (by simp) _).alloc (by simp; omega) _).alloc (by simp; omega) _).alloc (by simp; omega) _).alloc (by simp; omega) _
  have x0 : Boxed W0 w.heap.size 9 (str []) := by
    rw [← hW0]; exact (((((Boxed.new w _ _).alloc _).alloc _).alloc _).alloc _).alloc _
  have x1 : Boxed W0 (w.heap.size + 1) 26 .nilIface := by
    have := Boxed.new (w.alloc (.cells #[str []] 9)) 26 .nilIface
    rw [World.size_alloc] at this
    rw [← hW0]; exact (((this.alloc _).alloc _).alloc _).alloc _
  have x2 : Boxed W0 (w.heap.size + 1 + 1) 29 (.slice none 0 0) := by
    have := Boxed.new ((w.alloc (.cells #[str []] 9)).alloc (.cells #[.nilIface] 26)) 29 (.slice none 0 0)
    rw [World.size_alloc, World.size_alloc] at this
    rw [← hW0]; exact ((this.alloc _).alloc _).alloc _
  have x3 : SplBoxes W0 (w.heap.size + 1 + 1 + 1) 47 s := by
    have e1 := Boxed.new (((w.alloc (.cells #[str []] 9)).alloc (.cells #[.nilIface] 26)).alloc (.cells #[.slice none 0 0] 29)) 9 (str s)
    have e2 := Boxed.new ((((w.alloc (.cells #[str []] 9)).alloc (.cells #[.nilIface] 26)).alloc (.cells #[.slice none 0 0] 29)).alloc (.cells #[str s] 9)) 9 (str [47])
    have e3 := Boxed.new (((((w.alloc (.cells #[str []] 9)).alloc (.cells #[.nilIface] 26)).alloc (.cells #[.slice none 0 0] 29)).alloc (.cells #[str s] 9)).alloc (.cells #[str [47]] 9)) 3 (.int .i64 0)
    rw [World.size_alloc, World.size_alloc, World.size_alloc] at e1
    rw [World.size_alloc, World.size_alloc, World.size_alloc, World.size_alloc] at e2
    rw [World.size_alloc, World.size_alloc, World.size_alloc, World.size_alloc, World.size_alloc] at e3
    rw [← hW0]
    exact ⟨(e1.alloc _).alloc _, e2.alloc _, e3⟩
  rw [hW0, hd200]
  clear hW0 hd200
  refine wpIn_rangeFunc_box rfl (by omega) (gf := 84) rfl trivial (enters_of Tryd.func84 (by kernel_rfl) rfl)
    (spl_stops 5 (by omega) (w.heap.size + 1 + 1 + 1) 47 s (by omega) W0 (by omega) x3) (by omega) kpSpl_t (kpSpl_b (by omega)) (Below.refl _ _) (fun _ => rfl)
    (CleanI w) (CleanX w S) (cleanI_box w (by omega)) (fun c => cleanX_box w S c (by omega)) ⟨[], _, rfl, x2, World.ownsRow_nil _ _ _ _, x0, x1, by omega, bB⟩
    (fun x => { tmps := #[str s, undef, .pointer (some ⟨w.heap.size, 0, none⟩), .pointer (some ⟨w.heap.size + 1, 0, none⟩), .pointer (some ⟨w.heap.size + 1 + 1, 0, none⟩), str x, undef, undef, str s, .int .i64 s.length, .bool false, undef, str s,
      .func (.func 84) #[] #[.pointer (some ⟨w.heap.size + 1 + 1 + 1 + 1, 0, none⟩), .pointer (some ⟨w.heap.size + 1 + 1 + 1, 0, none⟩), .pointer (some ⟨w.heap.size + 1 + 1 + 1 + 2, 0, none⟩)],
      str x, undef, undef, undef, undef, undef, undef, undef, undef, undef, undef, undef, undef, undef, undef, undef, undef, undef, undef, undef, undef, undef, undef, undef, undef, undef, undef, undef, undef, undef, undef, undef], defers := [] }) ?assign ?body ?done ?stop
  case assign =>
    intro l x W K hK
    gi_wp2
    exact hK
  case body =>
    rintro l pre x W ⟨out, v, hcf, hb, hown, h0, h1, hz, hB⟩ hlt
    have hlen := cleanFold_len hcf
    have HCF := Lib.hid hcf
    clear hcf
    have c2 := hb.cell
    have f2 := hb.frozen
    have g2 := h0.cell
    have g3 := h1.cell
    have k2 := h0.frozen
    have k3 := h1.frozen
    have hE2 := (HE.out.below hB (Nat.le_refl _)).shape
    by_cases hx1 : x = [] ∨ x = [46]
    · have HI : Hid (CleanI w (pre ++ [x]) W) := Lib.hid ⟨out, v, by rw [cleanFold_snoc, HCF.out, cleanStep, if_pos hx1], hb, hown, h0, h1, hz, hB⟩
      rcases hx1 with rfl | rfl
      all_goals
        gi_wp2
        exact ⟨KeepsOthers.refl _, fun _ _ _ => rfl, HI.out⟩
    · have n1 : ¬ x = [] := fun e => hx1 (Or.inl e)
      have n2 : ¬ x = [46] := fun e => hx1 (Or.inr e)
      have HX1 := Lib.hid hx1
      clear hx1
      by_cases hx2 : x = [46, 46]
      · subst hx2
        by_cases ho : out = []
        · subst ho
          obtain ⟨a, cap, rfl, -, -⟩ := ownsRow_reads hown
          have HXx : Hid (cleanFold (pre ++ [[46, 46]]) = none) := Lib.hid (by rw [cleanFold_snoc, HCF.out, cleanStep, if_neg HX1.out, if_pos rfl, if_pos rfl])
          clear n1 n2
          gi_wp2
          have hmx : Tryd.prog.follows Departure.mixedOrders = true := by kernel_rfl
          have hE3 : (W.setCell ⟨w.heap.size, 0, none⟩ (str [])).cell? ⟨2, 0, none⟩ = some (errI (S 2)) := by
            have hlt2 := lt_of_cell HE.out.shape
            rw [Kf.cell_far _ _ (by simp at hlt2 ⊢; omega)]
            exact hE2
          have HX : Hid (CleanX w S .ret (pre ++ [[46, 46]]) ((W.setCell ⟨w.heap.size, 0, none⟩ (str [])).setCell ⟨w.heap.size + 1, 0, none⟩ (errI (S 2))).drew) := Lib.hid
            ⟨rfl, HXx.out, (h0.set _).other (by omega) _, (h1.other (by omega) _).set _, ((hB.setCell (p := ⟨w.heap.size, 0, none⟩) (Nat.le_refl _) _).setCell (p := ⟨w.heap.size + 1, 0, none⟩) (by simp) _).drew⟩
          gi_region_with_o (fail)
          all_goals
            gi_wp2
            exact ⟨((KeepsOthers.setCell _ _ _).trans (KeepsOthers.setCell _ _ _)).trans (KeepsOthers.drew _), HX.out⟩
        · obtain ⟨a, cap, rfl, -, -⟩ := ownsRow_reads hown
          rw [List.length_map] at hown c2 hb
          obtain ⟨m, hm⟩ : ∃ m, out.length = m + 1 := ⟨out.length - 1, by have := List.length_pos_iff.2 ho; omega⟩
          have HXx : Hid (cleanFold (pre ++ [[46, 46]]) = some out.dropLast) := Lib.hid (by rw [cleanFold_snoc, HCF.out, cleanStep, if_neg HX1.out, if_pos rfl, if_neg ho])
          obtain ⟨g, rfl⟩ : ∃ g, a = some ⟨g, 0, none⟩ := by
            rcases hown.2 with ⟨hv, hz⟩ | ⟨g, cap', cur, hv, _⟩
            · omega
            · injection hv with hv1; exact ⟨g, hv1⟩
          have hcap : m + 1 ≤ cap := by
            rcases hown.2 with ⟨hv, _⟩ | ⟨g', cap', cur, hv, _, _, hn, _⟩
            · cases hv
            · injection hv with hv1 hv2 hv3; omega
          rw [hm] at hown c2 hb
          have hm5 : m ≤ 1000 := by omega
          have hcut := ownsRow_cut (m := m) hown (by omega)
          have hdl : (out.map str).take m = out.dropLast.map str := by
            rw [List.dropLast_eq_take, ← List.map_take, hm]; rfl
          have hdn : out.dropLast.length = m := by rw [List.length_dropLast, hm]; rfl
          rw [hdl] at hcut
          have HI : Hid (CleanI w (pre ++ [[46, 46]]) (W.setCell ⟨w.heap.size + 1 + 1, 0, none⟩ (.slice (some ⟨g, 0, none⟩) m cap))) := Lib.hid (by
            refine ⟨_, _, HXx.out, hb.set _, ?_, h0.other (by omega) _, h1.other (by omega) _, by simpa [World.setCell] using hz, hB.setCell (p := ⟨w.heap.size + 1 + 1, 0, none⟩) (by simp; omega) _⟩
            rw [hdn]
            exact hcut.kept (grownBy_setCell' W _ _) (Or.inr (hb.not_row (by decide) hown).symm))
          have hsub : (m : Int) + 1 - 1 = (m : Int) := by omega
          clear n1 n2 hm hdl hdn hcut ho
          gi_wp2
          exact ⟨KeepsOthers.setCell _ _ _, fun k hk1 _ => heap_setCell_far _ _ _ _ (by simp; omega), HI.out⟩
      · have HXx : Hid (cleanFold (pre ++ [x]) = some (out ++ [x])) := Lib.hid (by rw [cleanFold_snoc, HCF.out, cleanStep, if_neg HX1.out, if_neg hx2])
        have hol : out.length ≤ 1000 := by omega
        have d1 : (x == [46]) = false := by simpa using n2
        have d2 : (x == [46, 46]) = false := by simpa using hx2
        have d3 : x.isEmpty = false := by simpa using n1
        clear n2 hx2
        gi_wp2_with (gi_at_builtin; refine wpListIn_append_own _ rfl _ _ 29 rfl (w.heap.size + 6) 9 i0 (str []) 1 16 Tryd.underlying29 hi hz0 hz1 hz2 rfl (by decide) _ _ _ rfl (hown.alloc _) ⟨W.heap.size, 0, none⟩ 1 1 [str x] rfl rfl (cell_one_new _ _ _) (by simp [Value.oneCell']) (by unfold maxLen; omega) (by omega) (by simp; omega) ?_; intro v' w1 hown' hgrow _; obtain ⟨g', cap', rfl⟩ := ownsRow_succ hown'; have hv1 := (hb.alloc (.cells #[str x] 9)).kept hgrow (hb.not_row (by decide) hown); have hc1 := hv1.cell; have hf1 := hv1.frozen)
        have hge : ∀ k, v.ownBlock = some k → w.heap.size + 6 ≤ k := fun k hk => (hown.lt k hk).1
        have hb0 : ∀ k, k < w.heap.size + 6 → w1.heap[k]? = W.heap[k]? := fun k hk =>
          (hgrow.block k (by simp; omega) (fun e => by have := hge k e.symm; omega)).trans (Below.heap_alloc W _ k (by omega))
        have hfin : ∀ k, k < w.heap.size + 6 → k ≠ w.heap.size + 1 + 1 → (w1.setCell ⟨w.heap.size + 1 + 1, 0, none⟩ (.slice (some ⟨g', 0, none⟩) (out.length + 1) cap')).heap[k]? = W.heap[k]? := fun k hk hn =>
          (heap_setCell_far _ _ _ _ hn).trans (hb0 k hk)
        have hrow' := hown'.kept (grownBy_setCell' w1 (w.heap.size + 1 + 1) (.slice (some ⟨g', 0, none⟩) (out.length + 1) cap')) (.inr (hv1.not_row (by decide) hown').symm)
        obtain ⟨-, -, -, hk2, hb2⟩ := hb.appended (by decide) (ownsRow_base hown (show w.heap.size ≤ w.heap.size + 6 by omega)) hB.size (by omega) (ownsRow_base hown' (show w.heap.size ≤ w.heap.size + 6 by omega)) hgrow
        refine ⟨hk2, fun k hk1 hk3 => hfin k (by omega) (by omega), out ++ [x], _, HXx.out, hv1.set _, ?_, (hfin _ (by omega) (by omega)).trans h0, (hfin _ (by omega) (by omega)).trans h1, Nat.le_trans hz hk2.size, hB.trans hb2⟩
        simpa using hrow'
  case done =>
    rintro D ys W hD rfl ⟨out, v, hcf, hb, hown, h0, h1, hz, hB⟩ hK
    have hol := cleanFold_len hcf
    have hsl := spl_length_le 47 s
    have hmem := cleanFold_mem hcf (spl_mem_len 47 s)
    have hclr : cleanR s = finR (cleanFold (spl 47 s)) := by
      unfold cleanR
      rw [if_neg (by omega)]
    rw [hcf] at hclr
    have HCL := Lib.hid hclr
    have HM' := Lib.hid hmem
    have hDlt : D < W.heap.size := (Array.getElem?_eq_some_iff.1 hK).1
    have c2 := hb.cell
    have g2 := h0.cell
    have g3 := h1.cell
    have k2 := h0.frozen
    have k3 := h1.frozen
    clear hclr hcf hmem
    cases out with
    | nil =>
      obtain ⟨a, cap, rfl, -, -⟩ := ownsRow_reads hown
      have hmx : Tryd.prog.follows Departure.mixedOrders = true := by kernel_rfl
      have hE2 := (HE.out.below hB (Nat.le_refl _)).none
      have hE3 : (W.setCell ⟨w.heap.size, 0, none⟩ (str [])).cell? ⟨5, 0, none⟩ = some (errI (S 5)) := by
        have hlt2 := lt_of_cell HE.out.none
        rw [Kf.cell_far _ _ (by simp at hlt2 ⊢; omega)]
        exact hE2
      have hb3 : Below w.heap.size w ((W.setCell ⟨w.heap.size, 0, none⟩ (str [])).setCell ⟨w.heap.size + 1, 0, none⟩ (errI (S 5))).drew := ((hB.setCell (p := ⟨w.heap.size, 0, none⟩) (Nat.le_refl _) _).setCell (p := ⟨w.heap.size + 1, 0, none⟩) (by simp) _).drew
      have hK3 : ((W.setCell ⟨w.heap.size, 0, none⟩ (str [])).setCell ⟨w.heap.size + 1, 0, none⟩ (errI (S 5))).drew.heap[D]? = some (.deferred (some [])) :=
        (((KeepsOthers.setCell W ⟨w.heap.size, 0, none⟩ (str [])).trans (KeepsOthers.setCell _ ⟨w.heap.size + 1, 0, none⟩ (errI (S 5)))).trans (KeepsOthers.drew _)).same D _ hK rfl
      have y0 := ((h0.set (str [])).other (B' := w.heap.size + 1) (by omega) (errI (S 5))).cell
      have y1 := ((h1.other (B' := w.heap.size) (by omega) (str [])).set (errI (S 5))).cell
      have hk0 := cell_kept y0 (grownBy_putObj' ((W.setCell ⟨w.heap.size, 0, none⟩ (str [])).setCell ⟨w.heap.size + 1, 0, none⟩ (errI (S 5))) D (.deferred none)) (fun r e => by cases e; exact ⟨_, hK3, rfl⟩)
      have hk1 := cell_kept y1 (grownBy_putObj' ((W.setCell ⟨w.heap.size, 0, none⟩ (str [])).setCell ⟨w.heap.size + 1, 0, none⟩ (errI (S 5))) D (.deferred none)) (fun r e => by cases e; exact ⟨_, hK3, rfl⟩)
      have Hk0 : Hid ((((W.setCell ⟨w.heap.size, 0, none⟩ (str [])).setCell ⟨w.heap.size + 1, 0, none⟩ (errI (S 5))).drew.putObj D (.deferred none)).cell? ⟨w.heap.size, 0, none⟩ = some (str [])) := Lib.hid hk0
      have Hk1 : Hid ((((W.setCell ⟨w.heap.size, 0, none⟩ (str [])).setCell ⟨w.heap.size + 1, 0, none⟩ (errI (S 5))).drew.putObj D (.deferred none)).cell? ⟨w.heap.size + 1, 0, none⟩ = some (errI (S 5))) := Lib.hid hk1
      have HK3 := Lib.hid hK3
      have HB3 := Lib.hid hb3
      clear hk0 hk1 y0 y1 hK3 hb3
      gi_wp2
      gi_region_with_o (fail)
      all_goals
        gi_wp2
        refine ⟨by simp, .inl ⟨_, _, rfl, run_takeDeferred HK3.out, ?_⟩⟩
        refine ⟨.tuple #[str [], errI (S 5)], by simp [results, Tryd.results32, go_sem, Hk0.out, Hk1.out], by rw [HCL.out]; rfl, HB3.out.trans (belowK_b (w := w) (Nat.le_refl _) _ D _ _ (by omega) HK3.out rfl rfl)⟩
    | cons x out =>
      have hcc : cleanR s = if partsL (Lib.join (x :: out) [47]) false = [] then ([], 4) else (Lib.join (x :: out) [47], 0) := HCL.out
      obtain ⟨a, cap, rfl, -, -⟩ := ownsRow_reads hown
      rw [List.length_map] at hown c2 hb
      obtain ⟨g, rfl⟩ : ∃ g, a = some ⟨g, 0, none⟩ := by
        rcases hown.2 with ⟨hv, hz⟩ | ⟨g, cap', cur, hv, _⟩
        · simp at hz
        · injection hv with hv1; exact ⟨g, hv1⟩
      have hcap : (x :: out).length ≤ cap := by
        rcases hown.2 with ⟨hv, _⟩ | ⟨g', cap', cur, hv, _, _, hn, _⟩
        · cases hv
        · injection hv with hv1 hv2 hv3; omega
      have hg : g < W.heap.size := (hown.lt g rfl).2
      have hl0 : (((x :: out).length : Int) == 0) = false := by simp; omega
      have hjl := join_len (x :: out) s.length HM'.out
      have hj := join_any g cap (x :: out) W hg (by omega) (fun t ht => by have := HM'.out t ht; omega) hcap (fun j t hj => by
        have := hown.cellAt j (by
          rcases Nat.lt_or_ge j (x :: out).length with h' | h'
          · omega
          · rw [List.getElem?_eq_none h'] at hj; cases hj)
        rw [this, List.getElem?_map, hj]; rfl)
      generalize hlen : (x :: out).length = len at *
      have hjl2 : (Lib.join (x :: out) [47]).length ≤ 1000000 := by
        have : (s.length + 1) * len ≤ (s.length + 1) * 1000 := Nat.mul_le_mul_left _ (by omega)
        omega
      generalize Lib.join (x :: out) [47] = t at *
      have HCC := Lib.hid hcc
      have HJ := Lib.hid hj
      clear hcc hj hjl HCL HM' hlen
      gi_wp2_with (refine ⟨trivial, ?_⟩; gi_at_call 54; refine (callsIn_wide.2 HJ.out).mono ?_; rintro e w1 ⟨rfl, hb1⟩)
      have b1 : Below w.heap.size w w1 := hB.trans (hb1.mono hB.size)
      have hC := check_any t w1 S (HM.out.below b1 (Nat.le_refl _)) (HE.out.below b1 (Nat.le_refl _)) hjl2
      have y0 : Boxed w1 w.heap.size 9 (str []) := (hb1.block _ (by omega)).trans h0
      have y1 : Boxed w1 (w.heap.size + 1) 26 .nilIface := (hb1.block _ (by omega)).trans h1
      have yK : w1.heap[D]? = some (.deferred (some [])) := (hb1.block D hDlt).trans hK
      have z1 : W.heap.size ≤ w1.heap.size := hb1.size
      clear hb1 HJ h0 h1 hK hb hown hB g2 g3 k2 k3 c2
      by_cases hp : partsL t false = []
      · have hcv : checkV S t = errI (S 3) := by unfold checkV; rw [if_pos hp]
        rw [hcv] at hC
        have HC := Lib.hid hC
        have HCR : Hid (cleanR s = ([], 4)) := Lib.hid (by rw [HCC.out, if_pos hp])
        clear hC hcv hp HCC
        gi_wp2_with (refine ⟨trivial, ?_⟩; gi_at_call 33; refine (callsIn_wide.2 HC.out).mono ?_; rintro e w2 ⟨rfl, hb2⟩; have v0 := (hb2.block _ (by omega)).trans y0; have v1 := (hb2.block _ (by omega)).trans y1; have g2 := Boxed.cell v0; have g3 := Boxed.cell v1; have k2 := Boxed.frozen v0; have k3 := Boxed.frozen v1)
        obtain ⟨e1, e2, e3, e4⟩ := clean_end w w2 D [] (errI (S 3)) _ _ v0 v1 ((hb2.block D (by omega)).trans yK) (by omega) (b1.trans (hb2.mono b1.size))
        refine ⟨by simp, .inl ⟨_, _, rfl, run_takeDeferred e1, ?_⟩⟩
        exact ⟨.tuple #[str [], (errI (S 3))], by simp [results, Tryd.results32, go_sem, e2, e3], by rw [HCR.out]; rfl, e4⟩
      · have hcv : checkV S t = .nilIface := by unfold checkV; rw [if_neg hp]
        rw [hcv] at hC
        have HC := Lib.hid hC
        have HCR : Hid (cleanR s = (t, 0)) := Lib.hid (by rw [HCC.out, if_neg hp])
        clear hC hcv hp HCC
        gi_wp2_with (refine ⟨trivial, ?_⟩; gi_at_call 33; refine (callsIn_wide.2 HC.out).mono ?_; rintro e w2 ⟨rfl, hb2⟩; have v0 := (hb2.block _ (by omega)).trans y0; have v1 := (hb2.block _ (by omega)).trans y1; have g2 := Boxed.cell v0; have g3 := Boxed.cell v1; have k2 := Boxed.frozen v0; have k3 := Boxed.frozen v1)
        obtain ⟨e1, e2, e3, e4⟩ := clean_end w w2 D t .nilIface _ _ v0 v1 ((hb2.block D (by omega)).trans yK) (by omega) (b1.trans (hb2.mono b1.size))
        refine ⟨by simp, .inl ⟨_, _, rfl, run_takeDeferred e1, ?_⟩⟩
        exact ⟨.tuple #[str t, .nilIface], by simp [results, Tryd.results32, go_sem, e2, e3], by rw [HCR.out]; rfl, e4⟩
  case stop =>
    rintro D c pre W hD hpre ⟨rfl, hcf, h0, h1, hB⟩ hK
    have hcl : cleanR s = ([], 3) := by
      unfold cleanR
      rw [if_neg (by omega), cleanFold_prefix hpre hcf]
      rfl
    have HCL := Lib.hid hcl
    clear hcl
    gi_wp2
    refine ⟨by simp, .inl ⟨_, _, rfl, run_takeDeferred hK, ?_⟩⟩
    have hk0 : (W.putObj D (.deferred none)).cell? ⟨w.heap.size, 0, none⟩ = some (str []) := cell_kept h0.cell (grownBy_putObj' _ D (.deferred none)) (fun r e => by cases e; exact ⟨_, hK, rfl⟩)
    have hk1 : (W.putObj D (.deferred none)).cell? ⟨w.heap.size + 1, 0, none⟩ = some (errI (S 2)) := cell_kept h1.cell (grownBy_putObj' _ D (.deferred none)) (fun r e => by cases e; exact ⟨_, hK, rfl⟩)
    refine ⟨.tuple #[str [], errI (S 2)], by simp [results, Tryd.results32, go_sem, hk0, hk1], by rw [HCL.out]; rfl, hB.trans (belowK_b (w := w) (Nat.le_refl _) W D _ _ (by omega) hK rfl rfl)⟩

set_option maxRecDepth 100000 in
theorem clean_any (s : List UInt8) (w : World) (S : Nat → Addr) (hm : Ml w) (hE : PErr w S) (hs : s.length ≤ 1000000) :
    Calls Tryd.prog 32 #[str s] w fun e w' => e = .returned (.tuple #[str (cleanR s).1, codeV S (cleanR s).2]) ∧ Below w.heap.size w w' := by
  by_cases h : s.length ≤ 200
  · exact callsIn_wide.1 (clean_short s w S hm hE h)
  · have hcr : cleanR s = ([], 2) := by unfold cleanR; rw [if_pos (by omega)]
    rw [hcr]
    have hd : ((200 : Int) < (s.length : Int)) = True := by simp; omega
    obtain ⟨W1, hW1⟩ : ∃ W1, (w.alloc (.cells #[str []] 9)).alloc (.cells #[.nilIface] 26) = W1 := ⟨_, rfl⟩
    have b1 : Below w.heap.size w W1 := by
      rw [← hW1]; exact ((Below.refl _ w).alloc (Nat.le_refl _) _).alloc (by simp) _
    have x0 : Boxed W1 w.heap.size 9 (str []) := by
      rw [← hW1]; exact (Boxed.new w _ _).alloc _
    have x1 : Boxed W1 (w.heap.size + 1) 26 .nilIface := by
      have := Boxed.new (w.alloc (.cells #[str []] 9)) 26 .nilIface
      rw [World.size_alloc] at this
      rw [← hW1]; exact this
    have hE1 := (hE.below b1 (Nat.le_refl _)).bound
    have hE3 : (W1.setCell ⟨w.heap.size, 0, none⟩ (str [])).cell? ⟨1, 0, none⟩ = some (errI (S 1)) := by
      have hlt2 := lt_of_cell hE.bound
      rw [Kf.cell_far _ _ (by simp at hlt2 ⊢; omega)]
      exact hE1
    have g0 := x0.cell
    have g1 := x1.cell
    have k0 := x0.frozen
    have k1 := x1.frozen
    have HW := Lib.hid hW1
    have HX0 := Lib.hid x0
    have HX1 := Lib.hid x1
    have HB1 := Lib.hid b1
    clear hcr hW1 x0 x1 b1 hE hm
    go_enter Tryd.func32, Tryd.ntmps32
    go_wp2
    rw [HW.out]
    go_region
    all_goals
      go_wp2
      have y0 := ((HX0.out.set (str [])).other (B' := w.heap.size + 1) (by omega) (errI (S 1))).cell
      have y1 := ((HX1.out.other (B' := w.heap.size) (by omega) (str [])).set (errI (S 1))).cell
      exact bodyPost_ret (v := .tuple #[str [], errI (S 1)]) (by simp [results, Tryd.results32, go_sem, y0, y1]) rfl ⟨rfl, ((HB1.out.setCell (p := ⟨w.heap.size, 0, none⟩) (Nat.le_refl _) _).setCell (p := ⟨w.heap.size + 1, 0, none⟩) (by simp) _).drew⟩
end Go.Proofs.YtmmgbgekcpbelaaDoor
