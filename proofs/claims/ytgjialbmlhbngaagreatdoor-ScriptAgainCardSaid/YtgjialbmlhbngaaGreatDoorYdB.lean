/-
  A yard: Rules. A yard: Make. A yard: Stale.
-/
import Derived.Test.YtgjialbmlhbngaaGreatDoorYdA
import Derived.Test.YtgjialbmlhbngaaGreatDoorPkR
import Derived.Deep.RegionLaw
import Derived.Test.YtgjialbmlhbngaaGreatDoorBdD
import Derived.Test.YtgjialbmlhbngaaGreatDoorMid
import Derived.Test.YtgjialbmlhbngaaGreatDoorPkO

set_option maxRecDepth 100000
namespace Go.Proofs.YtgjialbmlhbngaaGreatDoor
open Go Go.RowKit Go.Kf Go.Sort Go.Proofs
def YRulesAns (S : Nat → Addr) (B : Nat) (Y : YPl) (vl lv : Value) (R : List RV) (m mo : List Ent) (c : CS) (R' : List RV) (w : World) (e : Ending) (w' : World) : Prop :=
  (∃ T x, e = .returned (.iface T x) ∧ (SheetBad S (R'.map Prod.fst) w.heap.size (.iface T x) w' ∨ (RightS (R'.map Prod.fst) ∧ orderB (edgesB (R'.map Prod.fst)) (fun _ => true) (R'.map Prod.fst).length = none ∧ Value.iface T x = errI (S 8))) ∧ YAt B Y vl lv R m mo c w' ∧ Below w.heap.size w w') ∨
  (e = .returned .nilIface ∧ RightS (R'.map Prod.fst) ∧ (∃ o, orderB (edgesB (R'.map Prod.fst)) (fun _ => true) (R'.map Prod.fst).length = some o) ∧ ∃ vl' R2, R2.map Prod.fst = R'.map Prod.fst ∧ YAt B Y vl' lv R2 m mo c w' ∧ OwnAt w.heap.size w' vl' R2 ∧ Fr w.heap.size (fun k => k = Y.yb) w w')
theorem idx_at4 (g n c i : Nat) (hi : i < n) (w' : World) : (Instr.indexAt 22 (.slice (some ⟨g, 0, none⟩) n c) (.int .i64 (i : Int))).run Tryz.prog w' = .ok (.pointer (some ⟨g, i * 4, none⟩)) w' := by
  have hT := Tryz.underlying22
  rw [run_indexAt_slice (h := by rw [elem_of hT]; exact hT), if_pos (by omega), elem_of hT, run_sizeOf' (s := 4) (by kernel_rfl)]
  by_cases h0 : i = 0
  · simp [h0, Result.andThen, Addr.add]
  · have h1 : ¬ i * 4 = 0 := by omega
    simp [h1, Result.andThen, Addr.add]
set_option maxHeartbeats 2000000 in
theorem yrules_any {S : Nat → Addr} {B : Nat} {Y : YPl} {vl lv : Value} {R : List RV} {m mo : List Ent} {c : CS} (w : World) (h : YAt B Y vl lv R m mo c w) (R' : List RV) (v : Value) (hR : ∀ wl, Fr w.heap.size (fun k => k = Y.yb) w wl → RulesAt wl v R') (hcap : Roomy v) (hno : ∀ ad n c, v = .slice (some ad) n c → ad.spot = none) (hm : Ml w) (hE : KErr w S) (hN : NErr w) (ht : Tab w)
    (hb : ∀ x ∈ R', x.1.out.length ≤ 1000000 ∧ x.1.word.length ≤ 100000 ∧ (∀ s ∈ x.1.ins, s.length ≤ 1000000) ∧ x.1.ins.length ≤ 1000) (hn : R'.length ≤ 1000) :
    Calls Tryz.prog 14 #[ptrV Y.yb, v] w (YRulesAns S B Y vl lv R m mo c R' w) := by
  have KG := Hd (gorder_any R' v w S (hR w (Fr.refl _ _ _)) hcap hm hE hN ht hb (by omega))
  have HRW := Hd hR
  have H := Hd h
  have HNO := Hd hno
  have HIN : Hid (∀ x ∈ R', x.1.ins.length ≤ 1000) := Hd (fun x hx => (hb x hx).2.2.2)
  have HRX : Hid (∀ x ∈ R', ∃ a n c, x.2 = .slice a n c) := Hd (fun x hx => by
    obtain ⟨a, c, h1, -⟩ := ((hR w (Fr.refl _ _ _)).2 x hx).1
    exact ⟨a, _, c, h1⟩)
  clear h hR hcap hno hm hE hN ht hb
  go_enter Tryz.func14, Tryz.ntmps14
  go_wp2_with fail
  refine KG.out.mono ?_
  rintro e w1 ⟨ha, hb1⟩
  have HB1 := Hd hb1
  have HY1 := Hd (H.out.below hb1)
  rcases ha with ⟨hrs, ⟨o, u, ho, rfl, hown⟩ | ⟨hno, rfl⟩⟩ | ⟨T, x, rfl, hbad⟩
  rotate_left
  · have HG : Hid (RightS (R'.map Prod.fst) ∧ orderB (edgesB (R'.map Prod.fst)) (fun _ => true) (R'.map Prod.fst).length = none) := Hd ⟨hrs, hno⟩
    clear hrs hno hb1
    go_wp2
    go_ret
    exact Or.inl ⟨_, _, rfl, Or.inr ⟨HG.out.1, HG.out.2, rfl⟩, HY1.out, HB1.out⟩
  · have HG := Hd hbad
    clear hbad hb1
    go_wp2
    go_ret
    exact Or.inl ⟨_, _, rfl, Or.inl HG.out, HY1.out, HB1.out⟩
  have HG : Hid (RightS (R'.map Prod.fst) ∧ ∃ o, orderB (edgesB (R'.map Prod.fst)) (fun _ => true) (R'.map Prod.fst).length = some o) := Hd ⟨hrs, o, ho⟩
  have KC := Hd (cloneR_any R' v w1 (HRW.out w1 (Fr.of_below hb1)).1 HRX.out HNO.out hn)
  clear hrs ho hown hb1
  go_wp2_with fail
  refine KC.out.mono ?_
  rintro e w2 ⟨vl2, rfl, hown2, hb2⟩
  have hb02 := HB1.out.trans (hb2.mono HB1.out.size)
  have HB2 := Hd hb02
  have hY2 := HY1.out.below hb2
  have HY2 := Hd hY2
  have HO2 := Hd (ownsRow_base hown2 HB1.out.size)
  have hd2 : w2.cell? ⟨Y.yb, 2, none⟩ = some vl := hY2.cells.2.2.1
  have hf2 : w2.frozen? ⟨Y.yb, 2, none⟩ = false := hY2.box.frozen 2
  obtain ⟨W2, hW2⟩ : ∃ W, w2.setCell ⟨Y.yb, 2, none⟩ vl2 = W := ⟨_, rfl⟩
  have HW2 := Hd hW2
  have HF2 : Hid (Fr w.heap.size (fun k => k = Y.yb) w W2) := Hd (hW2 ▸ Fr.setCell (S := fun k => k = Y.yb) (p := ⟨Y.yb, 2, none⟩) (Fr.of_below hb02) (fun _ => rfl) _)
  have HBX : Hid (VRow 120 W2 Y.yb [ptrV Y.tb, ptrV Y.ob, vl2, ptrV Y.pb]) := Hd (hW2 ▸ hY2.box.set 2 vl2)
  have HYB : Hid (Y.yb < w.heap.size) := Hd H.out.box.lt
  have HS2 : Hid (HalfOwn w.heap.size W2 vl2 R' [] 0) := Hd (HalfOwn.start (hW2 ▸ ownsRow_fr HO2.out (Fr.setCell (S := fun k => k = Y.yb) (p := ⟨Y.yb, 2, none⟩) (Fr.refl w2.heap.size _ w2) (fun _ => rfl) _) (fun k hk => ⟨(HO2.out.lt k hk).2, fun e => by have := (HO2.out.lt k hk).1; have := HYB.out; omega⟩)))
  have hc2 : W2.cell? ⟨Y.yb, 2, none⟩ = some vl2 := HBX.out.cell rfl
  have HZ2 : Hid (w.heap.size ≤ W2.heap.size) := Hd HF2.out.size
  clear hb02 hb2 hown2 hY2 KC
  rcases HS2.out.row.2 with ⟨hv0, h0⟩ | ⟨g, cap, cur, hvg, -⟩
  · obtain rfl := List.length_eq_zero_iff.1 h0
    subst hv0
    go_wp2_with fail
    go_loopw [26] (fun iv wl => iv = .int .i64 0 ∧ wl = W2) (fun _ _ => 0)
    case atStart => exact ⟨rfl, rfl⟩
    case round =>
      obtain ⟨rfl, rfl⟩ := hrel
      go_wp2
      go_ret
      exact Or.inr ⟨rfl, HG.out.1, HG.out.2, _, [], rfl, H.out.rstep HBX.out ⟨World.ownsRow_nil _ _ _ _, fun x hx => by cases hx⟩ HF2.out, ⟨World.ownsRow_nil _ _ _ _, fun x hx => by cases hx⟩, HF2.out⟩
  · have HGB : Hid (w.heap.size ≤ g ∧ g < W2.heap.size) := Hd (HS2.out.row.lt g (by rw [hvg]; rfl))
    subst hvg
    go_wp2_with fail
    go_loopw [26] (fun iv wl => ∃ (i : Nat) (A : List RV), iv = .int .i64 i ∧ HalfOwn w.heap.size wl (.slice (some ⟨g, 0, none⟩) R'.length cap) R' A i ∧ Fr w.heap.size (fun k => k = Y.yb) w wl ∧ wl.cell? ⟨Y.yb, 2, none⟩ = some (.slice (some ⟨g, 0, none⟩) R'.length cap) ∧ VRow 120 wl Y.yb [ptrV Y.tb, ptrV Y.ob, .slice (some ⟨g, 0, none⟩) R'.length cap, ptrV Y.pb]) (fun iv _ => R'.length - (intOf iv).toNat)
    case atStart => exact ⟨0, [], rfl, HS2.out, HF2.out, hc2, HBX.out⟩
    case round =>
      obtain ⟨i, A, rfl, hho, hfr, hc2, hbx⟩ := hrel
      have HHO := Hd hho
      have HFR := Hd hfr
      have HBR := Hd hbx
      have hle := hho.le
      have hzr := hfr.size
      by_cases hlt : i < R'.length
      · have hlc : ((i : Int) < (R'.length : Int)) = True := eq_true (by omega)
        have hix := idx_at4 g R'.length cap i hlt
        have hrow := ownsRow_readsK hho.row (by simp [hho.len]; omega) (rvRow_len _)
        obtain ⟨a', c', e', -, hcs⟩ := id hrow
        have hgx : ((A ++ R'.drop i).map rvRow)[i]? = some (rvRow R'[i]) := by
          rw [List.getElem?_map, List.getElem?_append_right (by rw [hho.len]; omega), hho.len, Nat.sub_self, List.getElem?_drop, Nat.add_zero, List.getElem?_eq_getElem hlt]
          rfl
        obtain ⟨b', o', e2, hcj⟩ := hcs i _ hgx
        have hc4 := hcj 3 R'[i].2 rfl
        simp only [Value.slice.injEq] at e'
        rw [← e'.1] at e2
        simp only [Option.some.injEq, Addr.mk.injEq] at e2
        rw [← e2.1, ← e2.2.1, Nat.zero_add] at hc4
        have hf4 : wr.frozen? ⟨g, i * 4 + 3, none⟩ = false := by
          rcases hho.row.2 with ⟨h0, -⟩ | ⟨g', cap', cur, hv, -, hh, -⟩
          · cases h0
          · cases hv
            exact free_of_heap hh _
        have KCS := Hd (fun wl (hb : Below wr.heap.size wr wl) => (cloneS_any R'[i].2 R'[i].1.ins wl (((HRW.out wr hfr).2 _ (List.getElem_mem hlt)).1.below0 hb) (HIN.out _ (List.getElem_mem hlt))).mono (fun e w' h => (by
          obtain ⟨v', h1, h2, h3⟩ := h
          exact ⟨v', h1, ownsRow_base h2 hb.size, hb.trans (h3.mono hb.size)⟩ : ∃ v', e = .returned v' ∧ w'.ownsRow wr.heap.size 9 1 v' R'[i].1.ins.length (R'[i].1.ins.map str) ∧ Below wr.heap.size wr w')))
        have HGW : Hid (g < wr.heap.size) := Hd (lt_of_cell hc4)
        have HYW : Hid (Y.yb < wr.heap.size) := Hd (lt_of_cell hc2)
        obtain ⟨ax, nx, cx, hx3⟩ := HRX.out _ (List.getElem_mem hlt)
        rw [hx3] at hc4 KCS
        clear hho hfr hbx hrow e' hcs hgx hcj e2
        go_wp2_with fail
        go_region_law (first
          | (go_simp
             go_at_call 69
             refine (KCS.out _ ?_).mono ?_
             · first | exact (Below.refl _ _) | exact (Below.refl _ _).drew
             rintro e w3 ⟨uu, rfl, ho3, hb3⟩
             obtain ⟨a3, c3, hu3, -⟩ := id (ownsRow_reads ho3)
             rw [List.length_map] at hu3
             subst hu3
             have d2 := (hb3.cell (p := ⟨Y.yb, 2, none⟩) HYW.out).trans hc2
             have d4 := (hb3.cell (p := ⟨g, i * 4 + 3, none⟩) HGW.out).trans hc4
             have f4 := (hb3.frozen (p := ⟨g, i * 4 + 3, none⟩) HGW.out).trans hf4))
        all_goals
          have HN := Hd ((HHO.out.below hb3).next hlt rfl (ownsRow_base ho3 hzr) (fun k hk => by have := (ho3.lt k hk).1; have := HGW.out; omega))
          have hfg : Fr wr.heap.size (fun k => k = g) wr (w3.setCell ⟨g, i * 4 + 3, none⟩ (.slice a3 R'[i].1.ins.length c3)) := Fr.setCell (S := fun k => k = g) (p := ⟨g, i * 4 + 3, none⟩) (Fr.of_below hb3) (fun _ => rfl) _
          have hyg : Y.yb ≠ g := fun e => by have := HYB.out; have := HGB.out.1; omega
          have HF : Hid (Fr w.heap.size (fun k => k = Y.yb) w (w3.setCell ⟨g, i * 4 + 3, none⟩ (.slice a3 R'[i].1.ins.length c3))) := Hd (HFR.out.trans (hfg.mono hzr (fun k hk e => by have := HGB.out.1; omega)))
          have HBN := Hd (HBR.out.fr hfg HBR.out.lt hyg)
          clear hfg hyg ho3 hb3 d2 d4 f4 hc4 hf4
          go_wp2
          go_roundw
          case rel => exact ⟨i + 1, _, by go_num, HN.out, HF.out, HBN.out.cell rfl, HBN.out⟩
          case measure => simp [intOf]; omega
      · obtain rfl : i = R'.length := by omega
        have hlc : ((R'.length : Int) < (R'.length : Int)) = False := eq_false (by omega)
        clear hho hfr hbx
        go_wp2
        go_ret
        obtain ⟨h1, h2⟩ := HHO.out.whole
        exact Or.inr ⟨rfl, HG.out.1, HG.out.2, _, A, h2, H.out.rstep HBR.out h1 HFR.out, h1, HFR.out⟩
theorem results_cell_tmp {P : Program} {fn : Func} {p q : Tmp} {ty : TypeId} (h : fn.results = #[.cell p ty, .tmp q]) (tmps : Array Value) (w : World) (g : Nat) (t : TypeId) (cs : Array Value) (fr : Nat × Nat) (d : TypeDesc)
    (hp : tmps.getD p undef = .pointer (some ⟨g, 0, none⟩)) (hg : w.heap[g]? = some (.cells cs t fr))
    (hu : P.underlying ty = some d) (hd : (match d with | .struct _ | .array _ _ => true | _ => false) = true) (hi : (P.info? ty).map (·.size) = some cs.size) :
    (results fn tmps).run P w = .ok (.tuple #[.agg cs, tmps.getD q undef]) w := by
  have hp' : tmps[p]?.getD undef = .pointer (some ⟨g, 0, none⟩) := by simpa using hp
  simp [results, h, hp', asAddr, run_loadVar_row w g t ty cs fr d hg hu hd hi]
theorem count_ret2 {fn : Func} {p q : Tmp} (h : fn.results = #[.cell p 45, .tmp q]) (tmps : Array Value) (w : World) (g : Nat) (a b c d : Value)
    (hp : tmps.getD p undef = .pointer (some ⟨g, 0, none⟩)) (hg : w.heap[g]? = some (.cells #[a, b, c, d] 45 (0, 0))) : (results fn tmps).run Tryz.prog w = .ok (.tuple #[.agg #[a, b, c, d], tmps.getD q undef]) w :=
  results_cell_tmp h tmps w g _ _ _ _ hp hg Tryz.underlying45 rfl count_size
def layOne (l : List RuleL) (P : List Nat) (st : Nat → St) (mo : List Ent) (i : Nat) : List Ent :=
  if rSt P st i = stName 2 then putM (l.getD i noR).out (st i).out mo else if rSt P st i = stName 3 ∨ rSt P st i = stName 4 then mdel (l.getD i noR).out mo else mo
def MoOk (mo : List Ent) : Prop := mo.length ≤ 60 ∧ ∀ y ∈ mo, y.1.length ≤ 1000000
theorem mem_mdelY {p : List UInt8} {y : Ent} : ∀ {m : List Ent}, y ∈ mdel p m → y ∈ m
  | [], h => by simp [mdel] at h
  | x :: m, h => by
    unfold mdel at h
    split at h
    · exact List.mem_cons_of_mem _ h
    · rcases List.mem_cons.1 h with h | h
      · exact h ▸ List.mem_cons_self
      · exact List.mem_cons_of_mem _ (mem_mdelY h)
theorem mdel_lenY {p : List UInt8} : ∀ (m : List Ent), (mdel p m).length ≤ m.length
  | [] => by simp [mdel]
  | x :: m => by
    unfold mdel
    split
    · simp
    · have := mdel_lenY (p := p) m
      simp only [List.length_cons]
      omega
theorem mem_mupdY {p b : List UInt8} {x : Ent} : ∀ {m : List Ent}, x ∈ mupd p b m → x = (p, b) ∨ x ∈ m
  | [], h => by simp [mupd] at h; exact Or.inl h
  | (q, c) :: m, h => by
    unfold mupd at h
    split at h
    · rcases List.mem_cons.1 h with h | h
      · exact Or.inl h
      · exact Or.inr (List.mem_cons_of_mem _ h)
    · rcases List.mem_cons.1 h with h | h
      · exact Or.inr (h ▸ List.mem_cons_self)
      · exact (mem_mupdY h).elim Or.inl (fun h => Or.inr (List.mem_cons_of_mem _ h))
theorem MoOk.put {p b : List UInt8} {mo : List Ent} (h : MoOk mo) (hp : p.length ≤ 1000000) : MoOk (putM p b mo) := by
  unfold putM
  split
  · rename_i hc
    refine ⟨?_, fun y hy => ?_⟩
    · have h1 := congrArg List.length (mkeys_upd p b mo)
      rw [List.length_map] at h1
      rw [h1]
      split
      · rw [List.length_map]; exact h.1
      · rename_i hn
        rw [List.length_append, List.length_map, List.length_singleton]
        have hl : (mlook p mo).isSome = false := by
          cases hx : mlook p mo with
          | none => rfl
          | some v => exact absurd (look_key.1 (by rw [hx]; rfl)) hn
        unfold putC at hc
        rw [hl] at hc
        have := h.1
        by_cases h60 : 60 ≤ mo.length
        · exfalso
          split at hc
          · omega
          · split at hc
            · omega
            · split at hc
              · omega
              · rw [if_pos ⟨rfl, h60⟩] at hc
                omega
        · omega
    · rcases mem_mupdY hy with rfl | hy
      · exact hp
      · exact h.2 y hy
  · exact h
theorem MoOk.del {p : List UInt8} {mo : List Ent} (h : MoOk mo) : MoOk (mdel p mo) :=
  ⟨Nat.le_trans (mdel_lenY mo) h.1, fun y hy => h.2 y (mem_mdelY hy)⟩
theorem MoOk.one {l : List RuleL} {P : List Nat} {st : Nat → St} {mo : List Ent} (h : MoOk mo) (hl : ∀ r ∈ l, r.out.length ≤ 1000000) (i : Nat) (hi : i < l.length) : MoOk (layOne l P st mo i) := by
  have h1 : (l.getD i noR).out.length ≤ 1000000 := by rw [getD_at hi]; exact hl _ (List.getElem_mem hi)
  unfold layOne
  split
  · exact h.put h1
  · split
    · exact h.del
    · exact h
def outsOf (l : List RuleL) (outs : List (List UInt8)) : List (List UInt8) := if outs = [] then l.map RuleL.out else outs
def YMakeAns (S : Nat → Addr) (B : Nat) (Y : YPl) (vl lv : Value) (R : List RV) (m mo : List Ent) (c : CS) (outs : List (List UInt8)) (w : World) (e : Ending) (w' : World) : Prop :=
  (∃ T x, e = .returned (.tuple #[countV 0 0 0 0, .iface T x]) ∧ BNewAns S (R.map Prod.fst) (outsOf (R.map Prod.fst) outs) m (ptrV Y.pb) w.heap.size (.returned (.tuple #[.pointer none, .iface T x])) w' ∧ YAt B Y vl lv R m mo c w' ∧ Below w.heap.size w w') ∨
  (∃ (P o ks js ord : List Nat) (c' : CS) (st' : Nat → St) (lv' : Value), PlacesAt (R.map Prod.fst) (outsOf (R.map Prod.fst) outs) ks ∧ (∀ k, k ∈ P ↔ Reach (edgesB (R.map Prod.fst)) ks k) ∧ Ord (R.map Prod.fst) P o ∧ AllRel (R.map Prod.fst) P (fun p => mlook p m) (some c) (fun _ => st0) js (some c') st' ∧
    orderB (edgesB (R.map Prod.fst)) (fun _ => true) (R.map Prod.fst).length = some ord ∧ e = .returned (.tuple #[countV (cntP P st' isRan) (cntP P st' isHit) (cntP P st' isFailed) (cntP P st' isLeft), .nilIface]) ∧
    YAt B Y vl lv' R m (ord.foldl (layOne (R.map Prod.fst) P st') mo) c' w' ∧ Fr w.heap.size (fun q => q = Y.om ∨ foot Y.pb Y.cm lv q) w w' ∧ (∀ q, foot Y.pb Y.cm lv' q → foot Y.pb Y.cm lv q ∨ w.heap.size ≤ q))
theorem bnew_two {S : Nat → Addr} {l : List RuleL} {outs : List (List UInt8)} {m : List Ent} {cv : Value} {B : Nat} {e : Ending} {w' : World} (h : BNewAns S l outs m cv B e w') : ∃ x y, e = .returned (.tuple #[x, y]) := by
  rcases h with ⟨T, x, rfl, -⟩ | ⟨ks, N, o, D, -, -, -, -, rfl, -⟩
  · exact ⟨_, _, rfl⟩
  · exact ⟨_, _, rfl⟩
theorem new_err_fr {S : Nat → Addr} {l : List RuleL} {outs : List (List UInt8)} {m : List Ent} {cv : Value} {B B' : Nat} {T : TypeId} {x : Value} {w w' : World} {Q : Nat → Prop} (h : BNewAns S l outs m cv B (.returned (.tuple #[.pointer none, .iface T x])) w) (hf : Fr w.heap.size Q w w')
    (hQ : ∀ q cs, w.heap[q]? = some (.cells cs 222 (0, 0)) → ¬ Q q) (hB : B' ≤ B) : BNewAns S l outs m cv B' (.returned (.tuple #[.pointer none, .iface T x])) w' := by
  rcases h with ⟨T', x', he, hbad⟩ | ⟨ks, N, o, D, -, -, -, -, he, -⟩
  case' inr => exact absurd he (by simp)
  refine Or.inl ⟨T', x', he, ?_⟩
  rcases hbad with (h1 | ⟨h0, i, r, mm, g, h1, h2, h3, h4, h5, h6⟩) | ⟨hr, i, g, hi, hal, hno, hv, hg⟩ | h1
  · exact Or.inl (Or.inl h1)
  · exact Or.inl (Or.inr ⟨h0, i, r, mm, g, h1, h2, h3, h4, Nat.le_trans hB h5, (hf.block g (lt_of_heap h6) (hQ g _ h6)).trans h6⟩)
  · exact Or.inr (Or.inl ⟨hr, i, g, hi, hal, hno, hv, (hf.block g (lt_of_heap hg) (hQ g _ hg)).trans hg⟩)
  · exact Or.inr (Or.inr h1)
set_option maxHeartbeats 4000000 in
theorem ymake_any {S : Nat → Addr} {B : Nat} {Y : YPl} {vl lv : Value} {R : List RV} {m mo : List Ent} {c : CS} (w0 w : World) (hB : w0.heap.size = B) (h : YAt B Y vl lv R m mo c w) (hcok : COk (some c)) (hV : BEnv S (R.map Prod.fst) m w0) (hlow : Below w0.heap.size w0 w) (hright : RightS (R.map Prod.fst)) (hord : ∃ o, orderB (edgesB (R.map Prod.fst)) (fun _ => true) (R.map Prod.fst).length = some o)
    (hmo : MoOk mo) (outs : List (List UInt8)) (vo : Value) (hO : Reads w vo (outs.map str)) (ho : outs.length ≤ 1000) :
    Calls Tryz.prog 20 #[ptrV Y.yb, vo] w (YMakeAns S B Y vl lv R m mo c outs w) := by
  have hn : R.length ≤ 41 := by have := hright.1; rw [List.length_map] at this; omega
  obtain ⟨ao, co, hvo, -, -⟩ := id hO
  rw [List.length_map] at hvo
  subst hvo
  have hbnd : ∀ x ∈ R, x.1.out.length ≤ 1000000 ∧ x.1.word.length ≤ 100000 ∧ (∀ s ∈ x.1.ins, s.length ≤ 1000000) ∧ x.1.ins.length ≤ 1000 := fun x hx => by
    have := hV.short x.1 (List.mem_map.2 ⟨x, hx, rfl⟩)
    exact ⟨this.1, by omega, this.2.2.2.1, this.2.2.2.2⟩
  obtain ⟨W0, hW0⟩ : ∃ W, w.alloc (.cells #[.int .i64 0, .int .i64 0, .int .i64 0, .int .i64 0] 45) = W := ⟨_, rfl⟩
  have hA0 : Below w.heap.size w W0 := hW0 ▸ (Below.refl _ w).alloc (Nat.le_refl _) _
  have hg0 : W0.heap[w.heap.size]? = some (.cells #[.int .i64 0, .int .i64 0, .int .i64 0, .int .i64 0] 45 (0, 0)) := hW0 ▸ heap_alloc_here w _
  have KOUT := Hd (youts_any W0 (h.below hA0) (by omega))
  have HA0 := Hd hA0
  have HG0 := Hd hg0
  have HW0 := Hd hW0
  have hz0 := hA0.size
  have KB := Hd (fun w1 (hb : Below w.heap.size w w1) (outs : List (List UInt8)) (vo : Value) (hO : Reads w1 vo (outs.map str)) (ho : outs.length ≤ 1000) => by
    have hy := h.below hb
    have hv := hV.below (hlow.trans (hb.mono hlow.size))
    exact bnew_any (S := S) w1 outs vo (some ⟨Y.pb, 0, none⟩) hy.rules.rules.1 hy.rules.rules.2 hy.tree hO ho hv.ml hv.err.k hv.err.l hv.num hv.tab hbnd (by omega))
  have HY := Hd (fun w1 (hb : Below w.heap.size w w1) => h.below hb)
  have HYL := Hd h.lt
  have HYB := Hd h.hB
  have HV := Hd hV
  have HLOW := Hd hlow
  have HBE := Hd hB
  have HRO := Hd hright
  have HORD := Hd hord
  have HBND := Hd hbnd
  have HOO := Hd (fun w1 (hb : Below w.heap.size w w1) => hO.below0 hb)
  have HML : Hid ((R.map Prod.fst).length = R.length) := Hd (List.length_map _)
  have HCK := Hd hcok
  obtain ⟨c0, c1, c2, c3⟩ := (h.below hA0).cells
  clear h hcok hV hlow hright hord hO hbnd hB hA0 hg0 hW0
  go_enter Tryz.func20, Tryz.ntmps20
  by_cases h0 : outs = []
  case' pos =>
    subst h0
    go_wp2_with fail
    try rw [HW0.out]
    refine KOUT.out.mono ?_
    rintro e w1 ⟨vo1, rfl, hown1, hb1⟩
    obtain ⟨outs1, houts1⟩ : ∃ x, x = outsOf (R.map Prod.fst) [] := ⟨_, rfl⟩
    have HO1 : Hid (Reads w1 vo1 (outs1.map str)) := Hd (by
      rw [houts1, outsOf, if_pos rfl]
      have h1 := ownsRow_reads hown1
      exact h1)
    have HOL : Hid (outs1.length ≤ 1000) := Hd (by
      rw [houts1, outsOf, if_pos rfl, List.length_map, List.length_map]
      omega)
    have HB1 := Hd (HA0.out.trans (hb1.mono hz0))
    have HG1 := Hd ((hb1.block _ (lt_of_heap HG0.out)).trans HG0.out)
    have HE1 := Hd houts1
    have hd0 := (hb1.cell (lt_of_cell c0)).trans c0
    have hd1 := (hb1.cell (lt_of_cell c1)).trans c1
    have hd2 := (hb1.cell (lt_of_cell c2)).trans c2
    have hd3 := (hb1.cell (lt_of_cell c3)).trans c3
    clear hown1 hb1 houts1 c0 c1 c2 c3
  case' neg =>
    have hl0 : ((outs.length : Int) == 0) = false := by
      have : outs.length ≠ 0 := fun e => h0 (List.length_eq_zero_iff.1 e)
      rw [beq_eq_false_iff_ne]; omega
    have hl1 : ((outs.length : Int) = 0) = False := by
      have : outs.length ≠ 0 := fun e => h0 (List.length_eq_zero_iff.1 e)
      exact eq_false (by omega)
    obtain ⟨w1, hw1⟩ : ∃ x, x = W0 := ⟨_, rfl⟩
    obtain ⟨vo1, hvo1⟩ : ∃ x, x = Value.slice ao outs.length co := ⟨_, rfl⟩
    obtain ⟨outs1, houts1⟩ : ∃ x, x = outsOf (R.map Prod.fst) outs := ⟨_, rfl⟩
    have HB1 : Hid (Below w.heap.size w w1) := Hd (by rw [hw1]; exact HA0.out)
    have HG1 : Hid (w1.heap[w.heap.size]? = some (.cells #[.int .i64 0, .int .i64 0, .int .i64 0, .int .i64 0] 45 (0, 0))) := Hd (by rw [hw1]; exact HG0.out)
    have HE1 := Hd houts1
    have HO1 : Hid (Reads w1 vo1 (outs1.map str)) := Hd (by
      rw [houts1, outsOf, if_neg h0, hvo1, hw1]
      exact HOO.out W0 HA0.out)
    have HOL : Hid (outs1.length ≤ 1000) := Hd (by
      rw [houts1, outsOf, if_neg h0]
      exact ho)
    have hd0 := c0
    have hd1 := c1
    have hd2 := c2
    have hd3 := c3
    rw [← hw1] at hd0 hd1 hd2 hd3
    subst hw1
    subst hvo1
    clear houts1 c0 c1 c2 c3 h0
  all_goals
    have KB1 := Hd (KB.out w1.drew HB1.out.drew outs1 _ (HO1.out.below0 (Below.refl _ _).drew) HOL.out)
    have HCL := Hd (fun wl (hb : Below w1.heap.size w1 wl) => (⟨(hb.cell (lt_of_cell hd0)).trans hd0, (hb.cell (lt_of_cell hd2)).trans hd2, (hb.cell (lt_of_cell hd3)).trans hd3⟩ : wl.cell? ⟨Y.yb, 0, none⟩ = some (ptrV Y.tb) ∧ wl.cell? ⟨Y.yb, 2, none⟩ = some vl ∧ wl.cell? ⟨Y.yb, 3, none⟩ = some (ptrV Y.pb)))
    go_wp2_with fail
    try rw [HW0.out]
    go_region_held3 (fun w' => w'.cell? ⟨Y.yb, 0, none⟩ = some (ptrV Y.tb) ∧ w'.cell? ⟨Y.yb, 2, none⟩ = some vl ∧ w'.cell? ⟨Y.yb, 3, none⟩ = some (ptrV Y.pb))
      (first | exact HCL.out _ ((Below.refl _ _).drew.trans hb2) | exact HCL.out _ (Below.refl _ _).drew)
      (first
        | (go_at_call 29
           refine KB1.out.mono ?_
           rintro e w2 ⟨ha2, hb2⟩
           obtain ⟨x, y, rfl⟩ := bnew_two ha2))
    have HA2 := Hd ha2
    have HR2 := Hd hb2
    have HB2 := Hd (HB1.out.trans (Below.mono ((Below.refl w1.heap.size w1).drew.trans hb2) HB1.out.size))
    have HG2 := Hd ((hb2.block _ (lt_of_heap HG1.out)).trans HG1.out)
    rcases ha2 with ⟨T, x', he, -⟩ | ⟨ks, N, o, D, hpl, hN, hob, hordP, he, hcv, hat, hD⟩
    · simp only [Ending.returned.injEq, Value.tuple.injEq, Array.mk.injEq, List.cons.injEq, and_true] at he
      obtain ⟨rfl, rfl⟩ := he
      obtain ⟨⟨k0, k1, k2, k3⟩, f0, f1, f2, f3⟩ := four_free HG2.out
      clear hb2
      go_wp2
      refine bodyPost_ret (count_ret2 rfl _ _ w.heap.size _ _ _ _ rfl (four_put HG2.out _ _ _ _)) rfl ?_
      have hset : Fr w2.heap.size (fun q => q = w.heap.size) w2 ((((w2.setCell ⟨w.heap.size, 0, none⟩ (.int .i64 0)).setCell ⟨w.heap.size, 1, none⟩ (.int .i64 0)).setCell ⟨w.heap.size, 2, none⟩ (.int .i64 0)).setCell ⟨w.heap.size, 3, none⟩ (.int .i64 0)) :=
        Fr.setCell (S := fun q => q = w.heap.size) (p := ⟨w.heap.size, 3, none⟩) (Fr.setCell (S := fun q => q = w.heap.size) (p := ⟨w.heap.size, 2, none⟩) (Fr.setCell (S := fun q => q = w.heap.size) (p := ⟨w.heap.size, 1, none⟩) (Fr.setCell (S := fun q => q = w.heap.size) (p := ⟨w.heap.size, 0, none⟩) (Fr.refl w2.heap.size _ w2) (fun _ => rfl) _) (fun _ => rfl) _) (fun _ => rfl) _) (fun _ => rfl) _
      refine Or.inl ⟨T, x', rfl, ?_, (HY.out w2 HB2.out).fr hset (fun i q hq e => by have := HYL.out i q hq; omega), ?_⟩
      · rw [← HE1.out]
        refine new_err_fr HA2.out hset (fun q cs hq e => ?_) HB1.out.size
        have h1 := HG2.out
        rw [← e, hq] at h1
        cases h1
      · exact HB2.out.trans (((((Below.refl w2.heap.size w2).mono HB2.out.size).setCell (p := ⟨w.heap.size, 0, none⟩) (Nat.le_refl _) _).setCell (p := ⟨w.heap.size, 1, none⟩) (Nat.le_refl _) _).setCell (p := ⟨w.heap.size, 2, none⟩) (Nat.le_refl _) _ |>.setCell (p := ⟨w.heap.size, 3, none⟩) (Nat.le_refl _) _)
    · simp only [Ending.returned.injEq, Value.tuple.injEq, Array.mk.injEq, List.cons.injEq, and_true] at he
      obtain ⟨rfl, rfl⟩ := he
      obtain ⟨P, hPe⟩ : ∃ P, needL (R.map Prod.fst).length N = P := ⟨_, rfl⟩
      rw [hPe] at hordP hat hD
      have HPE := Hd hPe
      clear hPe
      have HYZ := Hd (HY.out w2 HB2.out)
      have hz01 := HB1.out.size
      have HD := Hd (fun q hq => Nat.lt_of_lt_of_le (lt_of_heap HG1.out) (hD q hq))
      have HBO : Hid (BO S (R.map Prod.fst) (P) m D Y.pb Y.cm B lv (some c) (fun _ => st0) w2) := Hd (BO.made hat (fun q hq => Nat.le_trans HYB.out (Nat.le_of_lt (HD.out q hq))) ⟨hcv, HYZ.out.cache⟩ (fun q hq => HYZ.out.low 3 q hq) (fun q hq hf => by have := HD.out q hq; have := HYL.out 3 q hf; omega) HCK.out)
      have HPL := Hd hpl
      have HN := Hd hN
      have HOP := Hd hordP
      have KA := Hd (ball_any w2 HBO.out hordP w0 HBE.out HV.out (HLOW.out.trans (HB2.out.mono HLOW.out.size)))
      clear hb2 hpl hN hob hordP hcv hat hD
      go_wp2_with fail
      refine KA.out.mono ?_
      rintro e w3 ⟨js, cc, st3, lv3, rfl, har, hbo3, htu⟩
      have hsm := (har.steps.1.inv HOP.out (BInv.zero _ _ _) HCK.out).2.2
      obtain ⟨c3, rfl⟩ : ∃ c3, cc = some c3 := Option.isSome_iff_exists.1 hsm
      have HAR := Hd har
      have HBI := Hd (har.steps.1.inv HOP.out (BInv.zero _ _ _) HCK.out).1
      have HB3 := Hd hbo3
      have HFT3 := Hd htu.2
      have HFR3 : Hid (Fr w.heap.size (fun q => foot Y.pb Y.cm lv q) w w3) := Hd ((Fr.of_below HB2.out).trans (htu.1.mono HB2.out.size (fun q hq hs => hs.elim (fun h1 => by have := HD.out q (Or.inr h1); omega) id)))
      have HY3 := Hd (HYZ.out.cstep (Q := D.steps (P)) (c' := c3) hbo3.cache.2 htu.1 (fun i q hq hs => by have := HD.out q (Or.inr hs); have := HYL.out i q hq; omega) htu.2)
      have HG3 : Hid (w3.heap[w.heap.size]? = some (.cells #[.int .i64 0, .int .i64 0, .int .i64 0, .int .i64 0] 45 (0, 0))) := Hd ((htu.1.block _ (lt_of_heap HG2.out) (fun hs => by
        rcases hs with h1 | h1
        · have h2 := HD.out _ (Or.inr h1); omega
        · have := HYL.out 3 _ h1; omega)).trans HG2.out)
      obtain ⟨W4, hW4⟩ : ∃ W, w3.alloc (.cells #[.int .i64 (cntP (P) st3 isRan : Int), .int .i64 (cntP (P) st3 isHit : Int), .int .i64 (cntP (P) st3 isFailed : Int), .int .i64 (cntP (P) st3 isLeft : Int)] 45) = W := ⟨_, rfl⟩
      have hA4 : Below w3.heap.size w3 W4 := hW4 ▸ (Below.refl _ w3).alloc (Nat.le_refl _) _
      have hg4 : W4.heap[w3.heap.size]? = some (.cells #[.int .i64 (cntP (P) st3 isRan : Int), .int .i64 (cntP (P) st3 isHit : Int), .int .i64 (cntP (P) st3 isFailed : Int), .int .i64 (cntP (P) st3 isLeft : Int)] 45 (0, 0)) := hW4 ▸ heap_alloc_here w3 _
      have HGC4 := Hd hg4
      have HA4 := Hd hA4
      have HW4 := Hd hW4
      have HY4 := Hd (HY3.out.below hA4)
      have HZ23 : Hid (w.heap.size ≤ w3.heap.size) := Hd HFR3.out.size
      have HLW4 : Hid (Below w0.heap.size w0 W4) := Hd (HLOW.out.trans (((HFR3.out.trans ((Fr.of_below hA4).mono HFR3.out.size (fun _ _ h => h))).mono (S' := fun q => foot Y.pb Y.cm lv q) HLOW.out.size (fun _ _ h => h)).below (fun q hq hs => by have := HYZ.out.low 3 q hs; have := HBE.out; omega)))
      have KG := Hd (gorder_any R vl W4 S HY4.out.rules.rules.1 HY4.out.rules.rules.2 (HV.out.below HLW4.out).ml (HV.out.below HLW4.out).err.k (HV.out.below HLW4.out).num (HV.out.below HLW4.out).tab HBND.out (by omega))
      have hc4 := HY4.out.cells.2.2.1
      clear har hbo3 htu KA hA4 hg4 hsm
      go_wp2_with fail
      try rw [HW4.out]
      refine KG.out.mono ?_
      rintro e w5 ⟨ha5, hb5⟩
      rcases ha5 with ⟨-, ⟨ord, u5, hord5, rfl, hown5⟩ | ⟨hno, -⟩⟩ | ⟨T, x, -, hbad⟩
      rotate_left
      · obtain ⟨o', ho'⟩ := HORD.out
        rw [hno] at ho'
        cases ho'
      · exact absurd HRO.out hbad.wrong
      have HORD5 := Hd hord5
      have HOW5 := Hd hown5
      have HY5 := Hd (HY4.out.below hb5)
      have HB5 := Hd hb5
      have HAT5 := Hd ((HB3.out.at_.below HA4.out).below hb5)
      have HGC5 := Hd ((hb5.block _ (lt_of_heap HGC4.out)).trans HGC4.out)
      have HG5 := Hd ((hb5.block _ (lt_of_heap ((HA4.out.block _ (lt_of_heap HG3.out)).trans HG3.out))).trans ((HA4.out.block _ (lt_of_heap HG3.out)).trans HG3.out))
      obtain ⟨au, cu, hu, -, -⟩ := id (reads_ints hown5)
      rw [List.length_map] at hu
      subst hu
      clear hord5 hown5 hb5 KG hc4
      go_wp2_with fail
      have HOM : Hid (Y.om < w.heap.size) := Hd (HYL.out 2 _ (Or.inr rfl))
      have HOL2 : Hid (∀ r ∈ R.map Prod.fst, r.out.length ≤ 1000000) := Hd (fun r hr => by
        obtain ⟨x, hx, rfl⟩ := List.mem_map.1 hr
        exact (HBND.out x hx).1)
      have hmo2 := hmo
      have HZ5 : Hid (w.heap.size ≤ w5.heap.size) := Hd (Nat.le_trans HZ23.out (Nat.le_trans HA4.out.size HB5.out.size))
      have HLW5 : Hid (∀ wl, Fr w5.heap.size (fun k => k = Y.om) w5 wl → Below w0.heap.size w0 wl) := Hd (fun wl hf => by
        have h1 := HLW4.out.trans (HB5.out.mono HLW4.out.size)
        exact h1.trans ((hf.mono (S' := fun k => k = Y.om) h1.size (fun _ _ h => h)).below (fun q hq e => by have := HYZ.out.low 2 Y.om (Or.inr rfl); have := HBE.out; omega)))
      obtain ⟨ar, cr, hvl, -, -⟩ := id HY5.out.rules.rules.1.1
      rw [List.length_map] at hvl
      subst hvl
      have hol : ord.length ≤ 41 := by
        have h1 := nodup_sub ord (List.range (R.map Prod.fst).length) (order_mem HORD5.out).1.nd (fun x hx => List.mem_range.2 ((order_mem HORD5.out).1.lt x hx).1)
        rw [List.length_range, HML.out] at h1
        omega
      go_loopw [56] (fun iv wl => ∃ j : Nat, j ≤ ord.length ∧ iv = .int .i64 j ∧ YAt B Y (.slice ar R.length cr) lv3 R m ((ord.take j).foldl (layOne (R.map Prod.fst) P st3) mo) c3 wl ∧ MoOk ((ord.take j).foldl (layOne (R.map Prod.fst) P st3) mo) ∧ Fr w5.heap.size (fun k => k = Y.om) w5 wl) (fun iv _ => ord.length - (intOf iv).toNat)
      case atStart => exact ⟨0, by omega, rfl, HY5.out, hmo2, Fr.refl _ _ _⟩
      case round =>
        obtain ⟨j, hj, rfl, hya, hmk, hfr⟩ := hrel
        have HYA := Hd hya
        have HMK := Hd hmk
        have HFR := Hd hfr
        have hzr := hfr.size
        have HAT := Hd (HAT5.out.of_fr hfr (fun q hq => ⟨HAT5.out.lt hq, fun e => by have := HD.out q hq; have := HOM.out; omega⟩))
        by_cases hlt : j < ord.length
        · have hlc : ((j : Int) < (ord.length : Int)) = True := eq_true (by omega)
          have hkm : ord[j] < (R.map Prod.fst).length := ((order_mem HORD5.out).1.lt _ (List.getElem_mem hlt)).1
          have hfold : (ord.take (j + 1)).foldl (layOne (R.map Prod.fst) P st3) mo = layOne (R.map Prod.fst) P st3 ((ord.take j).foldl (layOne (R.map Prod.fst) P st3) mo) ord[j] := by
            rw [List.take_succ_eq_append_getElem hlt, List.foldl_append]
            rfl
          have HFO := Hd hfold
          have HOK := Hd (hmk.one (P := P) (st := st3) HOL2.out ord[j] hkm)
          obtain ⟨b5, o5, hix5, hce5⟩ := (reads_ints (ownsRow_fr HOW5.out hfr (fun q hq => ⟨(HOW5.out.lt q hq).2, fun e => by have h1 := (HOW5.out.lt q hq).1; have h2 := HOM.out; have h3 := HZ23.out; have h4 := HA4.out.size; omega⟩))).at (P := Tryz.prog) Tryz.underlying53 (by kernel_rfl) j (by simpa using hlt)
          simp only [List.getElem_map] at hce5
          have hri : ord[j] < R.length := by have := hkm; rwa [HML.out] at this
          obtain ⟨rb, ro, hixr, hab, hcr⟩ := hya.rules.rules.1.1.at (P := Tryz.prog) Tryz.underlying22 (by kernel_rfl) ord[j] (by rw [List.length_map]; exact hri)
          simp only [List.getElem_map] at hcr
          have hc0 := hcr 0 _ rfl
          simp only [Nat.add_zero] at hc0
          have hpth : ((R.map Prod.fst).getD ord[j] noR).out = R[ord[j]].1.out := by rw [getD_at hkm, List.getElem_map]
          have hpl := (HBND.out _ (List.getElem_mem hri)).1
          have KST := Hd (bstR_any HAT.out HBI.out ord[j])
          have hlo : layOne (R.map Prod.fst) P st3 ((ord.take j).foldl (layOne (R.map Prod.fst) P st3) mo) ord[j] = (if rSt P st3 ord[j] = stName 2 then putM R[ord[j]].1.out (st3 ord[j]).out ((ord.take j).foldl (layOne (R.map Prod.fst) P st3) mo) else if rSt P st3 ord[j] = stName 3 ∨ rSt P st3 ord[j] = stName 4 then mdel R[ord[j]].1.out ((ord.take j).foldl (layOne (R.map Prod.fst) P st3) mo) else ((ord.take j).foldl (layOne (R.map Prod.fst) P st3) mo)) := by
            unfold layOne
            rw [hpth]
          generalize R[ord[j]].1.out = pth at *
          generalize ord[j] = k at *
          generalize (ord.take j).foldl (layOne (R.map Prod.fst) P st3) mo = mo1 at *
          have HLO0 := Hd hlo
          have hcb1 := hya.cells.2.1
          have hcb2 := hya.cells.2.2.1
          have HCL := Hd (fun wl (hf : Fr wr.heap.size (fun k => k = Y.om) wr wl) => (⟨(hf.cell (p := ⟨Y.yb, 1, none⟩) (lt_of_cell hcb1) (fun e => hya.far (i := 0) (j := 2) rfl (by decide) (Or.inr e))).trans hcb1, (hf.cell (p := ⟨Y.yb, 2, none⟩) (lt_of_cell hcb2) (fun e => hya.far (i := 0) (j := 2) rfl (by decide) (Or.inr e))).trans hcb2, (hf.cell (p := ⟨rb, ro, none⟩) (lt_of_cell hc0) (fun e => hya.far (i := 4) (j := 2) (q := rb) (Or.inl (by rw [hab]; rfl)) (by decide) (Or.inr e))).trans hc0⟩ : wl.cell? ⟨Y.yb, 1, none⟩ = some (ptrV Y.ob) ∧ wl.cell? ⟨Y.yb, 2, none⟩ = some (.slice ar R.length cr) ∧ wl.cell? ⟨rb, ro, none⟩ = some (str pth)))
          have HSTR : Hid (∀ n, 1 ≤ n ∧ n ≤ 4 → rSt P st3 k = stName n → k ∈ P ∧ (st3 k).state = n) := Hd (fun n hn h => (rSt_at hn (HBI.out.one k)).1 h)
          generalize hrk : rSt P st3 k = rk at *
          clear hya hmk hfr hcr hpth hfold hlo hc0 hcb1 hcb2 hab
          by_cases hd : rk = [100, 111, 110, 101]
          · subst hd
            have hkp := HSTR.out 2 (by omega) rfl
            have HLY : Hid (layOne (R.map Prod.fst) P st3 mo1 k = putM pth (st3 k).out mo1) := Hd (by have h := HLO0.out; simp only [stName] at h; rw [h]; first | exact if_pos trivial | exact if_pos rfl)
            have KRS := Hd (fun wl (hb : Below wr.heap.size wr wl) => bResult_any wl (HAT.out.below hb) hkp.1)
            have hres : resOf (st3 k) = ((st3 k).out, true) := by unfold resOf; rw [if_pos hkp.2]
            rw [hres] at KRS
            clear hkp hres HLO0
            generalize (st3 k).out = so at *
            go_wp2_with fail
            refine KST.out.mono ?_
            rintro e w6 ⟨rfl, hb6⟩
            have KRS6 := Hd (KRS.out w6 hb6)
            have HB6 := Hd hb6
            clear hb6
            go_wp2_with fail
            refine KRS6.out.mono ?_
            rintro e w7 ⟨rfl, hb7⟩
            have HB7 := Hd (HB6.out.trans (hb7.mono HB6.out.size))
            clear hb7 KRS6
            have hz7 := HB7.out.size
            have HY7 := Hd (HYA.out.below HB7.out)
            have HCL7 := Hd (fun wl (hf : Fr w7.heap.size (fun k => k = Y.om) w7 wl) => HCL.out wl ((Fr.of_below HB7.out).trans (hf.mono HB7.out.size (fun _ _ h => h))))
            have HL7 : Hid (Below w0.heap.size w0 w7.drew) := Hd (HLW5.out _ (HFR.out.trans ((Fr.of_below HB7.out.drew).mono hzr (fun _ _ h => h))))
            obtain ⟨d1, d2, d3⟩ := HCL7.out w7 (Fr.refl _ _ _)
            have KPUT := Hd (put_tree Y.ob Y.om mo1 pth so w7.drew S (HY7.out.below (Below.refl _ _).drew).out (HV.out.below HL7.out).ml (HV.out.below HL7.out).err.t hpl (by have := HMK.out.1; omega) HMK.out.2)
            go_wp2_with fail
            go_region_held3 (fun w' => w'.cell? ⟨Y.yb, 1, none⟩ = some (ptrV Y.ob) ∧ w'.cell? ⟨Y.yb, 2, none⟩ = some (.slice ar R.length cr) ∧ w'.cell? ⟨rb, ro, none⟩ = some (str pth))
              (first | exact HCL7.out _ ((Fr.refl _ _ _).drew.trans hf8) | exact HCL7.out _ (Fr.refl _ _ _).drew)
              (first
                | (go_at_call 19
                   refine KPUT.out.mono ?_
                   rintro e w8 ⟨rfl, ht8, hf8⟩))
            have HY8 := Hd ((HY7.out.below (Below.refl _ _).drew).ostep ht8 hf8)
            have HF8 : Hid (Fr w5.heap.size (fun k => k = Y.om) w5 w8) := Hd (HFR.out.trans (((Fr.of_below HB7.out).trans (((Fr.refl w7.heap.size (fun k => k = Y.om) w7).drew.trans hf8).mono HB7.out.size (fun _ _ h => h))).mono hzr (fun _ _ h => h)))
            clear ht8 hf8
            go_wp2
            go_roundw
            case rel => exact ⟨j + 1, by omega, by go_num, by rw [HFO.out, HLY.out]; exact HY8.out, by rw [HFO.out]; exact HOK.out, HF8.out⟩
            case measure => simp [intOf]; omega
          · have f1 : (rk == [100, 111, 110, 101]) = false := by simpa using hd
            have f2 : (rk = [100, 111, 110, 101]) = False := eq_false hd
            by_cases hq : rk = [102, 97, 105, 108, 101, 100] ∨ rk = [108, 101, 102, 116]
            · have HLY : Hid (layOne (R.map Prod.fst) P st3 mo1 k = mdel pth mo1) := Hd (by have h := HLO0.out; simp only [stName] at h; rw [h, if_neg hd, if_pos hq])
              clear hd HLO0
              rcases hq with hq | hq
              all_goals
                subst hq
                clear f1 f2
                go_wp2_with fail
                refine KST.out.mono ?_
                rintro e w7 ⟨rfl, hb7⟩
                have HB7 := Hd hb7
                clear hb7
                have hz7 := HB7.out.size
                have HY7 := Hd (HYA.out.below HB7.out)
                have HCL7 := Hd (fun wl (hf : Fr w7.heap.size (fun k => k = Y.om) w7 wl) => HCL.out wl ((Fr.of_below HB7.out).trans (hf.mono HB7.out.size (fun _ _ h => h))))
                have HL7 : Hid (Below w0.heap.size w0 w7.drew) := Hd (HLW5.out _ (HFR.out.trans ((Fr.of_below HB7.out.drew).mono hzr (fun _ _ h => h))))
                obtain ⟨d1, d2, d3⟩ := HCL7.out w7 (Fr.refl _ _ _)
                have KREM := Hd (remove_tree Y.ob Y.om mo1 pth w7.drew S (HY7.out.below (Below.refl _ _).drew).out (HV.out.below HL7.out).err.t)
                go_wp2_with fail
                go_region_held3 (fun w' => w'.cell? ⟨Y.yb, 1, none⟩ = some (ptrV Y.ob) ∧ w'.cell? ⟨Y.yb, 2, none⟩ = some (.slice ar R.length cr) ∧ w'.cell? ⟨rb, ro, none⟩ = some (str pth))
                  (first | exact HCL7.out _ ((Fr.refl _ _ _).drew.trans hf8) | exact HCL7.out _ (Fr.refl _ _ _).drew)
                  (first
                    | (go_at_call 18
                       refine KREM.out.mono ?_
                       rintro e w8 ⟨rfl, ht8, hf8⟩))
                have HY8 := Hd ((HY7.out.below (Below.refl _ _).drew).ostep ht8 hf8)
                have HF8 : Hid (Fr w5.heap.size (fun k => k = Y.om) w5 w8) := Hd (HFR.out.trans (((Fr.of_below HB7.out).trans (((Fr.refl w7.heap.size (fun k => k = Y.om) w7).drew.trans hf8).mono HB7.out.size (fun _ _ h => h))).mono hzr (fun _ _ h => h)))
                clear ht8 hf8
                go_wp2
                go_roundw
                case rel => exact ⟨j + 1, by omega, by go_num, by rw [HFO.out, HLY.out]; exact HY8.out, by rw [HFO.out]; exact HOK.out, HF8.out⟩
                case measure => simp [intOf]; omega
            · have HLY : Hid (layOne (R.map Prod.fst) P st3 mo1 k = mo1) := Hd (by have h := HLO0.out; simp only [stName] at h; rw [h, if_neg hd, if_neg hq])
              have g1 : (rk == [102, 97, 105, 108, 101, 100]) = false := by simpa using fun e => hq (Or.inl e)
              have g2 : (rk = [102, 97, 105, 108, 101, 100]) = False := eq_false (fun e => hq (Or.inl e))
              have g3 : (rk == [108, 101, 102, 116]) = false := by simpa using fun e => hq (Or.inr e)
              have g4 : (rk = [108, 101, 102, 116]) = False := eq_false (fun e => hq (Or.inr e))
              clear hd hq HLO0
              go_wp2_with fail
              refine KST.out.mono ?_
              rintro e w7 ⟨rfl, hb7⟩
              have HB7 := Hd hb7
              have HY7 := Hd (HYA.out.below hb7)
              have HF7 : Hid (Fr w5.heap.size (fun k => k = Y.om) w5 w7) := Hd (HFR.out.trans ((Fr.of_below hb7).mono hzr (fun _ _ h => h)))
              clear hb7
              go_wp2
              go_roundw
              case rel => exact ⟨j + 1, by omega, by go_num, by rw [HFO.out, HLY.out]; exact HY7.out, by rw [HFO.out]; exact HOK.out, HF7.out⟩
              case measure => simp [intOf]; omega
        · obtain rfl : j = ord.length := by omega
          have hlc : ((ord.length : Int) < (ord.length : Int)) = False := eq_false (by omega)
          rw [List.take_length] at hya
          have HYF := Hd hya
          have HGF := Hd ((hfr.block _ (lt_of_heap HG5.out) (fun e => by have := HOM.out; omega)).trans HG5.out)
          have hgc := (hfr.block _ (lt_of_heap HGC5.out) (fun e => by have := HOM.out; have := HZ23.out; omega)).trans HGC5.out
          obtain ⟨⟨m0, m1, m2, m3⟩, -⟩ := four_free hgc
          obtain ⟨⟨k0, k1, k2, k3⟩, f0, f1, f2, f3⟩ := four_free HGF.out
          have HNE : Hid (w.heap.size < w3.heap.size) := Hd (lt_of_heap HG3.out)
          clear hya hmk hfr hgc
          go_wp2
          refine bodyPost_ret (count_ret2 rfl _ _ w.heap.size _ _ _ _ rfl (four_put HGF.out _ _ _ _)) rfl ?_
          have hset : Fr wr.heap.size (fun q => q = w.heap.size) wr ((((wr.setCell ⟨w.heap.size, 0, none⟩ (.int .i64 (cntP P st3 isRan : Int))).setCell ⟨w.heap.size, 1, none⟩ (.int .i64 (cntP P st3 isHit : Int))).setCell ⟨w.heap.size, 2, none⟩ (.int .i64 (cntP P st3 isFailed : Int))).setCell ⟨w.heap.size, 3, none⟩ (.int .i64 (cntP P st3 isLeft : Int))) :=
            Fr.setCell (S := fun q => q = w.heap.size) (p := ⟨w.heap.size, 3, none⟩) (Fr.setCell (S := fun q => q = w.heap.size) (p := ⟨w.heap.size, 2, none⟩) (Fr.setCell (S := fun q => q = w.heap.size) (p := ⟨w.heap.size, 1, none⟩) (Fr.setCell (S := fun q => q = w.heap.size) (p := ⟨w.heap.size, 0, none⟩) (Fr.refl wr.heap.size _ wr) (fun _ => rfl) _) (fun _ => rfl) _) (fun _ => rfl) _) (fun _ => rfl) _
          have hnl : ∀ i q, ysec Y lv3 (.slice ar R.length cr) R i q → q ≠ w.heap.size := fun i q hq e => by
            by_cases hi : i = 3
            · subst hi
              rcases HFT3.out q hq with h1 | h1
              · have := HYL.out 3 q h1; omega
              · have := HB2.out.size; have := lt_of_heap HG2.out; omega
            · have h2 := HYL.out i q (by
                match i, hi, hq with
                | 0, _, hq => exact hq
                | 1, _, hq => exact hq
                | 2, _, hq => exact hq
                | 4, _, hq => exact hq
                | _ + 5, _, hq => exact hq)
              omega
          refine Or.inr ⟨P, _, ks, js, ord, c3, st3, lv3, by rw [← HE1.out]; exact HPL.out, fun k => ?_, HOP.out, HAR.out, HORD5.out, rfl, HYF.out.fr hset (fun i q hq e => hnl i q hq e), ?_, fun q hq => (HFT3.out q hq).elim Or.inl (fun h => Or.inr (Nat.le_trans HB2.out.size h))⟩
          · rw [← HPE.out, mem_needL (fun k hk => ((HN.out k).1 hk).lt (fun a b hb => edges_lt _ a b hb) HPL.out.1)]
            exact HN.out k
          · have h1 : Fr w.heap.size (fun q => q = Y.om ∨ foot Y.pb Y.cm lv q) w w3 := HFR3.out.mono (Nat.le_refl _) (fun _ _ h => Or.inr h)
            have h2 := h1.trans ((Fr.of_below (HA4.out.trans (HB5.out.mono HA4.out.size))).mono h1.size (fun _ _ h => h))
            have h3 := h2.trans (HFR.out.mono h2.size (fun _ _ h => Or.inl h))
            exact h3.trans (hset.mono h3.size (fun q hq e => by omega))
theorem ord_all {l : List RuleL} {o : List Nat} (hr : RightS l) (ho : orderB (edgesB l) (fun _ => true) l.length = some o) : Ord l (List.range l.length) o := by
  obtain ⟨h1, h2⟩ := order_mem ho
  obtain ⟨r, hrk⟩ := rank_of_orderB ho
  have hc : ∀ k, k < l.length → (List.range l.length).contains k = true := fun k hk => List.contains_iff_mem.2 (List.mem_range.2 hk)
  exact ⟨⟨hr, fun k hk => List.mem_range.1 hk, List.pairwise_lt_range, fun k hk j hj => List.mem_range.2 (edges_lt _ k j hj), r, fun i hi j hj => (hrk i (List.mem_range.1 hi) rfl j hj).2.2⟩,
    ⟨h1.nd, fun k hk => ⟨(h1.lt k hk).1, hc k (h1.lt k hk).1⟩, h1.back⟩, fun k hk => h2 k (List.mem_range.1 hk) rfl⟩
def staleB (l : List RuleL) (T : Look) (mo : List Ent) (p : List UInt8) : Bool := ((mlook p mo).isSome != ((wantV l T p).1 == 0)) || ((mlook p mo).isSome && ((mlook p mo).getD [] != (wantV l T p).2))
def staleL (l : List RuleL) (T : Look) (mo : List Ent) : List (List UInt8) := (l.map RuleL.out).filter (staleB l T mo)
set_option maxHeartbeats 2000000 in
theorem ystale_any {S : Nat → Addr} {B : Nat} {Y : YPl} {vl lv : Value} {R : List RV} {m mo : List Ent} {c : CS} (w0 w : World) (h : YAt B Y vl lv R m mo c w) (hV : BEnv S (R.map Prod.fst) m w0) (hlow : Below w0.heap.size w0 w) (hright : RightS (R.map Prod.fst)) (hord : ∃ o, orderB (edgesB (R.map Prod.fst)) (fun _ => true) (R.map Prod.fst).length = some o) :
    Calls Tryz.prog 21 #[ptrV Y.yb] w fun e w' => ∃ u, e = .returned u ∧ w'.ownsRow w.heap.size 9 1 u (sortB (staleL (R.map Prod.fst) (fun p => mlook p m) mo)).length ((sortB (staleL (R.map Prod.fst) (fun p => mlook p m) mo)).map str) ∧ Below w.heap.size w w' := by
  have hn : R.length ≤ 41 := by have := hright.1; rw [List.length_map] at this; omega
  obtain ⟨o, ho⟩ := hord
  have hOA := ord_all hright ho
  have hbnd : ∀ x ∈ R, x.1.out.length ≤ 1000000 ∧ x.1.word.length ≤ 100000 ∧ (∀ s ∈ x.1.ins, s.length ≤ 1000000) ∧ x.1.ins.length ≤ 1000 := fun x hx => by
    have := hV.short x.1 (List.mem_map.2 ⟨x, hx, rfl⟩)
    exact ⟨this.1, by omega, this.2.2.2.1, this.2.2.2.2⟩
  have hml : (R.map Prod.fst).length = R.length := List.length_map _
  have KOUT := Hd (youts_any w h (by omega))
  have KWO := Hd (fun wl (hb : Below w.heap.size w wl) (i : Nat) (hi : i < R.length) => by
    have hy := h.below hb
    have hv := hV.below (hlow.trans (hb.mono hlow.size))
    have hk := wof_any (S := S) wl ((R.map Prod.fst).getD i noR).out hy.rules.rules.1 hy.rules.rules.2 hy.tree hv.ml hv.err.k hv.err.l hv.num hv.tab hbnd hV.files (by omega)
    exact hk.mono (fun e w' h => (⟨of_out hOA (by rw [hml]; exact hi) h.1, hb.trans (h.2.mono hb.size), h.2⟩ : e = .returned (.tuple #[str (wantV (R.map Prod.fst) (fun p => mlook p m) ((R.map Prod.fst).getD i noR).out).2, errN S (wantV (R.map Prod.fst) (fun p => mlook p m) ((R.map Prod.fst).getD i noR).out).1]) ∧ Below w.heap.size w w' ∧ Below wl.heap.size wl w')))
  have KGET := Hd (fun wl (hb : Below w.heap.size w wl) (p : List UInt8) => get_tree Y.ob Y.om mo p wl (h.below hb).out)
  obtain ⟨c0, c1, c2, c3⟩ := h.cells
  have HCL := Hd (fun wl (hb : Below w.heap.size w wl) => (⟨(hb.cell (lt_of_cell c0)).trans c0, (hb.cell (lt_of_cell c1)).trans c1, (hb.cell (lt_of_cell c2)).trans c2⟩ : wl.cell? ⟨Y.yb, 0, none⟩ = some (ptrV Y.tb) ∧ wl.cell? ⟨Y.yb, 1, none⟩ = some (ptrV Y.ob) ∧ wl.cell? ⟨Y.yb, 2, none⟩ = some vl))
  clear h hV hlow hright ho hOA hbnd c0 c1 c2 c3
  obtain ⟨l, hl⟩ : ∃ l, R.map Prod.fst = l := ⟨_, rfl⟩
  rw [hl] at KOUT KWO hml ⊢
  have HML := Hd hml
  clear hl hml
  go_enter Tryz.func21, Tryz.ntmps21
  go_wp2_with fail
  refine KOUT.out.mono ?_
  rintro e w1 ⟨u1, rfl, hown1, hb1⟩
  have HO1 := Hd hown1
  have HB1 := Hd hb1
  obtain ⟨au, cu, hu, -, -⟩ := id (ownsRow_reads hown1)
  rw [List.length_map, List.length_map, HML.out] at hu
  subst hu
  have hz1 := hb1.size
  clear hown1 hb1 KOUT
  go_wp2_with fail
  go_loopw [3, 13] (fun ov iv wl => ∃ j : Nat, j ≤ R.length ∧ iv = .int .i64 j ∧ wl.ownsRow w1.heap.size 9 1 ov (((l.map RuleL.out).take j).filter (staleB l (fun p => mlook p m) mo)).length ((((l.map RuleL.out).take j).filter (staleB l (fun p => mlook p m) mo)).map str) ∧ Below w1.heap.size w1 wl) (fun _ iv _ => R.length - (intOf iv).toNat)
  case atStart => exact ⟨0, by omega, rfl, World.ownsRow_nil _ _ _ _, Below.refl _ _⟩
  case round =>
    obtain ⟨j, hj, rfl, hown, hbj⟩ := hrel
    have HO := Hd hown
    have HB := Hd hbj
    have HW := Hd (HB1.out.trans (hbj.mono hz1))
    have hzj := hbj.size
    by_cases hlt : j < R.length
    · have hlc : ((j : Int) < (R.length : Int)) = True := eq_true (by omega)
      have hjl : j < (l.map RuleL.out).length := by rw [List.length_map, HML.out]; exact hlt
      have hpe : (l.map RuleL.out)[j] = (l.getD j noR).out := by rw [List.getElem_map, getD_at (by rw [HML.out]; exact hlt)]
      obtain ⟨b5, o5, hix5, hce5⟩ := ((ownsRow_reads HO1.out).below0 hbj).at (P := Tryz.prog) Tryz.underlying33 (by kernel_rfl) j (by rw [List.length_map]; exact hjl)
      simp only [List.getElem_map] at hce5
      rw [← List.getElem_map (f := RuleL.out) (h := hjl), hpe] at hce5
      have HTK : Hid (((l.map RuleL.out).take (j + 1)).filter (staleB l (fun p => mlook p m) mo) = ((l.map RuleL.out).take j).filter (staleB l (fun p => mlook p m) mo) ++ if staleB l (fun p => mlook p m) mo (l.getD j noR).out = true then [(l.getD j noR).out] else []) := Hd (by
        rw [List.take_succ_eq_append_getElem hjl, List.filter_append, hpe]
        congr 1
        by_cases hs : staleB l (fun p => mlook p m) mo (l.getD j noR).out = true
        · rw [List.filter_cons, if_pos hs, if_pos hs]; rfl
        · rw [List.filter_cons, if_neg hs, if_neg hs]; rfl)
      have hfl : (((l.map RuleL.out).take j).filter (staleB l (fun p => mlook p m) mo)).length ≤ 41 := by
        have h1 := List.length_filter_le (staleB l (fun p => mlook p m) mo) ((l.map RuleL.out).take j)
        rw [List.length_take] at h1
        omega
      have KW := Hd (fun wl (hb : Below w.heap.size w wl) => KWO.out wl hb j hlt)
      have KG := Hd (fun wl (hb : Below w.heap.size w wl) => KGET.out wl hb (l.getD j noR).out)
      have HSB : Hid (staleB l (fun p => mlook p m) mo (l.getD j noR).out = (((mlook (l.getD j noR).out mo).isSome != ((wantV l (fun p => mlook p m) (l.getD j noR).out).1 == 0)) || ((mlook (l.getD j noR).out mo).isSome && ((mlook (l.getD j noR).out mo).getD [] != (wantV l (fun p => mlook p m) (l.getD j noR).out).2)))) := Hd rfl
      obtain ⟨d0, d1, d2⟩ := HCL.out _ HW.out
      generalize ((l.map RuleL.out).take j).filter (staleB l (fun p => mlook p m) mo) = ys at *
      generalize staleB l (fun p => mlook p m) mo (l.getD j noR).out = sb at *
      generalize wantV l (fun p => mlook p m) (l.getD j noR).out = wv at *
      generalize (l.getD j noR).out = p at *
      generalize mlook p mo = mp at *
      obtain ⟨wc, ws⟩ := wv
      clear hown hbj hpe hjl
      go_wp2_with fail
      go_region_held3 (fun w' => w'.cell? ⟨Y.yb, 0, none⟩ = some (ptrV Y.tb) ∧ w'.cell? ⟨Y.yb, 1, none⟩ = some (ptrV Y.ob) ∧ w'.cell? ⟨Y.yb, 2, none⟩ = some vl)
        (first | exact HCL.out _ hb6 | exact HCL.out _ HW.out.drew)
        (first
          | (go_at_call 75
             refine (KW.out _ HW.out.drew).mono ?_
             rintro e w6 ⟨rfl, hb6, hq6⟩))
      have HW6 := Hd hb6
      have hr6 : Below wr.heap.size wr w6 := (Below.refl _ _).drew.trans hq6
      have HO6 := Hd (row_below HO.out hr6)
      have HB6 := Hd (HB.out.trans (hr6.mono hzj))
      obtain ⟨d0, d1, d2⟩ := HCL.out _ hb6
      have KG6 := Hd (KG.out w6 hb6)
      have hz6 := HB6.out.size
      clear hb6 hq6 hr6
      rcases errN_two S wc with ⟨hz, he⟩ | ⟨hz, ad, he⟩
      · rw [he]
        cases mp with
        | none =>
          simp only [Option.getD_none, Option.isSome_none] at KG6 HSB
          have hs : sb = true := by rw [HSB.out, hz]; rfl
          go_wp2_with fail
          refine KG6.out.mono ?_
          rintro e w7 ⟨rfl, rfl⟩
          go_wp2_with (first
            | (at_builtin
               refine wpList_app _ rfl _ _ 33 rfl tyStrsK w1.heap.size _ _ _ rfl (HO6.out.alloc _) ⟨w6.heap.size, 0, none⟩ 1 1 [str p] rfl rfl (news_one ?_) ?_ (by decide) ?_ ?_ ?_
               · rw [cell_of_heap (heap_alloc_here w6 _)]; rfl
               · intro u hu; simp at hu; subst hu; rfl
               · omega
               · simp; omega
               intro v8 w8 ho8 hg8 hloc8
               have HO8 : Hid (w8.ownsRow w1.heap.size 9 1 v8 (ys ++ [p]).length ((ys ++ [p]).map str)) := Hd (by simpa using ho8)
               have HB8 : Hid (Below w1.heap.size w1 w8) := Hd ((HB6.out.alloc hz6 _).grown hg8 (by simp; omega) (fun q hq => (HO6.out.lt q hq).1))
               clear ho8 hg8 hloc8))
          go_wp2
          go_roundw
          case rel => exact ⟨j + 1, by omega, by go_num, by rw [HTK.out, if_pos hs]; exact HO8.out, HB8.out⟩
          case measure => simp [intOf]; omega
        | some bs =>
          simp only [Option.getD_some, Option.isSome_some] at KG6 HSB
          by_cases hbw : bs = ws
          · have hs : sb = false := by rw [HSB.out, hz, hbw]; simp
            subst hbw
            go_wp2_with fail
            refine KG6.out.mono ?_
            rintro e w7 ⟨rfl, rfl⟩
            go_wp2_with fail
            go_roundw
            case rel => exact ⟨j + 1, by omega, by go_num, by rw [HTK.out, hs, if_neg (by decide), List.append_nil]; exact HO6.out, HB6.out⟩
            case measure => simp [intOf]; omega
          · have hs : sb = true := by rw [HSB.out, hz]; simpa using hbw
            have f1 : (bs == ws) = false := by simpa using hbw
            have f2 : (bs = ws) = False := eq_false hbw
            go_wp2_with fail
            refine KG6.out.mono ?_
            rintro e w7 ⟨rfl, rfl⟩
            go_wp2_with (first
              | (at_builtin
                 refine wpList_app _ rfl _ _ 33 rfl tyStrsK w1.heap.size _ _ _ rfl (HO6.out.alloc _) ⟨w6.heap.size, 0, none⟩ 1 1 [str p] rfl rfl (news_one ?_) ?_ (by decide) ?_ ?_ ?_
                 · rw [cell_of_heap (heap_alloc_here w6 _)]; rfl
                 · intro u hu; simp at hu; subst hu; rfl
                 · omega
                 · simp; omega
                 intro v8 w8 ho8 hg8 hloc8
                 have HO8 : Hid (w8.ownsRow w1.heap.size 9 1 v8 (ys ++ [p]).length ((ys ++ [p]).map str)) := Hd (by simpa using ho8)
                 have HB8 : Hid (Below w1.heap.size w1 w8) := Hd ((HB6.out.alloc hz6 _).grown hg8 (by simp; omega) (fun q hq => (HO6.out.lt q hq).1))
                 clear ho8 hg8 hloc8))
            go_wp2
            go_roundw
            case rel => exact ⟨j + 1, by omega, by go_num, by rw [HTK.out, if_pos hs]; exact HO8.out, HB8.out⟩
            case measure => simp [intOf]; omega
      · rw [he]
        have hzf : (wc == 0) = false := by simpa using hz
        cases mp with
        | none =>
          simp only [Option.getD_none, Option.isSome_none] at KG6 HSB
          have hs : sb = false := by rw [HSB.out, hzf]; rfl
          go_wp2_with fail
          refine KG6.out.mono ?_
          rintro e w7 ⟨rfl, rfl⟩
          go_wp2_with fail
          go_roundw
          case rel => exact ⟨j + 1, by omega, by go_num, by rw [HTK.out, hs, if_neg (by decide), List.append_nil]; exact HO6.out, HB6.out⟩
          case measure => simp [intOf]; omega
        | some bs =>
          simp only [Option.getD_some, Option.isSome_some] at KG6 HSB
          have hs : sb = true := by rw [HSB.out, hzf]; rfl
          go_wp2_with fail
          refine KG6.out.mono ?_
          rintro e w7 ⟨rfl, rfl⟩
          go_wp2_with (first
            | (at_builtin
               refine wpList_app _ rfl _ _ 33 rfl tyStrsK w1.heap.size _ _ _ rfl (HO6.out.alloc _) ⟨w6.heap.size, 0, none⟩ 1 1 [str p] rfl rfl (news_one ?_) ?_ (by decide) ?_ ?_ ?_
               · rw [cell_of_heap (heap_alloc_here w6 _)]; rfl
               · intro u hu; simp at hu; subst hu; rfl
               · omega
               · simp; omega
               intro v8 w8 ho8 hg8 hloc8
               have HO8 : Hid (w8.ownsRow w1.heap.size 9 1 v8 (ys ++ [p]).length ((ys ++ [p]).map str)) := Hd (by simpa using ho8)
               have HB8 : Hid (Below w1.heap.size w1 w8) := Hd ((HB6.out.alloc hz6 _).grown hg8 (by simp; omega) (fun q hq => (HO6.out.lt q hq).1))
               clear ho8 hg8 hloc8))
          go_wp2
          go_roundw
          case rel => exact ⟨j + 1, by omega, by go_num, by rw [HTK.out, if_pos hs]; exact HO8.out, HB8.out⟩
          case measure => simp [intOf]; omega
    · obtain rfl : j = R.length := by omega
      have hlc : ((R.length : Int) < (R.length : Int)) = False := eq_false (by omega)
      have htk : (l.map RuleL.out).take R.length = l.map RuleL.out := List.take_of_length_le (by rw [List.length_map, HML.out]; exact Nat.le_refl _)
      rw [htk] at hown
      have KS := Hd (sort_any u3 (staleL l (fun p => mlook p m) mo) w1.heap.size wr hown (by
        have h1 := List.length_filter_le (staleB l (fun p => mlook p m) mo) (l.map RuleL.out)
        rw [List.length_map, HML.out] at h1
        unfold staleL
        omega))
      have HOL := Hd hown
      clear hown hbj htk HO
      go_wp2_with fail
      refine KS.out.mono ?_
      rintro e w6 ⟨rfl, ho6, hg6⟩
      have HO6 := Hd ho6
      have HB6 := Hd (HB.out.grown hg6 hzj (fun q hq => (HOL.out.lt q hq).1))
      clear ho6 hg6
      go_wp2
      go_ret
      exact ⟨_, rfl, ownsRow_base HO6.out hz1, HB1.out.trans (HB6.out.mono hz1)⟩
end Go.Proofs.YtgjialbmlhbngaaGreatDoor
