/-
  Slices of rules; slices.IndexFunc and slices.ContainsFunc on them.
-/
import Derived.Test.YtmlmogllgnfklaaGreatDoorRule
namespace Go.Proofs.YtmlmogllgnfklaaGreatDoor
open Go Go.RowKit Go.Kf Go.Sort Go.Proofs

/-- A rule beside its slice of inputs. -/
abbrev RV := RuleL × Value
def rvRow (x : RV) : List Value := [str x.1.out, str x.1.kind, str x.1.word, x.2]
abbrev rvAgg (x : RV) : Value := .agg #[str x.1.out, str x.1.kind, str x.1.word, x.2]
/-- A slice of rules that reads as R. -/
def RulesAt (w : World) (v : Value) (R : List RV) : Prop := ReadsK 4 w v (R.map rvRow) ∧ ∀ x ∈ R, Reads w x.2 (x.1.ins.map str) ∧ Roomy x.2
theorem readsK_below0 {s : Nat} {w w' : World} {v : Value} {xs : List (List Value)} (h : ReadsK s w v xs) (_hs : ∀ r ∈ xs, r ≠ []) (hb : Below w.heap.size w w') : ReadsK s w' v xs := by
  obtain ⟨a, cap, rfl, hle, h⟩ := h
  refine ⟨a, cap, rfl, hle, fun i row hi => ?_⟩
  obtain ⟨b, o, rfl, hcell⟩ := h i row hi
  refine ⟨b, o, rfl, fun j u hu => ?_⟩
  have := hcell j u hu
  exact (hb.cell (p := ⟨b, o + i * s + j, none⟩) (lt_of_cell this)).trans this
theorem RulesAt.below0 {w w' : World} {v : Value} {R : List RV} (h : RulesAt w v R) (hb : Below w.heap.size w w') : RulesAt w' v R :=
  ⟨readsK_below0 h.1 (fun r hr => by obtain ⟨x, -, rfl⟩ := List.mem_map.1 hr; simp [rvRow]) hb, fun x hx => ⟨(h.2 x hx).1.below0 hb, (h.2 x hx).2⟩⟩

/-- The first place (-1: none). -/
def idxR (p : RV → Bool) (R : List RV) : Int := if R.findIdx p < R.length then (R.findIdx p : Nat) else -1
theorem idxR_hit {p : RV → Bool} {R : List RV} {i : Nat} (hi : i < R.length) (hp : p R[i] = true) (hn : ∀ j (hj : j < R.length), j < i → p R[j] = false) : idxR p R = i := by
  have h : R.findIdx p = i := (List.findIdx_eq hi).2 ⟨hp, fun j hj => hn j (by omega) hj⟩
  unfold idxR
  rw [h, if_pos hi]
theorem idxR_miss {p : RV → Bool} {R : List RV} (hn : ∀ j (hj : j < R.length), p R[j] = false) : idxR p R = -1 := by
  have h : R.findIdx p = R.length := List.findIdx_eq_length.2 (fun x hx => by
    obtain ⟨j, hj, rfl⟩ := List.mem_iff_getElem.1 hx
    exact hn j hj)
  unfold idxR
  rw [h, if_neg (by omega)]

/-- A predicate that may lay blocks of its own. -/
def PredR (p : RV → Bool) (g : Nat) (L : Value) (w : World) : Prop := (∀ (args : Array Value) (w : World), (callFunc g args).run Tryz.prog w = .ok (.enter g args) w) ∧ ∀ (W : World) (x : RV), Below w.heap.size w W → Calls Tryz.prog g #[rvAgg x, L] W fun e w' => e = .returned (.bool (p x)) ∧ Below W.heap.size W w'

set_option maxRecDepth 100000 in
set_option maxHeartbeats 1000000 in
theorem idxRule_any (p : RV → Bool) (g : Nat) (L v : Value) (R : List RV) (w : World) (hr : ReadsK 4 w v (R.map rvRow)) (hp : PredR p g L w) :
    Calls Tryz.prog 39 #[v, .func (.func g) #[] #[L]] w fun e w' => e = .returned (.int .i64 (idxR p R)) ∧ Below w.heap.size w w' := by
  have hle := hr.le
  obtain ⟨a, cap, rfl, -, -⟩ := id hr
  simp only [List.length_map] at *
  have eg := hp.1
  have HP := Lib.hid hp.2
  have HR := Lib.hid (fun W (hb : Below w.heap.size w W) => readsK_below0 hr (fun r hr => by obtain ⟨x, -, rfl⟩ := List.mem_map.1 hr; simp [rvRow]) hb)
  clear hr hp
  go_enter Tryz.func39, Tryz.ntmps39
  go_wp2_with fail
  go_loopw [8] (fun iv wl => ∃ i : Nat, i ≤ R.length ∧ iv = .int .i64 i ∧ (∀ j (hj : j < R.length), j < i → p R[j] = false) ∧ Below w.heap.size w wl) (fun iv _ => R.length - (intOf iv).toNat)
  case atStart => exact ⟨0, by omega, rfl, fun j hj h => by omega, Below.refl _ _⟩
  case round =>
    obtain ⟨i, hi, rfl, hno, hbi⟩ := hrel
    have HNO := Lib.hid hno
    have HBi := Lib.hid hbi
    clear hno
    by_cases hlt : i < R.length
    · have hlc : ((i : Int) < (R.length : Int)) = True := eq_true (by omega)
      obtain ⟨b, o, hix, -, hce⟩ := (HR.out _ hbi).at (P := Tryz.prog) Tryz.underlying22 (by kernel_rfl) i (by simpa using hlt)
      simp only [List.getElem_map] at hce
      have hc0 := hce 0 _ rfl
      have hc1 := hce 1 _ rfl
      have hc2 := hce 2 _ rfl
      have hc3 := hce 3 _ rfl
      simp only [Nat.add_zero] at hc0
      have KP := HP.out wr R[i] hbi
      have hcx : ∀ x, R[i] = x → p x = p R[i] := fun x h => by rw [h]
      clear hce hbi
      cases hb : p R[i] with
      | true =>
        have HF : Hid (idxR p R = (i : Int)) := Lib.hid (idxR_hit hlt hb HNO.out)
        rw [hb] at KP
        have KP1 := Lib.hid KP
        clear KP hcx hb
        generalize R[i] = x at *
        obtain ⟨⟨x0, x1, x2, x4⟩, x3⟩ := x
        simp only at hc0 hc1 hc2 hc3 KP1
        go_wp2_with fail
        refine KP1.out.mono ?_
        rintro e w2 ⟨rfl, hb2⟩
        go_wp2
        go_ret
        exact ⟨by rw [HF.out]; rfl, HBi.out.trans (hb2.mono HBi.out.size)⟩
      | false =>
        have HN : Hid (∀ j (hj : j < R.length), j < i + 1 → p R[j] = false) := Lib.hid (fun j hj h => by
          by_cases hji : j = i
          · subst hji; exact hb
          · exact HNO.out j hj (by omega))
        rw [hb] at KP
        have KP1 := Lib.hid KP
        clear KP hcx hb
        generalize R[i] = x at *
        obtain ⟨⟨x0, x1, x2, x4⟩, x3⟩ := x
        simp only at hc0 hc1 hc2 hc3 KP1
        go_wp2_with fail
        refine KP1.out.mono ?_
        rintro e w2 ⟨rfl, hb2⟩
        have HB2 := Lib.hid (HBi.out.trans (hb2.mono HBi.out.size))
        clear hb2 hc0 hc1 hc2 hc3
        go_wp2
        go_roundw
        case rel => exact ⟨i + 1, by omega, by go_num, HN.out, HB2.out⟩
        case measure => simp [intOf]; omega
    · obtain rfl : i = R.length := by omega
      have hlc : ((R.length : Int) < (R.length : Int)) = False := eq_false (by omega)
      have HF : Hid (idxR p R = -1) := Lib.hid (idxR_miss (fun j hj => HNO.out j hj hj))
      clear hbi
      go_wp2
      go_ret
      exact ⟨by rw [HF.out]; rfl, HBi.out⟩

theorem idxR_any (p : RV → Bool) (R : List RV) : decide (0 ≤ idxR p R) = R.any p := by
  unfold idxR
  by_cases h : R.findIdx p < R.length
  · rw [if_pos h, decide_eq_true (by omega)]
    exact (List.any_eq_true.2 (List.findIdx_lt_length.1 h)).symm
  · rw [if_neg h, decide_eq_false (by decide)]
    cases hq : R.any p with
    | false => rfl
    | true => exact absurd (List.findIdx_lt_length.2 (List.any_eq_true.1 hq)) h

set_option maxRecDepth 100000 in
theorem anyRule_any (p : RV → Bool) (g : Nat) (L v : Value) (R : List RV) (w : World) (hr : ReadsK 4 w v (R.map rvRow)) (hp : PredR p g L w) :
    Calls Tryz.prog 41 #[v, .func (.func g) #[] #[L]] w fun e w' => e = .returned (.bool (R.any p)) ∧ Below w.heap.size w w' := by
  have K := Lib.hid (idxRule_any p g L v R w hr hp)
  rw [← idxR_any]
  obtain ⟨z, hz⟩ : ∃ z, idxR p R = z := ⟨_, rfl⟩
  rw [hz] at K ⊢
  have hb : ∃ b, (0 ≤ z) = (b = true) ∧ decide (0 ≤ z) = b := ⟨decide (0 ≤ z), by simp, rfl⟩
  clear hz hr hp
  obtain ⟨b, hb1, hb2⟩ := hb
  rw [hb2]
  go_enter Tryz.func41, Tryz.ntmps41
  go_wp2_with fail
  refine K.out.mono ?_
  rintro e w1 ⟨rfl, hb1'⟩
  go_wp2
  go_ret
  exact ⟨by simp, hb1'⟩
end Go.Proofs.YtmlmogllgnfklaaGreatDoor

/-
  Package rule: Sheet at any rules.
-/
namespace Go.Proofs.YtmlmogllgnfklaaGreatDoor
open Go Go.RowKit Go.Kf Go.Sort Go.Proofs

set_option maxRecDepth 100000 in
/-- The function value of Sheet. -/
theorem sheet1_any (x : RV) (B : Nat) (out : List UInt8) (W : World) (hc : W.cell? ⟨B, 0, none⟩ = some (str out)) :
    Calls Tryz.prog 57 #[rvAgg x, .pointer (some ⟨B, 0, none⟩)] W fun e w' => e = .returned (.bool (x.1.out == out)) ∧ Below W.heap.size W w' := by
  obtain ⟨⟨x0, x1, x2, x4⟩, x3⟩ := x
  simp only
  obtain ⟨W0, hW0⟩ : ∃ W0, W.alloc (.cells #[str x0, str x1, str x2, x3] 27) = W0 := ⟨_, rfl⟩
  have hA : Below W.heap.size W W0 := hW0 ▸ (Below.refl _ W).alloc (Nat.le_refl _) _
  have h0 : W0.cell? ⟨W.heap.size, 0, none⟩ = some (str x0) := by rw [← hW0, cell_of_heap (heap_alloc_here W _)]; rfl
  have h1 := (hA.cell (p := ⟨B, 0, none⟩) (lt_of_cell hc)).trans hc
  have HA := Lib.hid hA
  obtain ⟨b, hb⟩ : ∃ b, (x0 == out) = b := ⟨_, rfl⟩
  rw [hb]
  clear hc hA
  go_enter Tryz.func57, Tryz.ntmps57
  go_wp2
  go_ret
  exact ⟨rfl, HA.out⟩

/-- What Sheet answers. -/
def SheetAns (S : Nat → Addr) (l : List RuleL) (B : Nat) (e : Ending) (w' : World) : Prop :=
  (l.length ≤ 40 ∧ (∀ i r, l[i]? = some r → errAt l i r = 0) ∧ e = .returned .nilIface) ∨
  (40 < l.length ∧ e = .returned (errI (S 1))) ∨
  (l.length ≤ 40 ∧ ∃ i r m g, (∀ j q, j < i → l[j]? = some q → errAt l j q = 0) ∧ l[i]? = some r ∧ errAt l i r = m + 1 ∧ e = .returned (.iface 77 (.pointer (some ⟨g, 0, none⟩))) ∧ B ≤ g ∧ w'.heap[g]? = some (.cells #[.int .i64 (i : Int), errI (S m)] 79 (0, 0)))

theorem errAt_rule {l : List RuleL} {i : Nat} {r : RuleL} {m : Nat} (h : ruleErr r = m + 1) : errAt l i r = m + 1 := by
  unfold errAt
  rw [if_pos (by omega), h]
theorem errAt_dup {R : List RV} {i : Nat} {r : RuleL} (h : ruleErr r = 0) (hd : (R.take i).any (fun x => x.1.out == r.out) = true) : errAt (R.map Prod.fst) i r = 7 := by
  unfold errAt
  rw [if_neg (by omega), if_pos]
  obtain ⟨x, hx, he⟩ := List.any_eq_true.1 hd
  rw [← List.map_take, List.map_map]
  exact List.mem_map.2 ⟨x, hx, by simpa using he⟩
theorem errAt_ok {R : List RV} {i : Nat} {r : RuleL} (h : ruleErr r = 0) (hd : (R.take i).any (fun x => x.1.out == r.out) = false) : errAt (R.map Prod.fst) i r = 0 := by
  unfold errAt
  rw [if_neg (by omega), if_neg]
  intro hm
  rw [← List.map_take, List.map_map] at hm
  obtain ⟨x, hx, he⟩ := List.mem_map.1 hm
  have : (R.take i).any (fun x => x.1.out == r.out) = true := List.any_eq_true.2 ⟨x, hx, by simpa using he⟩
  rw [hd] at this
  cases this

set_option maxRecDepth 100000 in
set_option maxHeartbeats 2000000 in
theorem sheet_any (R : List RV) (v : Value) (w : World) (S : Nat → Addr) (hR : RulesAt w v R) (hcap : Roomy v) (hm : Ml w) (hE : KErr w S) (hN : NErr w) (ht : Tab w)
    (hb : ∀ x ∈ R, x.1.out.length ≤ 1000000 ∧ x.1.word.length ≤ 100000 ∧ (∀ s ∈ x.1.ins, s.length ≤ 1000000) ∧ x.1.ins.length ≤ 1000) (hn : R.length ≤ 100000) :
    Calls Tryz.prog 20 #[v] w fun e w' => SheetAns S (R.map Prod.fst) w.heap.size e w' ∧ Below w.heap.size w w' := by
  obtain ⟨a, c, hv, -, -⟩ := id hR.1
  rw [List.length_map] at hv
  subst hv
  have hnc := hcap _ _ _ rfl
  have hml : (R.map Prod.fst).length = R.length := List.length_map _
  by_cases h40 : R.length ≤ 40
  case neg =>
    have hd : ((40 : Int) < (R.length : Int)) = True := eq_true (by omega)
    have hce := hE.bound
    have HF : Hid (40 < (R.map Prod.fst).length) := Lib.hid (by omega)
    clear hR hcap hm hE hN ht hb hml
    go_enter Tryz.func20, Tryz.ntmps20
    go_wp2
    go_ret
    exact ⟨Or.inr (Or.inl ⟨HF.out, rfl⟩), Below.refl _ _⟩
  case pos =>
    have hd : ((40 : Int) < (R.length : Int)) = False := eq_false (by omega)
    have HR := Lib.hid hR
    have HM := Lib.hid hm
    have HE := Lib.hid hE
    have HN := Lib.hid hN
    have HT := Lib.hid ht
    have HB := Lib.hid hb
    have HML := Lib.hid hml
    clear hR hcap hm hE hN ht hb hml
    go_enter Tryz.func20, Tryz.ntmps20
    go_wp2_with fail
    go_loopw [12] (fun iv wl => ∃ i : Nat, i ≤ R.length ∧ iv = .int .i64 i ∧ (∀ j q, j < i → (R.map Prod.fst)[j]? = some q → errAt (R.map Prod.fst) j q = 0) ∧ Below w.heap.size w wl) (fun iv _ => R.length - (intOf iv).toNat)
    case atStart => exact ⟨0, by omega, rfl, fun j q h _ => by omega, Below.refl _ _⟩
    case round =>
      obtain ⟨i, hi, rfl, hno, hbi⟩ := hrel
      have HNO := Lib.hid hno
      have HBi := Lib.hid hbi
      clear hno
      by_cases hlt : i < R.length
      · have hlc : ((i : Int) < (R.length : Int)) = True := eq_true (by omega)
        have hri := HR.out.below0 hbi
        obtain ⟨b, o, hix, ha, hce⟩ := hri.1.at (P := Tryz.prog) Tryz.underlying22 (by kernel_rfl) i (by simpa using hlt)
        subst ha
        simp only [List.getElem_map] at hce
        have hc0 := hce 0 _ rfl
        have hc1 := hce 1 _ rfl
        have hc2 := hce 2 _ rfl
        have hc3 := hce 3 _ rfl
        simp only [Nat.add_zero] at hc0
        have hget : (R.map Prod.fst)[i]? = some R[i].1 := by rw [List.getElem?_map, List.getElem?_eq_getElem hlt]; rfl
        have hin := List.getElem_mem hlt
        obtain ⟨hb1, hb2, hb3, hb4⟩ := HB.out _ hin
        obtain ⟨hrv, hro⟩ := hri.2 _ hin
        have htk : ReadsK 4 wr (.slice (some ⟨b, o - i * 4, none⟩) i c) ((R.take i).map rvRow) := by
          obtain ⟨a', c', e, hle, hcc⟩ := hri.1
          rw [List.length_map] at e
          cases e
          refine ⟨_, c, by rw [List.length_map, List.length_take, Nat.min_eq_left (by omega)], by rw [List.length_map, List.length_take]; omega, fun j u hj => hcc j u ?_⟩
          rw [List.getElem?_map] at hj ⊢
          rw [List.getElem?_take] at hj
          split at hj
          · exact hj
          · cases hj
        have hstep : ∀ q, errAt (R.map Prod.fst) i R[i].1 = 0 → (R.map Prod.fst)[i]? = some q → errAt (R.map Prod.fst) i q = 0 := fun q h hq => by
          rw [hget] at hq
          obtain rfl := Option.some.inj hq
          exact h
        have HST := Lib.hid hstep
        have HG := Lib.hid hget
        have hdup : ∀ bb, (R.take i).any (fun x => x.1.out == R[i].1.out) = bb → (R.take i).any (fun x => x.1.out == R[i].1.out) = bb := fun _ h => h
        clear hce hin hget hstep hdup
        generalize hx : R[i] = x at *
        obtain ⟨r, u⟩ := x
        simp only at hc0 hc1 hc2 hc3 hb1 hb2 hb3 hb4 hrv hro HST HG
        clear hx
        obtain ⟨au, cu, hu, -, -⟩ := id hrv
        rw [List.length_map] at hu
        subst hu
        obtain ⟨W2, hW2⟩ : ∃ W2, wr.alloc (.cells #[str r.out, str r.kind, str r.word, .slice au r.ins.length cu] 27) = W2 := ⟨_, rfl⟩
        have hA : Below wr.heap.size wr W2 := hW2 ▸ (Below.refl _ wr).alloc (Nat.le_refl _) _
        have hb02 := hbi.trans (hA.mono hbi.size)
        have hcl : ∀ k, W2.cell? ⟨wr.heap.size, k, none⟩ = (#[str r.out, str r.kind, str r.word, .slice au r.ins.length cu] : Array Value)[k]? := fun k => by
          rw [← hW2, cell_of_heap (heap_alloc_here wr _)]
        have hq0 : W2.cell? ⟨wr.heap.size, 0, none⟩ = some (str r.out) := hcl 0
        have hq1 : W2.cell? ⟨wr.heap.size, 1, none⟩ = some (str r.kind) := hcl 1
        have hq2 : W2.cell? ⟨wr.heap.size, 2, none⟩ = some (str r.word) := hcl 2
        have hq3 : W2.cell? ⟨wr.heap.size, 3, none⟩ = some (.slice au r.ins.length cu) := hcl 3
        have hlt0 : wr.heap.size < W2.heap.size := by rw [← hW2]; simp
        have KC := rcheck_any r (.slice au r.ins.length cu) W2 S (hrv.below0 hA) hro (HM.out.below hb02 (Nat.le_refl _)) (HE.out.below hb02 (Nat.le_refl _)) (HN.out.below hb02 (Nat.le_refl _)) (tab_below HT.out hb02 (Nat.le_refl _)) hb1 hb2 hb3 hb4
        have HB2 := Lib.hid hb02
        have HTK := Lib.hid (readsK_below0 htk (fun r hr => by obtain ⟨x, -, rfl⟩ := List.mem_map.1 hr; simp [rvRow]) hA)
        have HQ0 := Lib.hid hq0
        clear hbi hri htk hA hb02 hcl hrv hro hb1 hb2 hb3 hb4
        cases hrc : ruleErr r with
        | succ m =>
          rw [hrc] at KC
          have KC1 : Hid (Calls Tryz.prog 26 #[.agg #[str r.out, str r.kind, str r.word, .slice au r.ins.length cu]] W2 fun e w' => e = .returned (errI (S m)) ∧ Below W2.heap.size W2 w') := Lib.hid KC
          have HEA : Hid (errAt (R.map Prod.fst) i r = m + 1) := Lib.hid (errAt_rule hrc)
          clear KC hrc
          go_wp2_with fail
          refine KC1.out.mono ?_
          rintro e w3 ⟨rfl, hb3⟩
          have HB3 := Lib.hid (HB2.out.trans (hb3.mono HB2.out.size))
          clear hb3 hq0 hq1 hq2 hq3 hc0 hc1 hc2 hc3
          go_wp2
          go_ret
          refine ⟨Or.inr (Or.inr ⟨by rw [HML.out]; exact h40, i, r, m, w3.heap.size, HNO.out, HG.out, HEA.out, rfl, HB3.out.size, heap_alloc_here w3 _⟩), HB3.out.alloc HB3.out.size _⟩
        | zero =>
          rw [hrc] at KC
          have KC1 : Hid (Calls Tryz.prog 26 #[.agg #[str r.out, str r.kind, str r.word, .slice au r.ins.length cu]] W2 fun e w' => e = .returned .nilIface ∧ Below W2.heap.size W2 w') := Lib.hid KC
          have HRC := Lib.hid hrc
          have hic : (i ≤ c) = True := eq_true (by omega)
          have hic2 : ((i : Int) ≤ (c : Int)) = True := eq_true (by omega)
          clear KC hrc
          go_wp2_with fail
          refine KC1.out.mono ?_
          rintro e w3 ⟨rfl, hb3⟩
          have HB3 := Lib.hid (HB2.out.trans (hb3.mono HB2.out.size))
          have hq03 := (hb3.cell (p := ⟨wr.heap.size, 0, none⟩) hlt0).trans HQ0.out
          have KY := anyRule_any (fun x => x.1.out == r.out) 57 (.pointer (some ⟨wr.heap.size, 0, none⟩)) (.slice (some ⟨b, o - i * 4, none⟩) i c) (R.take i) w3
            (readsK_below0 HTK.out (fun r hr => by obtain ⟨x, -, rfl⟩ := List.mem_map.1 hr; simp [rvRow]) hb3)
            ⟨fun _ _ => rfl, fun W x hW => sheet1_any x wr.heap.size r.out W ((hW.cell (p := ⟨wr.heap.size, 0, none⟩) (lt_of_cell hq03)).trans hq03)⟩
          clear hb3 hq0 hq1 hq2 hq3 hc0 hc1 hc2 hc3 hq03
          cases hany : (R.take i).any (fun x => x.1.out == r.out) with
          | true =>
            rw [hany] at KY
            have KY1 := Lib.hid KY
            have HEA : Hid (errAt (R.map Prod.fst) i r = 6 + 1) := Lib.hid (errAt_dup HRC.out hany)
            clear KY hany
            go_wp2_with fail
            refine KY1.out.mono ?_
            rintro e w4 ⟨rfl, hb4⟩
            have HB4 := Lib.hid (HB3.out.trans (hb4.mono HB3.out.size))
            have hce2 := (HE.out.below HB4.out (Nat.le_refl _)).exist
            clear hb4
            go_wp2
            go_ret
            refine ⟨Or.inr (Or.inr ⟨by rw [HML.out]; exact h40, i, r, 6, w4.heap.size, HNO.out, HG.out, HEA.out, rfl, HB4.out.size, heap_alloc_here w4 _⟩), HB4.out.alloc HB4.out.size _⟩
          | false =>
            rw [hany] at KY
            have KY1 := Lib.hid KY
            have HNN : Hid (∀ j q, j < i + 1 → (R.map Prod.fst)[j]? = some q → errAt (R.map Prod.fst) j q = 0) := Lib.hid (fun j q h hq => by
              by_cases hji : j = i
              · subst hji
                exact HST.out q (errAt_ok HRC.out hany) hq
              · exact HNO.out j q (by omega) hq)
            clear KY hany
            go_wp2_with fail
            refine KY1.out.mono ?_
            rintro e w4 ⟨rfl, hb4⟩
            have HB4 := Lib.hid (HB3.out.trans (hb4.mono HB3.out.size))
            clear hb4
            go_wp2
            go_roundw
            case rel => exact ⟨i + 1, by omega, by go_num, HNN.out, HB4.out⟩
            case measure => simp [intOf]; omega
      · obtain rfl : i = R.length := by omega
        have hlc : ((R.length : Int) < (R.length : Int)) = False := eq_false (by omega)
        have HF : Hid (∀ i r, (R.map Prod.fst)[i]? = some r → errAt (R.map Prod.fst) i r = 0) := Lib.hid (fun i r h => by
          have hi := (List.getElem?_eq_some_iff.1 h).1
          rw [List.length_map] at hi
          exact HNO.out i r hi h)
        clear hbi
        go_wp2
        go_ret
        exact ⟨Or.inl ⟨by rw [HML.out]; exact h40, HF.out, rfl⟩, HBi.out⟩
end Go.Proofs.YtmlmogllgnfklaaGreatDoor
