/-
  Package graph: Cycle at any rules.
-/
import Derived.Test.YtmlmogllgnfklaaGreatDoorFar
import Derived.Test.YtmlmogllgnfklaaGreatDoorCycP
import Derived.Laws.OwnMore
namespace Go.Proofs.YtmlmogllgnfklaaGreatDoor
open Go Go.RowKit Go.Kf Go.Sort Go.Proofs

theorem find_idx {p : Nat → Bool} : ∀ {l : List Nat} {x : Nat}, l.find? p = some x → ∃ h : l.findIdx p < l.length, l[l.findIdx p] = x
  | [], x, h => by cases h
  | a :: l, x, h => by
    by_cases hp : p a = true
    · rw [List.find?_cons_of_pos hp] at h
      have e : (a :: l).findIdx p = 0 := by rw [List.findIdx_cons, hp]; rfl
      exact ⟨by rw [e]; simp, by simp only [e]; exact Option.some.inj h⟩
    · rw [List.find?_cons_of_neg hp] at h
      obtain ⟨h1, h2⟩ := find_idx h
      have e : (a :: l).findIdx p = l.findIdx p + 1 := by rw [List.findIdx_cons, Bool.eq_false_iff.2 hp]; rfl
      exact ⟨by rw [e, List.length_cons]; omega, by simp only [e, List.getElem_cons_succ]; exact h2⟩

set_option maxRecDepth 100000 in
/-- Cycle's function value: is it as far as this? -/
theorem cycle1_any (f : List Int) (n Bf g Bl : Nat) (left : Int) (j : Nat) (hj : j < n) (hl : f.length = n) (w : World) (hb : w.cell? ⟨Bf, 0, none⟩ = some (.slice (some ⟨g, 0, none⟩) n n)) (hf : VRow 3 w g (f.map (Value.int .i64))) (hL : w.cell? ⟨Bl, 0, none⟩ = some (.int .i64 left)) :
    Calls Tryz.prog 47 #[intE j, .pointer (some ⟨Bf, 0, none⟩), .pointer (some ⟨Bl, 0, none⟩)] w fun e w' => e = .returned (.bool (decide (fa f j = left))) ∧ ∃ q, w' = w.drewN q := by
  have hix := idx_at (P := Tryz.prog) (T := 28) (E := 3) Tryz.underlying28 (by kernel_rfl) g n n j hj
  have hc : w.cell? ⟨g, j, none⟩ = some (.int .i64 (fa f j)) := hf.cell (by rw [List.getElem?_map, List.getElem?_eq_getElem (by omega), Option.map_some, fa_at (by omega)])
  generalize fa f j = z at *
  clear hf
  go_enter Tryz.func47, Tryz.ntmps47
  go_wp2_with fail
  go_quiet (fail)
  go_wp2
  go_ret
  refine ⟨?_, _, rfl⟩
  show Ending.returned (.bool (z == left)) = _
  rw [Bool.beq_eq_decide_eq]

/-- What Cycle answers. -/
def CycAns (S : Nat → Addr) (l : List RuleL) (B : Nat) (e : Ending) (w' : World) : Prop :=
  (RightS l ∧ ∃ c u, CycR l c ∧ e = .returned (.tuple #[u, .nilIface]) ∧ w'.ownsRow B 3 1 u c.length ((intsB c).map (Value.int .i64))) ∨ ∃ T x, e = .returned (.tuple #[.slice none 0 0, .iface T x]) ∧ SheetBad S l B (.iface T x) w'

set_option maxRecDepth 100000 in
set_option maxHeartbeats 4000000 in
theorem gcycle_any (R : List RV) (v : Value) (w : World) (S : Nat → Addr) (hR : RulesAt w v R) (hcap : Roomy v) (hm : Ml w) (hE : KErr w S) (hN : NErr w) (ht : Tab w)
    (hb : ∀ x ∈ R, x.1.out.length ≤ 1000000 ∧ x.1.word.length ≤ 100000 ∧ (∀ s ∈ x.1.ins, s.length ≤ 1000000) ∧ x.1.ins.length ≤ 1000) (hn : R.length ≤ 100000) :
    Calls Tryz.prog 14 #[v] w fun e w' => CycAns S (R.map Prod.fst) w.heap.size e w' ∧ Below w.heap.size w w' := by
  obtain ⟨a, c, hv, -, -⟩ := id hR.1
  rw [List.length_map] at hv
  subst hv
  have KS := Lib.hid (sheet_any R (.slice a R.length c) w S hR hcap hm hE hN ht hb hn)
  have HR := Lib.hid hR
  have HB := Lib.hid hb
  have hml : (R.map Prod.fst).length = R.length := List.length_map _
  have HML := Lib.hid hml
  clear hR hcap hm hE hN ht hb hml
  go_enter Tryz.func14, Tryz.ntmps14
  go_wp2_with fail
  refine KS.out.mono ?_
  rintro e w1 ⟨hs, hb1⟩
  rcases sheet_split hs with ⟨hrs, rfl⟩ | ⟨T, x, rfl, hbad⟩
  case inr =>
    have HB1 := Lib.hid hb1
    have HBAD := Lib.hid hbad
    clear hs hb1 hbad
    go_wp2
    go_ret2
    exact ⟨Or.inr ⟨T, x, rfl, HBAD.out⟩, HB1.out⟩
  case inl =>
    have HRS := Lib.hid hrs
    have h40 : R.length ≤ 40 := by have := hrs.1; rw [HML.out] at this; exact this
    have HB1 := Lib.hid hb1
    have KE := Lib.hid (edges_any R (.slice a R.length c) w1 (HR.out.below0 hb1) hrs.2 (by omega) (fun x hx => (HB.out x hx).2.2.2))
    clear hs hb1 hrs KS
    go_wp2_with fail
    refine KE.out.mono ?_
    rintro e w2 ⟨ev, rfl, hea, hb2⟩
    have hev : EdgesV w2 ev R.length (edgesB (R.map Prod.fst)) := by
      have := hea.view (by rw [HML.out]; omega)
      rw [HML.out] at this
      exact this
    have HEL : Hid (∀ i, ∀ k ∈ edgesB (R.map Prod.fst) i, k < R.length) := Lib.hid (fun i k hk => by have h := edges_lt _ i k hk; rw [HML.out] at h; exact h)
    have HB2 := Lib.hid (HB1.out.trans (hb2.mono HB1.out.size))
    have HEV := Lib.hid hev
    have HW : Hid (∀ wl, Below w2.heap.size w2 wl → Below w.heap.size w wl) := Lib.hid (fun wl h => HB2.out.trans (h.mono HB2.out.size))
    obtain ⟨ae, ce, hev2⟩ : ∃ ae ce, ev = .slice ae R.length ce := by
      obtain ⟨vs, h1, h2, -⟩ := hev
      obtain ⟨ae, ce, e, -, -⟩ := h1
      exact ⟨ae, ce, by rw [e, h2]⟩
    subst hev2
    clear hea hb2 hev KE
    go_wp2_with fail
    go_loopw [21] (fun iv wl => ∃ i : Nat, i ≤ R.length ∧ iv = .int .i64 i ∧ (∀ j, j < i → ¬ Plus (edgesB (R.map Prod.fst)) j j) ∧ Below w2.heap.size w2 wl) (fun iv _ => R.length - (intOf iv).toNat)
    case atStart => exact ⟨0, by omega, rfl, fun j h => by omega, Below.refl _ _⟩
    case round =>
      obtain ⟨i, hi, rfl, hno, hbi⟩ := hrel
      have HNO := Lib.hid hno
      have HBI := Lib.hid hbi
      have hzi := hbi.size
      by_cases hlt : i < R.length
      · have hlc : ((i : Int) < (R.length : Int)) = True := eq_true (by omega)
        have KF := Lib.hid (far_any (.slice ae R.length ce) R.length i (edgesB (R.map Prod.fst)) wr (HEV.out.below0 hbi) HEL.out hlt (by omega))
        clear hno hbi
        go_wp2_with fail
        refine KF.out.mono ?_
        rintro e w4 ⟨f, hfa, rfl, hrow, hb4⟩
        have HFA := Lib.hid hfa
        have hfl := hfa.len
        have HZ4 := Lib.hid hrow.lt
        obtain ⟨W5, hW5⟩ : ∃ W, w4.alloc (.cells #[.slice (some ⟨wr.heap.size + 1, 0, none⟩) R.length R.length] 28) = W := ⟨_, rfl⟩
        have hA5 : Below w4.heap.size w4 W5 := hW5 ▸ (Below.refl _ w4).alloc (Nat.le_refl _) _
        have hz5 : W5.heap.size = w4.heap.size + 1 := by rw [← hW5]; simp
        have hq5 : VRow 28 W5 w4.heap.size [.slice (some ⟨wr.heap.size + 1, 0, none⟩) R.length R.length] := hW5 ▸ heap_alloc_here w4 _
        have hr5 := hrow.below0 hA5
        have HB5 : Hid (Below w2.heap.size w2 W5) := Lib.hid ((HBI.out.trans (hb4.mono hzi)).trans (hA5.mono (by have := hb4.size; omega)))
        have hcb : W5.cell? ⟨w4.heap.size, 0, none⟩ = some (.slice (some ⟨wr.heap.size + 1, 0, none⟩) R.length R.length) := hq5.cell rfl
        have hix := idx_at (P := Tryz.prog) (T := 28) (E := 3) Tryz.underlying28 (by kernel_rfl) (wr.heap.size + 1) R.length R.length i hlt
        have hci : W5.cell? ⟨wr.heap.size + 1, i, none⟩ = some (.int .i64 (fa f i)) := hr5.cell (by rw [List.getElem?_map, List.getElem?_eq_getElem (by omega), Option.map_some, fa_at (by omega)])
        have HF : Hid (∀ wl, Below (w4.heap.size + 1) W5 wl → VRow 3 wl (wr.heap.size + 1) (f.map (Value.int .i64)) ∧ wl.cell? ⟨w4.heap.size, 0, none⟩ = some (.slice (some ⟨wr.heap.size + 1, 0, none⟩) R.length R.length)) := Lib.hid (fun wl hb => ⟨hr5.below0 (hb.mono (by omega)), (hb.cell (p := ⟨w4.heap.size, 0, none⟩) (by simp)).trans hcb⟩)
        have HFL : Hid (f.length = R.length) := Lib.hid hfl
        clear hrow hb4 hA5 hq5 hr5 hfl hfa
        by_cases hneg : fa f i < 0
        · have hnc : (fa f i < 0) = True := eq_true hneg
          have HNX : Hid (∀ j, j < i + 1 → ¬ Plus (edgesB (R.map Prod.fst)) j j) := Lib.hid (fun j hj hp => by
            by_cases hji : j = i
            · subst hji
              have := HFA.out.of_plus HEL.out hlt hp
              omega
            · exact HNO.out j (by omega) hp)
          clear hneg
          generalize fa f i = z at *
          go_wp2
          go_roundw
          case rel => exact ⟨i + 1, by omega, by go_num, HNX.out, HB5.out⟩
          case measure => simp [intOf]; omega
        · obtain ⟨d, hd⟩ : ∃ d : Nat, fa f i = (d : Int) + 1 := by
            rcases HFA.out.range i with h | h
            · omega
            · exact ⟨(fa f i - 1).toNat, by omega⟩
          have hdn : d < R.length := by
            rcases HFA.out.range i with h | h <;> omega
          have HD := Lib.hid hd
          rw [hd] at hci
          have hnc : ((d : Int) + 1 < 0) = False := eq_false (by omega)
          have hwd : IntKind.i64.wrap ((d : Int) + 1 - 1) = (d : Int) := by rw [show (d : Int) + 1 - 1 = d by omega]; exact IntWalk.i64_in _ (by omega)
          have hwd2 : IntKind.i64.wrap (d : Int) = (d : Int) := IntWalk.i64_in _ (by omega)
          obtain ⟨W6, hW6⟩ : ∃ W, W5.alloc (.cells #[intE i] 3) = W := ⟨_, rfl⟩
          have hz6 : W6.heap.size = w4.heap.size + 2 := by rw [← hW6]; simp [hz5]
          have hA6 : Below (w4.heap.size + 1) W5 W6 := hW6 ▸ (Below.refl _ W5).alloc (by omega) _
          have ho6 : W6.ownsRow (w4.heap.size + 1) 3 1 (.slice (some ⟨w4.heap.size + 1, 0, none⟩) 1 1) 1 [intE i] := by
            have h := World.ownsRow_lit (base := w4.heap.size + 1) (e := 3) (size := 1) W5 #[intE i] 1 (by omega) (by decide) rfl
            rw [hz5, hW6] at h
            exact h
          have hci6 := (hA6.cell (p := ⟨wr.heap.size + 1, i, none⟩) (by have := HZ4.out; simp; omega)).trans hci
          have hcb6 := (hA6.cell (p := ⟨w4.heap.size, 0, none⟩) (by simp)).trans hcb
          obtain ⟨W7, hW7⟩ : ∃ W, W6.alloc (.cells #[.int .i64 (d : Int)] 3) = W := ⟨_, rfl⟩
          have hq7 : VRow 3 W7 (w4.heap.size + 2) [.int .i64 (d : Int)] := by rw [← hz6]; exact hW7 ▸ heap_alloc_here W6 _
          have HO7 := Lib.hid (hW7 ▸ ho6.alloc (.cells #[.int .i64 (d : Int)] 3) : W7.ownsRow (w4.heap.size + 1) 3 1 (.slice (some ⟨w4.heap.size + 1, 0, none⟩) 1 1) 1 [intE i])
          have HQ7 := Lib.hid hq7
          have HA7 : Hid (Below (w4.heap.size + 1) W5 W7) := Lib.hid (hW7 ▸ hA6.alloc (by omega) _)
          have HAT : Hid (∀ t : Nat, (t : Int) ≤ d → cycA (edgesB (R.map Prod.fst)) f i t < R.length) := Lib.hid (fun t ht => by
            cases t with
            | zero => exact hlt
            | succ t => exact HEL.out _ _ (HFA.out.cyc_step (by omega) (t := t) (by omega)).2)
          have HSTEP : Hid (∀ t : Nat, t < d → ((edgesB (R.map Prod.fst) (cycA (edgesB (R.map Prod.fst)) f i t)).find? fun j => decide (fa f j = (d : Int) - t)) = some (cycA (edgesB (R.map Prod.fst)) f i (t + 1))) := Lib.hid (fun t ht => by
            have h := (HFA.out.cyc_step (by omega) (t := t) (by omega)).1
            rw [show fa f i - 1 - (t : Int) = (d : Int) - t by omega] at h
            exact h)
          clear hneg hA6 ho6 hq7 hd
          go_wp2_with fail
          go_loopw [8, 9, 10] (fun ov bv av wl => ∃ t Bl : Nat, t ≤ d ∧ av = intE (cycA (edgesB (R.map Prod.fst)) f i t) ∧ bv = .pointer (some ⟨Bl, 0, none⟩) ∧ VRow 3 wl Bl [.int .i64 ((d : Int) - t)] ∧ wl.ownsRow (w4.heap.size + 1) 3 1 ov (t + 1) ((intsB ((List.range (t + 1)).map (cycA (edgesB (R.map Prod.fst)) f i))).map (Value.int .i64)) ∧ (∀ b, ov.ownBlock = some b → b ≠ Bl) ∧ w4.heap.size + 1 ≤ Bl ∧ Below (w4.heap.size + 1) W5 wl) (fun ov _ _ _ => d + 1 - lenV ov)
          case atStart => exact ⟨0, w4.heap.size + 2, by omega, rfl, rfl, by simpa using HQ7.out, HO7.out, fun b hb => by cases hb; simp, by omega, HA7.out⟩
          case round =>
            obtain ⟨t, Bl, htd, rfl, rfl, hbx, hown, hsep, hbl, hbe⟩ := hrel
            obtain ⟨g8, c8, rfl⟩ := ownsRow_some hown (by omega)
            have HBX := Lib.hid hbx
            have HOW := Lib.hid hown
            have HSEP := Lib.hid hsep
            have HBE := Lib.hid hbe
            have hcl : wr.cell? ⟨Bl, 0, none⟩ = some (.int .i64 ((d : Int) - t)) := hbx.cell rfl
            have hat := HAT.out t (by omega)
            by_cases hlast : t < d
            · have hpos : ((0 : Int) < (d : Int) - t) = True := eq_true (by omega)
              have hzb := hbe.size
              obtain ⟨hrf, hbf⟩ := HF.out _ hbe
              obtain ⟨-, -, be, oe, ue, hixe, hcee, hree⟩ := (HEV.out.below0 (HB5.out.trans (hbe.mono (by have := HB5.out.size; omega)))).at hat
              have KI := Lib.hid (idxInt_any (fun j => decide (fa f j = (d : Int) - t)) 47 #[.pointer (some ⟨w4.heap.size, 0, none⟩), .pointer (some ⟨Bl, 0, none⟩)] ue (edgesB (R.map Prod.fst) (cycA (edgesB (R.map Prod.fst)) f i t)) wr hree
                ⟨fun _ _ => rfl, fun W x hx hb => cycle1_any f R.length _ _ Bl ((d : Int) - t) x (HEL.out _ x hx) HFL.out W
                  ((hb.cell (p := ⟨w4.heap.size, 0, none⟩) (by simp; omega)).trans hbf) (hrf.below0 hb) ((hb.cell (p := ⟨Bl, 0, none⟩) hbx.lt).trans hcl)⟩)
              have hfind := HSTEP.out t hlast
              obtain ⟨k, hk1, hk2, hkI⟩ : ∃ k : Nat, ∃ h : k < (edgesB (R.map Prod.fst) (cycA (edgesB (R.map Prod.fst)) f i t)).length, (edgesB (R.map Prod.fst) (cycA (edgesB (R.map Prod.fst)) f i t))[k] = cycA (edgesB (R.map Prod.fst)) f i (t + 1) ∧ idxI (fun j => decide (fa f j = (d : Int) - t)) (edgesB (R.map Prod.fst) (cycA (edgesB (R.map Prod.fst)) f i t)) = (k : Int) := by
                obtain ⟨h1, h2⟩ := find_idx hfind
                exact ⟨_, h1, h2, if_pos h1⟩
              rw [hkI] at KI
              obtain ⟨au, cu, hu, -, -⟩ := id hree
              rw [List.length_map] at hu
              subst hu
              obtain ⟨bk, ok, hixk, hck⟩ := hree.at (P := Tryz.prog) Tryz.underlying28 (by kernel_rfl) k (by rw [List.length_map]; exact hk1)
              simp only [List.getElem_map, hk2] at hck
              have HRS1 : Hid ((List.range (t + 1 + 1)).map (cycA (edgesB (R.map Prod.fst)) f i) = (List.range (t + 1)).map (cycA (edgesB (R.map Prod.fst)) f i) ++ [cycA (edgesB (R.map Prod.fst)) f i (t + 1)]) := Lib.hid (by rw [List.range_succ (n := t + 1), List.map_append]; rfl)
              have HOQ : Hid (∀ q, (wr.drewN q).ownsRow (w4.heap.size + 1) 3 1 (.slice (some ⟨g8, 0, none⟩) (t + 1) c8) (t + 1) ((intsB ((List.range (t + 1)).map (cycA (edgesB (R.map Prod.fst)) f i))).map (Value.int .i64))) := Lib.hid (fun q => ownsRow_fr (S := fun _ => False) HOW.out (Fr.of_below (below_drewN (Below.refl wr.heap.size wr) q)) (fun k hk => ⟨(HOW.out.lt k hk).2, id⟩))
              have hww : IntKind.i64.wrap ((d : Int) - (t : Int) - 1) = (d : Int) - (t : Int) - 1 := IntWalk.i64_in _ (by omega)
              clear hbx hown hsep hbe hrf hbf hfind hkI hk2 hree
              have HCN : Hid (∀ x, cycA (edgesB (R.map Prod.fst)) f i (t + 1) = x → intE x = intE (cycA (edgesB (R.map Prod.fst)) f i (t + 1))) := Lib.hid (fun x h => by rw [h])
              have HRS2 : Hid (∀ x, cycA (edgesB (R.map Prod.fst)) f i (t + 1) = x → (List.range (t + 1 + 1)).map (cycA (edgesB (R.map Prod.fst)) f i) = (List.range (t + 1)).map (cycA (edgesB (R.map Prod.fst)) f i) ++ [x]) := Lib.hid (fun x h => by rw [HRS1.out, h])
              obtain ⟨cn, hcn⟩ : ∃ x, cycA (edgesB (R.map Prod.fst)) f i (t + 1) = x := ⟨_, rfl⟩
              have HC1 := Lib.hid (HCN.out cn hcn)
              have HR1 := Lib.hid (HRS2.out cn hcn)
              rw [hcn] at hck
              clear HCN HRS1 HRS2 hcn
              generalize (edgesB (R.map Prod.fst) (cycA (edgesB (R.map Prod.fst)) f i t)).length = en at *
              generalize cycA (edgesB (R.map Prod.fst)) f i t = ct at *
              go_wp2_with fail
              refine KI.out.mono ?_
              rintro e w8 ⟨rfl, q, rfl⟩
              go_wp2_with (first
                | (at_builtin
                   refine wpList_app _ rfl _ _ 28 rfl tyInts (w4.heap.size + 1) _ _ _ rfl ((HOQ.out q).alloc _) ⟨wr.heap.size, 0, none⟩ 1 1 [intE cn] rfl rfl (news_one ?_) ?_ (by decide) ?_ ?_ ?_
                   · have e := heap_alloc_here (wr.drewN q) (.cells #[intE cn] 3)
                     rw [show (wr.drewN q).heap.size = wr.heap.size by simp] at e
                     rw [cell_of_heap e]; rfl
                   · intro u hu; simp at hu; subst hu; rfl
                   · omega
                   · simp; omega
                   intro v9 w9 ho9 hg9 hloc9
                   have HO9 := Lib.hid ho9
                   have HBB : Hid (Below (w4.heap.size + 1) W5 w9) := Lib.hid (((below_drewN HBE.out q).alloc (by simp; omega) _).grown hg9 (by simp; omega) (fun b hb => (HOW.out.lt b hb).1))
                   have hx9 : VRow 3 w9 Bl [.int .i64 ((d : Int) - t)] := (VRow.below0 HBX.out ((below_drewN (Below.refl _ _) q).alloc (by simp) _)).fr (Fr.of_grown hg9) (by have := HBX.out.lt; simp; omega) (fun e => HSEP.out _ e rfl)
                   have hc9 : w9.cell? ⟨Bl, 0, none⟩ = some (.int .i64 ((d : Int) - t)) := hx9.cell rfl
                   clear ho9 hg9 hloc9 hx9))
              go_wp2
              go_roundw
              case rel =>
                refine ⟨t + 1, w9.heap.size, by omega, HC1.out, rfl, ?_, ?_, fun b hb => ?_, ?_, HBB.out.alloc (by have := HBB.out.size; omega) _⟩
                · rw [show (d : Int) - ((t + 1 : Nat) : Int) = (d : Int) - t - 1 by omega]
                  exact heap_alloc_here w9 _
                · rw [HR1.out]
                  have h := HO9.out.alloc (.cells #[.int .i64 ((d : Int) - t - 1)] 3)
                  simpa [intsB] using h
                · have := (HO9.out.lt b hb).2
                  omega
                · have := HBB.out.size
                  omega
              case measure =>
                obtain ⟨g9, c9, rfl⟩ := ownsRow_some HO9.out (by omega)
                show d + 1 - (t + 1 + 1) < d + 1 - (t + 1)
                omega
            · obtain rfl : t = d := by omega
              have hpos : ((0 : Int) < (t : Int) - t) = False := eq_false (by omega)
              have HCY : Hid (CycR (R.map Prod.fst) ((List.range (t + 1)).map (cycA (edgesB (R.map Prod.fst)) f i))) := Lib.hid (Or.inl ⟨i, f, by rw [HML.out]; exact hlt, by rw [HML.out]; exact HFA.out, by have := HD.out; omega, HNO.out, by unfold cycL; rw [HD.out]; congr 2⟩)
              have HBF := Lib.hid (HW.out _ (HB5.out.trans (hbe.mono (by have := HB5.out.size; omega))))
              have hz2 := HB2.out.size
              have HOF := Lib.hid (ownsRow_base hown (show w.heap.size ≤ w4.heap.size + 1 by have := HB5.out.size; omega))
              clear hbx hown hsep hbe
              go_wp2
              go_ret2
              exact ⟨Or.inl ⟨HRS.out, _, _, HCY.out, rfl, by rw [List.length_map, List.length_range]; exact HOF.out⟩, HBF.out⟩
      · obtain rfl : i = R.length := by omega
        have hlc : ((R.length : Int) < (R.length : Int)) = False := eq_false (by omega)
        clear hno hbi
        go_wp2
        go_ret2
        exact ⟨Or.inl ⟨HRS.out, [], _, Or.inr ⟨rfl, fun j hj => HNO.out j (by rw [HML.out] at hj; exact hj)⟩, rfl, World.ownsRow_nil _ _ _ _⟩, HW.out _ HBI.out⟩
end Go.Proofs.YtmlmogllgnfklaaGreatDoor
