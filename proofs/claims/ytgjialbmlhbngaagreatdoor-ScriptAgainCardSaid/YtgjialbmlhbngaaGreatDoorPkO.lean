/-
  Package graph: Needs at any rules and outs. Package want: what any place tells; Of. The laws' wanted: one rule, one file. faulted and coded, at what a sheet is told. coded and faulted of package kilnfieldlaw2.
-/
import Derived.Test.YtgjialbmlhbngaaGreatDoorPkH
import Derived.Test.YtgjialbmlhbngaaGreatDoorPkN
import Derived.Test.YtgjialbmlhbngaaGreatDoorPkI
import Derived.Test.YtgjialbmlhbngaaGreatDoorPkM
import Derived.Test.YtgjialbmlhbngaaGreatDoorPkK

set_option maxRecDepth 100000
namespace Go.Proofs.YtgjialbmlhbngaaGreatDoor
open Go Go.RowKit Go.Kf Go.Sort Go.Proofs
def NeedsOk (l : List RuleL) (outs : List (List UInt8)) (B : Nat) (e : Ending) (w' : World) : Prop :=
  ∃ ks N v, PlacesAt l outs ks ∧ (∀ k, k ∈ N ↔ Reach (edgesB l) ks k) ∧ e = .returned (.tuple #[v, .nilIface]) ∧ w'.ownsRow B 3 1 v (needL l.length N).length ((intsB (needL l.length N)).map (Value.int .i64))
def NeedsNo (S : Nat → Addr) (l : List RuleL) (outs : List (List UInt8)) (B : Nat) (e : Ending) (w' : World) : Prop :=
  ∃ i g, ∃ h : i < outs.length, (∀ j (hj : j < outs.length), j < i → outs[j] ∈ l.map RuleL.out) ∧ outs[i] ∉ l.map RuleL.out ∧ e = .returned (.tuple #[.slice none 0 0, .iface 220 (.pointer (some ⟨g, 0, none⟩))]) ∧ B ≤ g ∧ w'.heap[g]? = some (.cells #[.int .i64 (i : Int), errI (S 5)] 222 (0, 0))
def NeedsAns (S : Nat → Addr) (l : List RuleL) (outs : List (List UInt8)) (B : Nat) (e : Ending) (w' : World) : Prop :=
  (RightS l ∧ (NeedsOk l outs B e w' ∨ NeedsNo S l outs B e w')) ∨ ∃ T x, e = .returned (.tuple #[.slice none 0 0, .iface T x]) ∧ SheetBad S l B (.iface T x) w'
set_option maxHeartbeats 4000000 in
theorem gneeds_any (R : List RV) (v : Value) (outs : List (List UInt8)) (vo : Value) (w : World) (S : Nat → Addr) (hR : RulesAt w v R) (hcap : Roomy v) (hO : Reads w vo (outs.map str)) (ho : outs.length ≤ 1000) (hm : Ml w) (hE : KErr w S) (hL : LErr w S) (hN : NErr w) (ht : Tab w)
    (hb : ∀ x ∈ R, x.1.out.length ≤ 1000000 ∧ x.1.word.length ≤ 100000 ∧ (∀ s ∈ x.1.ins, s.length ≤ 1000000) ∧ x.1.ins.length ≤ 1000) (hn : R.length ≤ 100000) :
    Calls Tryz.prog 83 #[v, vo] w fun e w' => NeedsAns S (R.map Prod.fst) outs w.heap.size e w' ∧ Below w.heap.size w w' := by
  obtain ⟨a, c, hv, -, -⟩ := id hR.1
  rw [List.length_map] at hv
  subst hv
  obtain ⟨ao, co, hvo, hole, -⟩ := id hO
  rw [List.length_map] at hvo hole
  subst hvo
  have hmm := @run_makeMap Tryz.prog
  have KS := Hd (sheet_any R (.slice a R.length c) w S hR hcap hm hE hN ht hb hn)
  have HR := Hd hR
  have HO := Hd hO
  have HE := Hd hL
  have HB := Hd hb
  have hml : (R.map Prod.fst).length = R.length := List.length_map _
  have HML := Hd hml
  clear hR hcap hm hE hL hN ht hb hO hml
  go_enter Tryz.func83, Tryz.ntmps83
  go_wp2_with fail
  refine KS.out.mono ?_
  rintro e w1 ⟨hs, hb1⟩
  rcases sheet_split hs with ⟨hrs, rfl⟩ | ⟨T, x, rfl, hbad⟩
  case inr =>
    have HB1 := Hd hb1
    have HBAD := Hd hbad
    clear hs hb1 hbad
    go_wp2
    go_ret2
    exact ⟨Or.inr ⟨T, x, rfl, HBAD.out⟩, HB1.out⟩
  case inl =>
    have HRS := Hd hrs
    have h40 : R.length ≤ 40 := by have := hrs.1; rw [HML.out] at this; exact this
    have HB1 := Hd hb1
    have KE := Hd (edges_any R (.slice a R.length c) w1 (HR.out.below0 hb1) hrs.2 (by omega) (fun x hx => (HB.out x hx).2.2.2))
    clear hs hb1 hrs KS
    go_wp2_with fail
    refine KE.out.mono ?_
    rintro e w2 ⟨ev, rfl, hea, hb2⟩
    have HEV : Hid (EdgesV w2 ev R.length (edgesB (R.map Prod.fst))) := Hd (by
      have := hea.view (by rw [HML.out]; omega)
      rw [HML.out] at this
      exact this)
    have HB2 := Hd (HB1.out.trans (hb2.mono HB1.out.size))
    have m0 : MapIs (Value.int .i64) Value.bool (w2.alloc (.map #[] 0)) w2.heap.size (needM []) := MapIs.made w2
    have f0 : Below w2.heap.size w2 (w2.alloc (.map #[] 0)) := (Below.refl _ w2).alloc (Nat.le_refl _) _
    obtain ⟨W3, hW3⟩ : ∃ W, w2.alloc (.map #[] 0) = W := ⟨_, rfl⟩
    have hz3 : W3.heap.size = w2.heap.size + 1 := by rw [← hW3]; simp
    rw [hW3] at m0 f0
    have M0 := Hd m0
    have F0 := Hd f0
    have hz2 := HB2.out.size
    have HW : Hid (∀ wl, Below W3.heap.size W3 wl → Below w2.heap.size w2 wl) := Hd (fun wl h => F0.out.trans (h.mono (by omega)))
    have HWW : Hid (∀ wl, Below w2.heap.size w2 wl → Below w.heap.size w wl) := Hd (fun wl h => HB2.out.trans (h.mono hz2))
    obtain ⟨ae, ce, hev⟩ : ∃ ae ce, ev = .slice ae R.length ce := by
      obtain ⟨vs, h1, h2, -⟩ := HEV.out
      obtain ⟨ae, ce, e, -, -⟩ := h1
      exact ⟨ae, ce, by rw [e, h2]⟩
    subst hev
    clear hea hb2 m0 f0 KE
    go_wp2_with fail
    go_loopw [9, 26] (fun tv iv wl => ∃ (i : Nat) (ks : List Nat), i ≤ outs.length ∧ iv = .int .i64 i ∧ PlacesAt (R.map Prod.fst) (outs.take i) ks ∧ wl.ownsRow (w2.heap.size + 1) 3 1 tv ks.length ((intsB ks).map (Value.int .i64)) ∧ Below W3.heap.size W3 wl) (fun _ iv _ => outs.length - (intOf iv).toNat)
    case atStart => exact ⟨0, [], by omega, rfl, PlacesAt.nil _, World.ownsRow_nil _ _ _ _, Below.refl _ _⟩
    case round =>
      obtain ⟨i, ks, hi, rfl, hpl, hown, hbi⟩ := hrel
      have HPL := Hd hpl
      have HOW := Hd hown
      have HBI := Hd hbi
      have hkl : ks.length = i := by rw [hpl.len, List.length_take]; omega
      have hzi := hbi.size
      by_cases hlt : i < outs.length
      · have hlc : ((i : Int) < (outs.length : Int)) = True := eq_true (by omega)
        obtain ⟨b, o, hix, hce⟩ := (HO.out.below0 (HWW.out _ (HW.out _ hbi))).at (P := Tryz.prog) Tryz.underlying33 (by kernel_rfl) i (by simpa using hlt)
        simp only [List.getElem_map] at hce
        have HTK : Hid (outs.take (i + 1) = outs.take i ++ [outs[i]]) := Hd (by rw [List.take_succ_eq_append_getElem hlt])
        have HMK : Hid (∀ j (hj : j < outs.length), j < i → outs[j] ∈ (R.map Prod.fst).map RuleL.out) := Hd (fun j hj hji => by
          have h1 : outs[j] ∈ outs.take i := List.mem_iff_getElem.2 ⟨j, by rw [List.length_take]; omega, by rw [List.getElem_take]⟩
          rw [← HPL.out.2] at h1
          obtain ⟨k, hk, e⟩ := List.mem_map.1 h1
          have hkk := HPL.out.1 k hk
          rw [List.getD_eq_getElem?_getD, List.getElem?_eq_getElem hkk, Option.getD_some] at e
          rw [← e]
          exact List.mem_map.2 ⟨_, List.getElem_mem hkk, rfl⟩)
        have HAT : Hid (∀ s, outs[i] = s → s ∉ (R.map Prod.fst).map RuleL.out → ∃ h : i < outs.length, outs[i] ∉ (R.map Prod.fst).map RuleL.out) := Hd (fun s h1 h2 => ⟨hlt, h1 ▸ h2⟩)
        generalize hs : outs[i] = s at *
        have HAT2 := Hd (HAT.out s rfl)
        clear HAT hs
        obtain ⟨W4, hW4⟩ : ∃ W, wr.alloc (.cells #[str s] 9) = W := ⟨_, rfl⟩
        have hA : Below wr.heap.size wr W4 := hW4 ▸ (Below.refl _ wr).alloc (Nat.le_refl _) _
        have hq0 : W4.cell? ⟨wr.heap.size, 0, none⟩ = some (str s) := by rw [← hW4, cell_of_heap (heap_alloc_here wr _)]; rfl
        have hz4 : W4.heap.size = wr.heap.size + 1 := by rw [← hW4]; simp
        have hB4 : Below W3.heap.size W3 W4 := hbi.trans (hA.mono hzi)
        have KI := Hd (idxRule_any (fun x => x.1.out == s) 150 (.pointer (some ⟨wr.heap.size, 0, none⟩)) (.slice a R.length c) R W4 (HR.out.below0 (HWW.out _ (HW.out _ hB4))).1
          ⟨fun _ _ => rfl, fun W x hW => needs1_any x wr.heap.size s W ((hW.cell (p := ⟨wr.heap.size, 0, none⟩) (by simp; omega)).trans hq0)⟩)
        have HB4 := Hd hB4
        have HA4 := Hd hA
        clear hpl hown hbi hA hB4
        rcases idxR_cases (fun x => x.1.out == s) R with ⟨k, hk, hz, hp⟩ | ⟨hz, hp⟩
        · rw [hz] at KI
          have hkn : ((k : Int) < 0) = False := eq_false (by omega)
          have HSN : Hid (PlacesAt (R.map Prod.fst) (outs.take (i + 1)) (ks ++ [k])) := Hd (by
            rw [HTK.out]
            refine HPL.out.snoc (by rw [HML.out]; exact hk) ?_
            rw [List.getElem_map]
            simpa using hp)
          clear hz hp
          go_wp2_with fail
          refine KI.out.mono ?_
          rintro e w5 ⟨rfl, hb5⟩
          have hz5 := hb5.size
          have HB5 := Hd (HB4.out.trans (hb5.mono (by omega)))
          have HO5 := Hd (ownsRow_fr (S := fun _ => False) HOW.out (Fr.of_below (HA4.out.trans (hb5.mono (by omega)))) (fun q hq => ⟨(HOW.out.lt q hq).2, id⟩))
          clear hb5 hce hq0
          go_wp2_with (first
            | (at_builtin
               refine wpList_app _ rfl _ _ 53 rfl tyInts (w2.heap.size + 1) _ _ _ rfl (HO5.out.alloc _) ⟨w5.heap.size, 0, none⟩ 1 1 [intE k] rfl rfl (news_one ?_) ?_ (by decide) ?_ ?_ ?_
               · rw [cell_of_heap (heap_alloc_here w5 _)]; rfl
               · intro u hu; simp at hu; subst hu; rfl
               · omega
               · simp; omega
               intro v6 w6 ho6 hg6 hloc6
               have HO6 : Hid (w6.ownsRow (w2.heap.size + 1) 3 1 v6 (ks ++ [k]).length ((intsB (ks ++ [k])).map (Value.int .i64))) := Hd (by simpa [intsB] using ho6)
               have HB6 : Hid (Below W3.heap.size W3 w6) := Hd ((HB5.out.alloc (by omega) _).grown hg6 (by simp; omega) (fun q hq => by have := (HO5.out.lt q hq).1; omega))
               clear ho6 hg6 hloc6))
          go_wp2
          go_roundw
          case rel => exact ⟨i + 1, ks ++ [k], by omega, by go_num, HSN.out, HO6.out, HB6.out⟩
          case measure => simp [intOf]; omega
        · rw [hz] at KI
          have HNO : Hid (s ∉ (R.map Prod.fst).map RuleL.out) := Hd (fun hm => by
            rw [List.map_map] at hm
            obtain ⟨x, hx, e⟩ := List.mem_map.1 hm
            have := hp x hx
            simp only [beq_eq_false_iff_ne] at this
            exact this e)
          clear hz hp
          go_wp2_with fail
          refine KI.out.mono ?_
          rintro e w5 ⟨rfl, hb5⟩
          have hz5 := hb5.size
          have HB5 := Hd (HWW.out _ (HW.out _ (HB4.out.trans (hb5.mono (by omega)))))
          have hce5 : w5.cell? ⟨0, 0, none⟩ = some (errI (S 5)) := HE.out.below HB5.out (Nat.le_refl _)
          clear hb5 hce hq0
          go_wp2_with fail
          go_region
          all_goals
            go_wp2
            go_ret2
            obtain ⟨hl1, hl2⟩ := HAT2.out HNO.out
            first
            | exact ⟨Or.inl ⟨HRS.out, Or.inr ⟨i, _, hl1, HMK.out, hl2, rfl, HB5.out.size, heap_alloc_here w5 _⟩⟩, HB5.out.alloc HB5.out.size _⟩
            | exact ⟨Or.inl ⟨HRS.out, Or.inr ⟨i, _, hl1, HMK.out, hl2, rfl, HB5.out.size, heap_alloc_here w5.drew _⟩⟩, HB5.out.drew.alloc HB5.out.size _⟩
      · obtain rfl : i = outs.length := by omega
        have hlc : ((outs.length : Int) < (outs.length : Int)) = False := eq_false (by omega)
        have hpl2 := HPL.out
        rw [List.take_length] at hpl2
        have HPL2 := Hd hpl2
        have HM1 : Hid (MapIs (Value.int .i64) Value.bool wr w2.heap.size (needM [])) := Hd (M0.out.of_block (hbi.block _ (by omega)))
        have HBW := Hd (HW.out _ hbi)
        have HQ1 : Hid (OwnQ wr (w2.heap.size + 1) u9 (ks.map intE)) := Hd (OwnQ.of_row (by have h := hown; rw [List.map_map] at h; exact h))
        have HKL : Hid (∀ k ∈ ks, k < R.length) := Hd (fun k hk => by have h := hpl2.1 k hk; rw [HML.out] at h; exact h)
        have HEL : Hid (∀ i, ∀ k ∈ edgesB (R.map Prod.fst) i, k < R.length) := Hd (fun i k hk => by have h := edges_lt _ i k hk; rw [HML.out] at h; exact h)
        clear hpl hown hbi hpl2
        go_wp2_with fail
        go_loopw [9] (fun tv wl => ∃ (N todo : List Nat), OwnQ wl (w2.heap.size + 1) tv (todo.map intE) ∧ MapIs (Value.int .i64) Value.bool wl w2.heap.size (needM N) ∧ Bfs (edgesB (R.map Prod.fst)) ks N todo ∧ Below w2.heap.size w2 wl ∧ w2.heap.size + 1 ≤ wl.heap.size ∧ todo.length ≤ 1000 + 1000 * N.length) (fun tv wl => bfsM R.length (mapLen wl w2.heap.size) (lenV tv))
        case atStart => exact ⟨[], ks, HQ1.out, HM1.out, Bfs.zero _ _, HBW.out, by omega, by omega⟩
        case round =>
          obtain ⟨N, todo, hq, hm, hbf, hbl, hzl, htl⟩ := hrel
          obtain ⟨at1, ct, hut, -, -⟩ := id hq.reads
          rw [List.length_map] at hut
          subst hut
          have HBF := Hd hbf
          have HBL := Hd hbl
          have HM := Hd hm
          have hNR := hbf.room HEL.out HKL.out
          cases todo with
          | cons k t =>
            have hkR : k < R.length := (hbf.left k List.mem_cons_self).lt HEL.out HKL.out
            obtain ⟨hc1, qg, qo, rfl, hqt⟩ := hq.tail2
            obtain ⟨b, o, hix, hce⟩ := hq.reads.at (P := Tryz.prog) Tryz.underlying53 (by kernel_rfl) 0 (by simp)
            simp only [List.map_cons, List.getElem_cons_zero] at hce
            have hix0 : ∀ w', (Instr.indexAt 53 (.slice (some ⟨qg, qo, none⟩) (t.length + 1) ct) (.int .i64 0)).run Tryz.prog w' = .ok (.pointer (some ⟨b, o, none⟩)) w' := hix
            have hpos : ((0 : Int) < (t.length : Int) + 1) = True := eq_true (by omega)
            have hlk := hm.lookup (P := Tryz.prog) needKey needUnd needZero (k : Int) false
            rw [needM_look] at hlk
            simp only [Bool.false_eq_true, if_false] at hlk
            rw [List.length_map] at hqt
            simp only [List.length_cons] at htl ⊢
            by_cases hkN : k ∈ N
            · rw [if_pos hkN] at hlk
              simp only [Option.map_some, Option.getD_some] at hlk
              have HSK := Hd (hbf.skip hkN)
              have HQT := Hd hqt
              clear hq hm hbf hbl hix hqt hkN
              go_wp2
              go_roundw
              case rel => exact ⟨N, t, HQT.out, HM.out, HSK.out, HBL.out, hzl, by omega⟩
              case measure => exact bfsM_skip _ _ _
            · rw [if_neg hkN] at hlk
              simp only [Option.map_none, Option.getD_none] at hlk
              obtain ⟨W, hup, hmW, hfW, hzW⟩ := need_step hm hkN
              have hbW : Below w2.heap.size w2 W := hbl.trans ((hfW.mono (B' := w2.heap.size) (S' := fun q => q = w2.heap.size) (by omega) (fun _ _ h => h)).below (fun q hq e => by omega))
              obtain ⟨-, -, be, oe, ue, hixe, hcee, hree⟩ := (HEV.out.below0 hbW).at hkR
              have HQW := Hd (hqt.fr hfW (fun q hq => by have := hqt.lt q hq; omega))
              have HSA := Hd (hbf.add hkN)
              have HRM := Hd ((hbf.add hkN).room HEL.out HKL.out)
              have HML1 := Hd (mapLen_is hm)
              have HMW := Hd hmW
              have HBW2 := Hd hbW
              have HRE := Hd hree
              have hel := edges_len (R.map Prod.fst) k
              rw [HML.out] at hel
              clear hq hm hbf hbl hix hqt hkN hmW hfW hbW hree
              go_wp2_with (first
                | (at_builtin
                   refine wpList_appQ _ rfl _ _ 53 rfl tyInts (w2.heap.size + 1) _ _ _ _ rfl HQW.out rfl HRE.out ?_ (by decide) ?_ ?_ ?_
                   · intro u hu
                     obtain ⟨q, -, rfl⟩ := List.mem_map.1 hu
                     rfl
                   · simp; omega
                   · omega
                   intro v6 w6 ho6 hg6 hloc6
                   rw [← List.map_append] at ho6
                   have HO6 := Hd ho6
                   have HM6 : Hid (MapIs (Value.int .i64) Value.bool w6 w2.heap.size (needM (N ++ [k]))) := Hd (HMW.out.of_block ((Fr.of_grown hg6).block _ HMW.out.lt (fun e => by have := (HQW.out.lt _ e).1; omega)))
                   have HB6 : Hid (Below w2.heap.size w2 w6) := Hd (HBW2.out.grown hg6 (by omega) (fun q hq => by have := (HQW.out.lt q hq).1; omega))
                   have HZ6 : Hid (w2.heap.size + 1 ≤ w6.heap.size) := Hd (by have := hg6.size; omega)
                   clear ho6 hg6 hloc6))
              go_wp2
              go_roundw
              case rel => exact ⟨N ++ [k], t ++ edgesB (R.map Prod.fst) k, HO6.out, HM6.out, HSA.out, HB6.out, HZ6.out, by simp; omega⟩
              case measure =>
                obtain ⟨a6, c6, e6, -, -⟩ := HO6.out.reads
                rw [HML1.out, mapLen_is HM6.out, e6]
                have h1 := HRM.out
                simp only [needM, List.length_map, List.length_append, List.length_singleton] at h1 ⊢
                exact bfsM_add h1 hel
          | nil =>
            have hpos : ((0 : Int) < 0) = False := eq_false (by omega)
            have HST := Hd (fun k => hbf.stop k)
            have HQB : Hid (Below wr.heap.size wr wr) := Hd (Below.refl _ _)
            clear hq hbf hbl hm
            simp only [List.length_nil]
            go_wp2_with fail
            go_loopw [14, 68] (fun ov iv wl => ∃ i : Nat, i ≤ R.length ∧ iv = .int .i64 i ∧ wl.ownsRow wr.heap.size 3 1 ov (needL i N).length ((intsB (needL i N)).map (Value.int .i64)) ∧ Below wr.heap.size wr wl) (fun _ iv _ => R.length - (intOf iv).toNat)
            case atStart => exact ⟨0, by omega, rfl, World.ownsRow_nil _ _ _ _, HQB.out⟩
            case round =>
              obtain ⟨i, hi, rfl, hown, hbi⟩ := hrel
              have HOW := Hd hown
              have HBI := Hd hbi
              have hzi := hbi.size
              have hnl := needL_len i N
              by_cases hlt : i < R.length
              · have hlc : ((i : Int) < (R.length : Int)) = True := eq_true (by omega)
                have hlk := (HM.out.of_block (hbi.block _ HM.out.lt)).lookup (P := Tryz.prog) needKey needUnd needZero (i : Int) false
                rw [needM_look] at hlk
                simp only [Bool.false_eq_true, if_false] at hlk
                have HSN : Hid (needL (i + 1) N = needL i N ++ if N.contains i then [i] else []) := Hd (needL_snoc N i)
                by_cases hiN : i ∈ N
                · rw [if_pos hiN] at hlk
                  simp only [Option.map_some, Option.getD_some] at hlk
                  rw [if_pos (List.contains_iff_mem.2 hiN)] at HSN
                  clear hown hbi hiN
                  go_wp2_with (first
                    | (at_builtin
                       refine wpList_app _ rfl _ _ 53 rfl tyInts _ _ _ _ rfl (HOW.out.alloc _) ⟨_, 0, none⟩ 1 1 [intE i] rfl rfl (news_one ?_) ?_ (by decide) ?_ ?_ ?_
                       · rw [cell_of_heap (heap_alloc_here _ _)]; rfl
                       · intro u hu; simp at hu; subst hu; rfl
                       · simp; omega
                       · simp; omega
                       intro v6 w6 ho6 hg6 hloc6
                       have HO6 := Hd ho6
                       have HB6 := Hd ((HBI.out.alloc hzi _).grown hg6 (by simp; omega) (fun q hq => (HOW.out.lt q hq).1))
                       clear ho6 hg6 hloc6))
                  go_wp2
                  go_roundw
                  case rel => exact ⟨i + 1, by omega, by go_num, by rw [HSN.out]; have h := HO6.out; simpa [intsB] using h, HB6.out⟩
                  case measure => simp [intOf]; omega
                · rw [if_neg hiN] at hlk
                  simp only [Option.map_none, Option.getD_none] at hlk
                  rw [if_neg (by rw [List.contains_iff_mem]; exact hiN), List.append_nil] at HSN
                  clear hown hbi hiN
                  go_wp2
                  go_roundw
                  case rel => exact ⟨i + 1, by omega, by go_num, by rw [HSN.out]; exact HOW.out, HBI.out⟩
                  case measure => simp [intOf]; omega
              · obtain rfl : i = R.length := by omega
                have hlc : ((R.length : Int) < (R.length : Int)) = False := eq_false (by omega)
                have HBF := Hd (HWW.out _ (HBL.out.trans (hbi.mono (by have := HBL.out.size; omega))))
                have HOF := Hd (ownsRow_base hown (show w.heap.size ≤ _ by have := HBL.out.size; omega))
                clear hown hbi
                go_wp2
                go_ret2
                refine ⟨Or.inl ⟨HRS.out, Or.inl ⟨ks, N, _, HPL2.out, HST.out, rfl, ?_⟩⟩, HBF.out⟩
                rw [HML.out]
                exact HOF.out
theorem ask_leaf {S : Nat → Addr} {R : List RV} {v : Value} {tb mb : Nat} {m : List Ent} {w0 : World} (C : WCtx S R v tb mb m w0) (ab kb : Nat) (hab : w0.heap.size ≤ ab) (hkb : w0.heap.size ≤ kb) (p : List UInt8) (hp : p ∉ (R.map Prod.fst).map RuleL.out) (W : World) (K : List (List UInt8 × Told)) (hW : Below w0.heap.size w0 W)
    (hA : AskAt S (R.map Prod.fst) (fun p => mlook p m) v ab tb kb W K) :
    Calls Tryz.prog 140 #[.pointer (some ⟨ab, 0, none⟩), str p] W (AskPost S (R.map Prod.fst) (fun p => mlook p m) v ab tb kb p W) :=
  askOf_any C ab kb hab hkb K p W hW hA (fun k hk he => absurd (List.mem_map.2 ⟨R[k].1, List.mem_map.2 ⟨R[k], List.getElem_mem hk, rfl⟩, he⟩) hp)
theorem ask_rule {S : Nat → Addr} {R : List RV} {v : Value} {tb mb : Nat} {m : List Ent} {w0 : World} (C : WCtx S R v tb mb m w0) (ab kb : Nat) (hab : w0.heap.size ≤ ab) (hkb : w0.heap.size ≤ kb) {isB : Nat → Bool} {o : List Nat} (ho : Outs (edgesB (R.map Prod.fst)) isB (R.map Prod.fst).length o) :
    ∀ (t : Nat) (ht : t < o.length) (hn : o[t] < (R.map Prod.fst).length) (W : World) (K : List (List UInt8 × Told)), Below w0.heap.size w0 W → AskAt S (R.map Prod.fst) (fun p => mlook p m) v ab tb kb W K →
    Calls Tryz.prog 140 #[.pointer (some ⟨ab, 0, none⟩), str (R.map Prod.fst)[o[t]].out] W (AskPost S (R.map Prod.fst) (fun p => mlook p m) v ab tb kb (R.map Prod.fst)[o[t]].out W) := by
  intro t
  induction t using Nat.strongRecOn with
  | ind t ih =>
    intro ht hn W K hW hA
    refine askOf_any C ab kb hab hkb K _ W hW hA (fun k hk he W' K' hW' hA' => ?_)
    have hk2 : k < (R.map Prod.fst).length := by simpa using hk
    have hke : o[t] = k := by
      have := C.right.outs hn hk2 (by rw [← he, List.getElem_map])
      exact this
    have hwr := wantV_rule (T := fun p => mlook p m) C.right ho hn (List.getElem_mem ht)
    have hin : ∀ s ∈ (R.map Prod.fst)[o[t]].ins, ∀ W' K', Below w0.heap.size w0 W' → AskAt S (R.map Prod.fst) (fun p => mlook p m) v ab tb kb W' K' → Calls Tryz.prog 140 #[.pointer (some ⟨ab, 0, none⟩), str s] W' (AskPost S (R.map Prod.fst) (fun p => mlook p m) v ab tb kb s W') := by
      intro s hs W2 K2 hW2 hA2
      rcases out_cases (R.map Prod.fst) s with ⟨j, hj, hjs⟩ | hno
      · have hje : j ∈ edgesB (R.map Prod.fst) o[t] := (mem_edges hn).2 ⟨hj, by rw [hjs]; exact hs⟩
        obtain ⟨t', ht', e⟩ := List.mem_iff_getElem.1 (ho.back t ht j hje)
        rw [List.length_take] at ht'
        rw [List.getElem_take] at e
        have := ih t' (by omega) (by omega) (by rw [e]; exact hj) W2 K2 hW2 hA2
        simp only [e] at this
        rw [hjs] at this
        exact this
      · exact ask_leaf C ab kb hab hkb s hno W2 K2 hW2 hA2
    have hR : (R.map Prod.fst)[o[t]] = R[k].1 := by
      rw [List.getElem_map]
      congr 1
      simp only [hke]
    rw [hR] at hwr hin ⊢
    exact askMade_any C ab kb hkb K' W' hW' hA' k hk _ hwr hin
theorem ask_new {S : Nat → Addr} {R : List RV} {v : Value} {tb mb : Nat} {m : List Ent} {w0 : World} (l : List RuleL) (T : Look) (_C : WCtx S R v tb mb m w0) {W : World} (hW : (w0.alloc (.map #[] 0)).alloc (.cells #[.pointer (some ⟨tb, 0, none⟩), v, .map (some w0.heap.size)] 208) = W) :
    AskAt S l T v (w0.heap.size + 1) tb w0.heap.size W [] ∧ Below w0.heap.size w0 W ∧ W.heap.size = w0.heap.size + 2 := by
  subst hW
  have m0 : MapIs str (toldV S) (w0.alloc (.map #[] 0)) w0.heap.size [] := MapIs.made w0
  have h := heap_alloc_here (w0.alloc (.map #[] 0)) (.cells #[.pointer (some ⟨tb, 0, none⟩), v, .map (some w0.heap.size)] 208)
  rw [show (w0.alloc (.map #[] 0)).heap.size = w0.heap.size + 1 by simp] at h
  refine ⟨⟨h, m0.of_block (((Below.refl _ (w0.alloc (.map #[] 0))).alloc (Nat.le_refl _) _).block _ m0.lt), fun p x hx => by simp [mlook] at hx⟩, ((Below.refl _ w0).alloc (Nat.le_refl _) _).alloc (by simp) _, by simp⟩
def WOfAns (S : Nat → Addr) (l : List RuleL) (T : Look) (out : List UInt8) (B : Nat) (e : Ending) (w' : World) : Prop :=
  (RightS l ∧ ((∃ i N, PlacesAt l [out] [i] ∧ (∀ k, k ∈ N ↔ Reach (edgesB l) [i] k) ∧
      ((∃ o, orderB (edgesB l) (fun k => (needL l.length N).contains k) l.length = some o ∧ e = .returned (.tuple #[str (wantV l T out).2, errN S (wantV l T out).1])) ∨
       (orderB (edgesB l) (fun k => (needL l.length N).contains k) l.length = none ∧ e = .returned (.tuple #[str [], errI (S 8)])))) ∨
    (out ∉ l.map RuleL.out ∧ e = .returned (.tuple #[str [], errI (S 5)])))) ∨ ∃ T x, e = .returned (.tuple #[str [], .iface T x]) ∧ SheetBad S l B (.iface T x) w'
set_option maxHeartbeats 4000000 in
theorem wof_any {S : Nat → Addr} {R : List RV} {v : Value} {tb mb : Nat} {m : List Ent} (w : World) (out : List UInt8) (hR : RulesAt w v R) (hcap : Roomy v) (hT : TAt w tb mb m) (hm : Ml w) (hE : KErr w S) (hL : LErr w S) (hN : NErr w) (ht : Tab w)
    (hb : ∀ x ∈ R, x.1.out.length ≤ 1000000 ∧ x.1.word.length ≤ 100000 ∧ (∀ s ∈ x.1.ins, s.length ≤ 1000000) ∧ x.1.ins.length ≤ 1000) (hf : ∀ p b, mlook p m = some b → b.length ≤ 2000) (hn : R.length ≤ 1000) :
    Calls Tryz.prog 75 #[.pointer (some ⟨tb, 0, none⟩), v, str out] w fun e w' => WOfAns S (R.map Prod.fst) (fun p => mlook p m) out w.heap.size e w' ∧ Below w.heap.size w w' := by
  obtain ⟨a, c, hv, -, -⟩ := id hR.1
  rw [List.length_map] at hv
  subst hv
  have KS := Hd (sheet_any R (.slice a R.length c) w S hR hcap hm hE hN ht hb (by omega))
  have HC0 : Hid (∀ wl, Right (R.map Prod.fst) → Below w.heap.size w wl → WCtx S R (.slice a R.length c) tb mb m wl) := Hd (fun wl hri hb' =>
    WCtx.below (w := w) ⟨hR, hcap, hT, hm, hE, hL, hN, ht, hri, hb, hf, hn⟩ hb')
  have hml : (R.map Prod.fst).length = R.length := List.length_map _
  have HML := Hd hml
  clear hR hcap hm hE hN ht hb hml hT hL hf
  go_enter Tryz.func75, Tryz.ntmps75
  go_wp2_with fail
  refine KS.out.mono ?_
  rintro e w1 ⟨hs, hb1⟩
  rcases sheet_split hs with ⟨hrs, rfl⟩ | ⟨T, x, rfl, hbad⟩
  case inr =>
    have HB1 := Hd hb1
    have HBAD := Hd hbad
    clear hs hb1 hbad
    go_wp2
    go_ret2
    exact ⟨Or.inr ⟨T, x, rfl, HBAD.out⟩, HB1.out⟩
  case inl =>
    have HRS := Hd hrs
    have h40 : R.length ≤ 40 := by have := hrs.1; rw [HML.out] at this; exact this
    have HC : Hid (∀ wl, Below w.heap.size w wl → WCtx S R (.slice a R.length c) tb mb m wl) := Hd (fun wl h => HC0.out wl hrs.2 h)
    have HB1 := Hd hb1
    have KN : Hid (∀ wl vo, Below w1.heap.size w1 wl → Reads wl vo [str out] → Calls Tryz.prog 83 #[.slice a R.length c, vo] wl fun e w' => NeedsAns S (R.map Prod.fst) [out] wl.heap.size e w' ∧ Below wl.heap.size wl w') := Hd (fun wl vo hbl hre => by
      have h := HC.out wl (hb1.trans (hbl.mono hb1.size))
      exact gneeds_any R (.slice a R.length c) [out] vo wl S h.rules h.roomy hre (by simp) h.ml h.err h.non h.num h.tab h.short (by omega))
    clear hs hb1 hrs KS HC0
    go_wp2_with fail
    have hA2 : Below w1.heap.size w1 (w1.alloc (.cells #[str out] 9)) := (Below.refl _ w1).alloc (Nat.le_refl _) _
    have KN2 := Hd (KN.out _ (.slice (some ⟨w1.heap.size, 0, none⟩) 1 1) hA2 (by
      refine ⟨_, 1, rfl, by simp, fun i u hi => ⟨w1.heap.size, 0, rfl, ?_⟩⟩
      match i, hi with
      | 0, hi =>
        simp at hi
        subst hi
        exact (cell_of_heap (heap_alloc_here w1 _) 0).trans rfl))
    have HA2 := Hd hA2
    clear KN hA2
    refine KN2.out.mono ?_
    rintro e w2 ⟨hna, hb2⟩
    have hb2' : Below w.heap.size w w2 := HB1.out.trans (((HA2.out).trans (hb2.mono (by simp))).mono HB1.out.size)
    have HB2 := Hd hb2'
    rcases hna with ⟨-, hok | hno⟩ | ⟨T, x, -, hbad⟩
    case inr => exact absurd HRS.out hbad.wrong
    case inl.inr =>
      obtain ⟨i, g, hi, h1, h2, rfl, -, -⟩ := hno
      have HNO : Hid (out ∉ (R.map Prod.fst).map RuleL.out) := Hd (by
        match i, hi, h2 with
        | 0, _, h2 => simpa using h2)
      have hnon : w2.cell? ⟨0, 0, none⟩ = some (errI (S 5)) := (HC.out w2 hb2').non
      clear h1 h2 hb2 hb2' KN2
      go_wp2_with fail
      go_quiet (fail)
      go_wp2
      go_ret2
      exact ⟨Or.inl ⟨HRS.out, Or.inr ⟨HNO.out, rfl⟩⟩, by first | exact HB2.out | exact HB2.out.drew | exact below_drewN HB2.out _⟩
    case inl.inl =>
      obtain ⟨ks, N, u, hpl, hN, rfl, hown⟩ := hok
      obtain ⟨i, rfl⟩ : ∃ i, ks = [i] := List.length_eq_one_iff.1 hpl.len
      have HPL := Hd hpl
      have HN := Hd hN
      have h2 := HC.out w2 hb2'
      have KP := Hd (gpart_any R (.slice a R.length c) (needL (R.map Prod.fst).length N) u w2 S h2.rules h2.right (by
        exact reads_ints hown) h2.err (fun x hx => (h2.short x hx).2.2.2) (by omega))
      clear hpl hN hown hb2 hb2' h2 KN2
      go_wp2_with fail
      refine KP.out.mono ?_
      rintro e w3 ⟨⟨o, uo, ho, rfl, how⟩ | ⟨ho, rfl⟩, hb3⟩
      · have HO := Hd ho
        have HB3 := Hd (HB2.out.trans (hb3.mono HB2.out.size))
        clear ho how hb3 KP
        have hmm := @run_makeMap Tryz.prog
        go_wp2_with fail
        have hq1 := order_mem HO.out
        have hi : i < (R.map Prod.fst).length := HPL.out.1 i (List.mem_singleton_self i)
        have hio : i ∈ o := hq1.2 i hi (by
          rw [List.contains_iff_mem]
          exact (mem_needL (fun k hk => ((HN.out k).1 hk).lt (fun a b hb => edges_lt _ a b hb) HPL.out.1)).2 ((HN.out i).2 (Reach.base (List.mem_singleton_self i))))
        obtain ⟨t, htl, hti⟩ := List.mem_iff_getElem.1 hio
        have hout : (R.map Prod.fst)[i].out = out := by
          have h := HPL.out.2
          rw [List.map_singleton, List.getD_eq_getElem?_getD, List.getElem?_eq_getElem hi, Option.getD_some] at h
          exact List.singleton_inj.1 h
        obtain ⟨W5, hW5⟩ : ∃ X, (w3.alloc (.map #[] 0)).alloc (.cells #[.pointer (some ⟨tb, 0, none⟩), .slice a R.length c, .map (some w3.heap.size)] 208) = X := ⟨_, rfl⟩
        obtain ⟨hA5, hB5, hz5⟩ := ask_new (R.map Prod.fst) (fun p => mlook p m) (HC.out w3 HB3.out) hW5
        have KA := ask_rule (HC.out w3 HB3.out) (w3.heap.size + 1) w3.heap.size (by omega) (by omega) hq1.1 t htl (by rw [hti]; exact hi) W5 [] hB5 hA5
        simp only [hti] at KA
        rw [hout] at KA
        have KA := Hd KA
        have HB5 := Hd hB5
        rw [hW5]
        clear hW5 hA5 hB5 hq1 hio htl hti hout
        refine KA.out.mono ?_
        rintro e w6 ⟨K6, rfl, -, hF6⟩
        have HB6 : Hid (Below w.heap.size w w6) := Hd (HB3.out.trans ((HB5.out.mono HB3.out.size).trans ((hF6.mono (S' := fun q => q = w3.heap.size) (by have := HB3.out.size; omega) (fun _ _ h => h)).below (fun k hk e => by have := HB3.out.size; omega))))
        clear hF6
        generalize hx : wantV (R.map Prod.fst) (fun p => mlook p m) out = x
        have HX := Hd hx
        obtain ⟨xc, xb⟩ := x
        clear hx
        simp only [toldV]
        have HER : Hid (errN S xc = errN S xc) := Hd rfl
        have HG : Hid (∀ wl, WOfAns S (R.map Prod.fst) (fun p => mlook p m) out w.heap.size (.returned (.tuple #[str xb, errN S xc])) wl) := Hd (fun wl => Or.inl ⟨HRS.out, Or.inl ⟨i, N, HPL.out, HN.out, Or.inl ⟨o, HO.out, by rw [HX.out]⟩⟩⟩)
        rcases errN_cases S xc with he | ⟨ad, he⟩
        case' inl => have ad : Addr := ⟨0, 0, none⟩
        all_goals
          rw [he] at HG ⊢
          clear he HER
          go_wp2
          have hcx := fun k => cell_of_heap (heap_alloc_here w6 (.cells #[str xb, .nilIface] 210)) k
          have hcy := fun k => cell_of_heap (heap_alloc_here w6 (.cells #[str xb, errI ad] 210)) k
          go_quiet (fail)
          go_wp2
          go_ret2
          exact ⟨HG.out _, by first | exact HB6.out.alloc HB6.out.size _ | exact (HB6.out.alloc HB6.out.size _).drew | exact below_drewN (HB6.out.alloc HB6.out.size _) _⟩
      · have HO := Hd ho
        have HB3 := Hd (HB2.out.trans (hb3.mono HB2.out.size))
        clear ho hb3 KP
        go_wp2
        go_ret2
        refine ⟨Or.inl ⟨HRS.out, Or.inl ⟨i, N, HPL.out, HN.out, Or.inr ⟨HO.out, rfl⟩⟩⟩, HB3.out⟩
theorem kErr_of_errW {w : World} {S : Nat → Addr} (h : ErrW w S) : KErr w S := ⟨h.var 1 (by decide), h.var 2 (by decide), h.var 3 (by decide), h.var 4 (by decide), h.var 6 (by decide), h.var 8 (by decide), h.var 9 (by decide)⟩
theorem lErr_of_errW {w : World} {S : Nat → Addr} (h : ErrW w S) : LErr w S := h.var 5 (by decide)
theorem actErr_le (k w : List UInt8) (n : Nat) : actErr k w n ≤ 10 := by
  unfold actErr
  split
  · omega
  · split
    · split <;> omega
    · omega
theorem errAt_le (l : List RuleL) (i : Nat) (r : RuleL) : errAt l i r ≤ 10 := by
  have h0 : ruleErr r ≤ 10 := by
    have := actErr_le r.kind r.word r.ins.length
    unfold ruleErr
    split
    · omega
    · split
      · exact this
      · split
        · omega
        · split <;> omega
  unfold errAt
  split
  · exact h0
  · split <;> omega
theorem code_at (w : World) (S : Nat → Addr) (hE : ErrW w S) (k : Nat) (hk : k < 12) : Calls Tryz.prog 86 #[errI (S k)] w fun e w' => e = .returned (.tuple #[.int .i64 ((k + 1 : Nat) : Int), .int .i64 (-1)]) ∧ Below w.heap.size w w' := by
  refine (code_leaf w S hE (S k) k (by omega) (fun i hi e => ?_) (fun _ => rfl) (hE.blk k hk)).mono ?_
  · have := hE.inj k i hk (by omega) e
    omega
  · rintro e w' ⟨rfl, hb⟩
    refine ⟨?_, hb⟩
    unfold codeOf
    rw [if_pos hk]
    rfl
end Go.Proofs.YtgjialbmlhbngaaGreatDoor
