/-
  The reference's KeyOf, of longer texts. The reference's build: Run, with no cache.
-/
import Derived.Test.YtgoeoekdlcbmpaaGreatDoorPkZ
import Derived.Deep.RegionHeld3
import Derived.Test.YtgoeoekdlcbmpaaGreatDoorRbB
import Derived.Test.YtgoeoekdlcbmpaaGreatDoorPkS
import Derived.Test.YtgoeoekdlcbmpaaGreatDoorBdC

namespace Go.Proofs.YtgoeoekdlcbmpaaGreatDoor
open Go Go.RowKit Go.Kf

theorem keep_cellK {w w' : World} {b o : Nat} {v : Value} (hb : Below w.heap.size w w') (h : w.cell? ⟨b, o, none⟩ = some v) : w'.cell? ⟨b, o, none⟩ = some v :=
  (hb.cell (p := ⟨b, o, none⟩) (lt_of_cell h)).trans h

set_option maxHeartbeats 1000000 in
set_option maxRecDepth 100000 in
theorem refKey4_any (kd wd : List UInt8) (v : Value) (l : List (List UInt8)) (w : World) (hr : Reads w v (l.map str))
    (hk : kd.length ≤ 1000) (hw : wd.length ≤ 1000) (hl : ∀ s ∈ l, s.length ≤ 4000) (hn : l.length ≤ 1000) :
    Calls Tryz.prog 79 #[str kd, str wd, v] w fun e w' => e = .returned (str (keyL kd wd l)) ∧ Below w.heap.size w w' := by
  obtain ⟨a, cap, rfl, -, -⟩ := id hr
  simp only [List.length_map] at *
  have HR := Lib.hid hr
  have HL := Lib.hid hl
  have hck := digits_short hk
  have hcw := digits_short hw
  clear hr hl
  go_enter Tryz.func79, Tryz.ntmps79
  go_wp2_with fail
  refine (decimal_any kd.length _ (by omega)).mono ?_
  rintro e w1 ⟨rfl, b1⟩
  go_wp2_with fail
  refine (decimal_any wd.length _ (by omega)).mono ?_
  rintro e w2 ⟨rfl, hb2⟩
  have b2 := b1.trans (hb2.mono b1.size)
  clear hb2 b1
  go_wp2_with fail
  go_loopw [7, 8] (fun t i wl => ∃ j : Nat, j ≤ l.length ∧ i = .int .i64 j ∧ t = str (keyL kd wd (l.take j)) ∧ Below w.heap.size w wl) (fun _ i _ => l.length - (intOf i).toNat)
  case atStart => exact ⟨0, by omega, rfl, by simp [str_app, keyL, cnt], b2⟩
  case round =>
    obtain ⟨j, hj, rfl, rfl, hbj⟩ := hrel
    have hsj : (keyL kd wd (l.take j)).length ≤ 5000000 := keyL_short4 hk hw (fun s hs => HL.out s (List.mem_of_mem_take hs)) (by simp; omega)
    by_cases hlt : j < l.length
    · obtain ⟨b, o, hix, hce⟩ := (HR.out.below0 hbj).at (P := Tryz.prog) Tryz.underlying32 (by kernel_rfl) j (by simpa using hlt)
      simp only [List.getElem_map] at hce
      have hcj := digits_short4 (HL.out l[j] (List.getElem_mem hlt))
      have hsl := HL.out l[j] (List.getElem_mem hlt)
      have HE := Lib.hid (show keyL kd wd (l.take (j + 1)) = keyL kd wd (l.take j) ++ cnt l[j] by rw [List.take_succ_eq_append_getElem hlt, keyL_snoc])
      generalize keyL kd wd (l.take j) = key at *
      generalize l[j] = s at *
      have hz1 : ¬ 9223372036854775807 < key.length + (Lib.decDigits s.length).length := by omega
      have hz2 : ¬ 9223372036854775807 < key.length + (Lib.decDigits s.length).length + 1 := by omega
      have hz3 : ¬ 9223372036854775807 < key.length + (Lib.decDigits s.length).length + 1 + s.length := by omega
      go_wp2_with fail
      go_region_held3 (fun w' => w'.cell? ⟨b, o, none⟩ = some (str s) ∧ Below w.heap.size w w')
        (first | exact ⟨keep_cellK hb3 hce, (Below.drew hbj).trans (hb3.mono hbj.size)⟩ | exact ⟨hce, Below.drew hbj⟩)
        (first | (go_at_call 120; refine (decimal_any s.length _ (by omega)).mono ?_; rintro e w3 ⟨rfl, hb3⟩))
      rename_i hheld
      have HW := Lib.hid hheld.2
      clear hheld hb3 hbj
      go_wp2
      go_roundw
      case rel => exact ⟨j + 1, by omega, by go_num, by rw [HE.out]; simp [str_app, cnt], HW.out⟩
      case measure => simp [intOf]; omega
    · obtain rfl : j = l.length := by omega
      rw [List.take_length]
      go_wp2
      go_ret
      exact ⟨rfl, hbj⟩

end Go.Proofs.YtgoeoekdlcbmpaaGreatDoor

namespace Go.Proofs.YtgoeoekdlcbmpaaGreatDoor
open Go Go.RowKit Go.Kf Go.Sort Go.Proofs

/-- The blocks that a reference's build turns. -/
def RBx.foot (X : RBx) (q : Nat) : Prop := q = X.s ∨ q = X.o ∨ q = X.h ∨ q = X.y
/-- What a reference's build leans on. -/
structure REnv (R : List RV) (v : Value) (m L : List Ent) (w : World) : Prop where
  rules : ReadsK 4 w v (R.map rvRow)
  ins : ∀ x ∈ R, Reads w x.2 (x.1.ins.map str)
  tw : Tw m L
  short : ∀ r ∈ R.map Prod.fst, r.out.length ≤ 1000000 ∧ r.kind.length ≤ 1000 ∧ r.word.length ≤ 1000 ∧ (∀ s ∈ r.ins, s.length ≤ 1000000) ∧ r.ins.length ≤ 1000
  many : R.length ≤ 1000
theorem REnv.below {R : List RV} {v : Value} {m L : List Ent} {w w' : World} (h : REnv R v m L w) (hb : Below w.heap.size w w') : REnv R v m L w' :=
  ⟨readsK_below0 h.rules (fun r hr => by obtain ⟨x, -, rfl⟩ := List.mem_map.1 hr; simp [rvRow]) hb, fun x hx => (h.ins x hx).below0 hb, h.tw, h.short, h.many⟩
/-- What Run answers, and makes of a reference's build. -/
inductive RRunPost (X : RBx) (n : Nat) (v lv : Value) (l : List RuleL) (T : Look) (L : List Ent) (P : List Nat) (base : Nat) (w : World) (st : Nat → St) (i : Int) : Ending → World → Prop
  | mk {hit : Bool} {code : Nat} {st' : Nat → St} {w' : World} : RunRel l P T none st i hit code none st' → RBAt X n v lv L P (.pointer none) base w' st' → Fr w.heap.size X.foot w w' →
      RRunPost X n v lv l T L P base w st i (.returned (.tuple #[.bool hit, .int .i64 ((code : Nat) : Int)])) w'
theorem not_place {P : List Nat} {i : Int} (h : i < 0) : ∀ (k : Nat), k ∈ P → i ≠ (k : Int) := fun k _ e => by omega

set_option maxRecDepth 100000 in
set_option maxHeartbeats 4000000 in
theorem rrunN_any (X : RBx) (R : List RV) (v lv : Value) (m L : List Ent) (P : List Nat) (base : Nat) (w w0 : World) (st : Nat → St) (h : RBAt X R.length v lv L P (.pointer none) base w st) (hP : PartOk (R.map Prod.fst) P) (hi0 : BInv (R.map Prod.fst) P (fun p => mlook p m) st)
    (hV : REnv R v m L w0) (hw0 : Below w0.heap.size w0 w) (hbase : w0.heap.size ≤ base) (i : Int) :
    Calls Tryz.prog 43 #[ptrV X.b, .int .i64 i] w (RRunPost X R.length v lv (R.map Prod.fst) (fun p => mlook p m) L P base w st i) := by
  obtain ⟨a, c, hv, -, -⟩ := id hV.rules
  rw [List.length_map] at hv
  subst hv
  have hn := hV.many
  have hc1 : w.cell? ⟨X.b, 1, none⟩ = some (.slice a R.length c) := h.box.cell rfl
  have hc2 : w.cell? ⟨X.b, 2, none⟩ = some (slN X.s R.length) := h.box.cell rfl
  have HLM : Hid ((R.map Prod.fst).length = R.length) := Lib.hid (List.length_map _)
  by_cases hneg : i < 0
  · have e1 : (i < 0) = True := eq_true hneg
    have HN := Lib.hid (not_place (P := P) hneg)
    have H := Lib.hid h
    clear h hP hi0 hV hw0
    go_enter Tryz.func43, Tryz.ntmps43
    go_wp2
    go_ret2
    exact RRunPost.mk (hit := false) (code := 6) (.none HN.out) (H.out) (Fr.refl _ _ _)
  by_cases hge : (R.length : Int) ≤ i
  · have e1 : (i < 0) = False := eq_false hneg
    have e2 : ((R.length : Int) ≤ i) = True := eq_true hge
    have HN : Hid (∀ (k : Nat), k ∈ P → i ≠ (k : Int)) := Lib.hid (fun k hk e => by have := hP.lt k hk; rw [HLM.out] at this; omega)
    have H := Lib.hid h
    clear h hP hi0 hV hw0
    go_enter Tryz.func43, Tryz.ntmps43
    go_wp2
    go_ret2
    exact RRunPost.mk (hit := false) (code := 6) (.none HN.out) (H.out) (Fr.refl _ _ _)
  obtain ⟨k, rfl⟩ : ∃ k : Nat, i = (k : Int) := ⟨i.toNat, by omega⟩
  have hk : k < R.length := by omega
  have e1 : ((k : Int) < 0) = False := eq_false hneg
  have e2 : ((R.length : Int) ≤ (k : Int)) = False := eq_false hge
  have hix := idx_at (P := Tryz.prog) (T := 32) (E := 9) Tryz.underlying32 (by kernel_rfl) X.s R.length R.length k hk
  have hcs : w.cell? ⟨X.s, k, none⟩ = some (str (rSt P st k)) := h.state.cell (k := k) (by rw [List.getElem?_map, List.getElem?_range hk]; rfl)
  have hcs0 := hcs
  by_cases hkP : k ∈ P
  rotate_left
  · have hst : rSt P st k = [] := by simp [rSt, hkP]
    rw [hst] at hcs
    have HN : Hid (∀ (j : Nat), j ∈ P → (k : Int) ≠ (j : Int)) := Lib.hid (fun j hj e => by
      obtain rfl : k = j := by omega
      exact hkP hj)
    have H := Lib.hid h
    clear h hP hi0 hV hw0 hneg hge hst hcs0
    go_enter Tryz.func43, Tryz.ntmps43
    go_wp2
    go_ret2
    exact RRunPost.mk (hit := false) (code := 6) (.none HN.out) (H.out) (Fr.refl _ _ _)
  by_cases hs1 : (st k).state = 1
  rotate_left
  · have HN : Hid (RunRel (R.map Prod.fst) P (fun p => mlook p m) none st k false 12 none st) := Lib.hid (.done hkP hs1)
    have H := Lib.hid h
    have hone := hi0.one k hkP
    have hst : rSt P st k = stName (st k).state := by simp [rSt, hkP]
    rw [hst] at hcs
    generalize (st k).state = q at *
    clear h hP hi0 hV hw0 hneg hge hst hcs0
    obtain rfl | rfl | rfl : q = 2 ∨ q = 3 ∨ q = 4 := by omega
    all_goals
      simp only [stName] at hcs
      go_enter Tryz.func43, Tryz.ntmps43
      go_wp2
      go_ret2
      exact RRunPost.mk (hit := false) (code := 12) (HN.out) (H.out) (Fr.refl _ _ _)
  have hst : rSt P st k = [119, 97, 105, 116, 115] := by simp [rSt, hkP, hs1, stName]
  rw [hst] at hcs
  have hVw := hV.below hw0
  have KI := Lib.hid (risReady_any X R (.slice a R.length c) lv L P (.pointer none) base w st h ⟨fun k hk => hP.lt k hk, hP.shut, hi0.one⟩ hVw.rules hVw.ins hn k hk)
  have hrd : rdyB (R.map Prod.fst) P st k = readyB (R.map Prod.fst) st k := by simp [rdyB, hkP]
  rw [hrd] at KI
  cases hrb : readyB (R.map Prod.fst) st k with
  | false =>
    rw [hrb] at KI
    have HN : Hid (RunRel (R.map Prod.fst) P (fun p => mlook p m) none st k false 11 none st) := Lib.hid (.turn hkP hs1 (fun hr => by rw [readyB_iff.2 hr] at hrb; cases hrb))
    have H := Lib.hid h
    clear h hP hi0 hV hw0 hneg hge hst hcs0 hrd hrb hVw hs1 hkP
    go_enter Tryz.func43, Tryz.ntmps43
    go_wp2_with fail
    refine KI.out.mono ?_
    rintro e w1 ⟨rfl, hb1⟩
    have HB1 := Lib.hid hb1
    clear hb1
    go_wp2
    go_ret2
    exact RRunPost.mk (hit := false) (code := 11) (HN.out) (H.out.below HB1.out) (Fr.of_below HB1.out)
  | true =>
    rw [hrb] at KI
    have hrdy : ReadyP (R.map Prod.fst) st k := readyB_iff.1 hrb
    have hml : (R.map Prod.fst).length = R.length := List.length_map _
    have hkl : k < (R.map Prod.fst).length := by rw [hml]; exact hk
    have HIN : Hid (∀ s, s ∈ R[k].1.ins → ∀ q (hq : q < R.length), R[q].1.out = s → inP (R.map Prod.fst) P (fun p => mlook p m) st s = some (st q).out) := Lib.hid (fun s hs q hq he => by
      have hqe : q ∈ edgesB (R.map Prod.fst) k := (mem_edges hkl).2 ⟨by rw [hml]; exact hq, by simp only [List.getElem_map]; rw [he]; exact hs⟩
      have h1 := inP_made (T := fun p => mlook p m) (st := st) hP (hP.shut k hkP q hqe)
      rw [getD_at (show q < (R.map Prod.fst).length by rw [hml]; exact hq), List.getElem_map, he] at h1
      exact h1)
    have HFL : Hid (∀ s, (∀ q (hq : q < R.length), R[q].1.out ≠ s) → inP (R.map Prod.fst) P (fun p => mlook p m) st s = mlook s m) := Lib.hid (fun s hs => inP_file (fun q hq e => by
      have hql := hP.lt q hq
      rw [getD_at hql, List.getElem_map] at e
      exact hs q (by rw [hml] at hql; exact hql) e))
    have HUN : Hid (∀ q j (hq : q < R.length) (hj : j < R.length), R[q].1.out = R[j].1.out → q = j) := Lib.hid (fun q j hq hj e => hP.right.2.outs (by rw [hml]; exact hq) (by rw [hml]; exact hj) (by simpa using e))
    have HRW : Hid ((R.map Prod.fst).getD k noR = R[k].1) := Lib.hid (by rw [getD_at hkl, List.getElem_map])
    have hsh := hV.short R[k].1 (List.mem_map.2 ⟨R[k], List.getElem_mem hk, rfl⟩)
    obtain ⟨b, o, hixr, -, hce⟩ := hVw.rules.at (P := Tryz.prog) Tryz.underlying23 (by kernel_rfl) k (by simpa using hk)
    simp only [List.getElem_map] at hce
    have hr0 := hce 0 _ rfl
    have hr1 := hce 1 _ rfl
    have hr2 := hce 2 _ rfl
    have hr3 := hce 3 _ rfl
    simp only [Nat.add_zero] at hr0
    have HOU : Hid (∀ j (hj : j < R.length) wl, Below w.heap.size w wl → ∃ b o, (∀ w', (Instr.indexAt 23 (.slice a R.length c) (.int .i64 (j : Int))).run Tryz.prog w' = .ok (.pointer (some ⟨b, o, none⟩)) w') ∧ wl.cell? ⟨b, o, none⟩ = some (str R[j].1.out)) := Lib.hid (fun j hj wl hb => by
      obtain ⟨b, o, h1, -, h2⟩ := (hVw.below hb).rules.at (P := Tryz.prog) Tryz.underlying23 (by kernel_rfl) j (by simpa using hj)
      simp only [List.getElem_map] at h2
      have h3 := h2 0 _ rfl
      simp only [Nat.add_zero] at h3
      exact ⟨b, o, h1, h3⟩)
    have HRI := Lib.hid (fun wl (hb : Below w.heap.size w wl) => (hVw.below hb).ins R[k] (List.getElem_mem hk))
    have HH := Lib.hid (fun wl (hb : Below w.heap.size w wl) => h.below hb)
    have HREL := Lib.hid (fun (c' : Bool) (st' : Nat → St) (hg : GoRel (R.map Prod.fst) P (fun p => mlook p m) none st k c' none st') => (RunRel.go hkP hrdy hg))
    have HSHO := Lib.hid (fun (ins : List (List UInt8)) (hins : ((R.map Prod.fst).getD k noR).ins.map (inP (R.map Prod.fst) P (fun p => mlook p m) st) = ins.map some) => ins_short hP hi0 (fun p b hb => by
      have := hV.tw.perm
      exact (hV.tw.path (p, b) (this.mem_iff.1 (mlook_mem hb))).2.2) hkP hrdy.2 hins)
    have KFAIL : Hid (∀ wl, Below w.heap.size w wl → ∀ e, Calls Tryz.prog 78 #[ptrV X.b, intE k, intE e] wl fun r w' => r = .returned (.tuple #[]) ∧ ∃ st', FailPost (R.map Prod.fst) P st st' k e ∧ RBAt X R.length (.slice a R.length c) lv L P (.pointer none) base w' st' ∧ Fr wl.heap.size (fun q => q = X.s ∨ q = X.y) wl w') := Lib.hid (fun wl hb e => rfail_any X R _ lv L P _ base wl st (h.below hb) hP hi0.one (hVw.below hb).rules (hVw.below hb).ins (fun w' hf => by
      have hb2 := hw0.trans (hb.mono hw0.size)
      have := (hf.mono (S' := fun q => q = X.s ∨ q = X.y) (hb2.size) (fun _ _ h => h)).below (fun q hq hs => by
        have := h.base
        omega)
      exact ⟨(hV.below (hb2.trans this)).rules, (hV.below (hb2.trans this)).ins⟩) hn k e hkP)
    have KFIND := Lib.hid (fun wl (hb : Below w.heap.size w wl) (p : List UInt8) => rfind_any base X.t lv L p wl (h.below hb).tree)
    have HTW := Lib.hid hV.tw
    have HWT : Hid ((st k).hit = false ∧ (st k).why = 0) := Lib.hid (by have := hi0.wait k hkP hs1; exact ⟨this.2.1, this.2.2.2⟩)
    have HKP := Lib.hid hkP
    have HK := Lib.hid hk
    clear hce hrdy hP hi0 hV hw0 hVw hkP hs1 hst hcs0 hneg hge hml hrb hrd hkl
    generalize R[k] = x at *
    obtain ⟨⟨x0, x1, x2, ins⟩, x3⟩ := x
    simp only at hr0 hr1 hr2 hr3 HIN HRI hsh HRW
    obtain ⟨ai, ci, hai, hil, -⟩ := id (HRI.out w (Below.refl _ _))
    rw [List.length_map] at hai hil
    subst hai
    have HSH := Lib.hid hsh
    have hi1000 : ins.length ≤ 1000 := hsh.2.2.2.2
    clear h hsh
    go_enter Tryz.func43, Tryz.ntmps43
    go_wp2_with fail
    refine KI.out.mono ?_
    rintro e w1 ⟨rfl, hb1⟩
    have hc1 : w1.cell? ⟨X.b, 1, none⟩ = some (.slice a R.length c) := (HH.out _ hb1).box.cell rfl
    have hq0 := (hb1.cell (lt_of_cell hr0)).trans hr0
    have hq1 := (hb1.cell (lt_of_cell hr1)).trans hr1
    have hq2 := (hb1.cell (lt_of_cell hr2)).trans hr2
    have hq3 := (hb1.cell (lt_of_cell hr3)).trans hr3
    have HB1 := Lib.hid hb1
    obtain ⟨rb, hrb⟩ : ∃ x, x = w1.heap.size := ⟨_, rfl⟩
    obtain ⟨W1, hW1⟩ : ∃ W, w1.alloc (.cells #[str x0, str x1, str x2, .slice ai ins.length ci] 34) = W := ⟨_, rfl⟩
    have hA1 : Below w.heap.size w W1 := hW1 ▸ hb1.alloc hb1.size _
    have hV1 : VRow 34 W1 rb [str x0, str x1, str x2, .slice ai ins.length ci] := hrb ▸ hW1 ▸ heap_alloc_here w1 _
    have HA1 := Lib.hid hA1
    have HV1 := Lib.hid hV1
    have HW1 := Lib.hid hW1
    clear hb1 hA1 hV1 hW1
    go_wp2_with fail
    rw [← hrb]
    clear hrb hc1 hc2 hcs hr0 hr1 hr2 hr3 hq0 hq1 hq2 hq3 hixr hix
    have HZ1 : Hid (w.heap.size ≤ W1.heap.size) := Lib.hid HA1.out.size
    have HWB : Hid (∀ wl, Below W1.heap.size W1 wl → Below w.heap.size w wl) := Lib.hid (fun wl hb => HA1.out.trans (hb.mono HZ1.out))
    have HCX : Hid (∀ wl, Below W1.heap.size W1 wl → wl.cell? ⟨rb, 0, none⟩ = some (str x0) ∧ wl.cell? ⟨rb, 1, none⟩ = some (str x1) ∧ wl.cell? ⟨rb, 2, none⟩ = some (str x2) ∧ wl.cell? ⟨rb, 3, none⟩ = some (.slice ai ins.length ci) ∧ wl.cell? ⟨X.b, 0, none⟩ = some (ptrV X.t) ∧ wl.cell? ⟨X.b, 1, none⟩ = some (.slice a R.length c) ∧ wl.cell? ⟨X.b, 3, none⟩ = some (slN X.o R.length)) :=
      Lib.hid (fun wl hb => ⟨(HV1.out.below0 hb).cell rfl, (HV1.out.below0 hb).cell rfl, (HV1.out.below0 hb).cell rfl, (HV1.out.below0 hb).cell rfl, (HH.out _ (HWB.out _ hb)).box.cell rfl, (HH.out _ (HWB.out _ hb)).box.cell rfl, (HH.out _ (HWB.out _ hb)).box.cell rfl⟩)
    rw [HW1.out]
    go_loopw [8, 9] (fun ov kv wl => ∃ (j : Nat) (vs : List (List UInt8)), j ≤ ins.length ∧ kv = .int .i64 j ∧ (ins.take j).map (inP (R.map Prod.fst) P (fun p => mlook p m) st) = vs.map some ∧ wl.ownsRow W1.heap.size 9 1 ov vs.length (vs.map str) ∧ Below W1.heap.size W1 wl) (fun _ kv _ => ins.length - (intOf kv).toNat)
    case atStart => exact ⟨0, [], by omega, rfl, rfl, World.ownsRow_nil _ _ _ _, Below.refl _ _⟩
    case round =>
      obtain ⟨j, vs, hj, rfl, hvs, hown, hbj⟩ := hrel
      have HVS := Lib.hid hvs
      have HOW := Lib.hid hown
      have HBJ := Lib.hid hbj
      have hvl : vs.length ≤ j := by
        have := congrArg List.length hvs
        simp only [List.length_map, List.length_take] at this
        omega
      obtain ⟨k0, k1, k2, k3, k4, k5, k6⟩ := HCX.out _ hbj
      by_cases hlt : j < ins.length
      · have hlc : ((j : Int) < (ins.length : Int)) = True := eq_true (by omega)
        have HSI : Hid (∀ wl, Below W1.heap.size W1 wl → ∃ b o, (∀ w', (Instr.indexAt 32 (.slice ai ins.length ci) (.int .i64 (j : Int))).run Tryz.prog w' = .ok (.pointer (some ⟨b, o, none⟩)) w') ∧ wl.cell? ⟨b, o, none⟩ = some (str ins[j])) := Lib.hid (fun wl hb => by
          obtain ⟨b, o, h1, h2⟩ := (HRI.out _ (HWB.out _ hb)).at (P := Tryz.prog) Tryz.underlying32 (by kernel_rfl) j (by simpa using hlt)
          simp only [List.getElem_map] at h2
          exact ⟨b, o, h1, h2⟩)
        have HTK : Hid (ins.take (j + 1) = ins.take j ++ [ins[j]]) := Lib.hid (by rw [List.take_succ_eq_append_getElem hlt])
        have HIS : Hid (∀ q (hq : q < R.length), R[q].1.out = ins[j] → inP (R.map Prod.fst) P (fun p => mlook p m) st ins[j] = some (st q).out) := Lib.hid (HIN.out _ (List.getElem_mem hlt))
        have HMI : Hid (ins[j] ∈ ins) := Lib.hid (List.getElem_mem hlt)
        generalize ins[j] = s at *
        clear hvs hown hbj
        go_wp2_with fail
        go_loopw [8, 10, 11] (fun ov fv qv wl => ∃ (q : Nat) (f : Bool) (vs' : List (List UInt8)), q ≤ R.length ∧ qv = .int .i64 q ∧ fv = .bool f ∧ ((f = false ∧ vs' = vs ∧ ∀ z (hz : z < R.length), z < q → R[z].1.out ≠ s) ∨ (f = true ∧ ∃ z, ∃ hz : z < R.length, z < q ∧ R[z].1.out = s ∧ vs' = vs ++ [(st z).out])) ∧ wl.ownsRow W1.heap.size 9 1 ov vs'.length (vs'.map str) ∧ Below W1.heap.size W1 wl) (fun _ _ qv _ => R.length - (intOf qv).toNat)
        case atStart => exact ⟨0, false, vs, by omega, rfl, rfl, Or.inl ⟨rfl, rfl, fun z _ hz => absurd hz (Nat.not_lt_zero z)⟩, HOW.out, HBJ.out⟩
        case round =>
          obtain ⟨q, f, vs', hq, rfl, rfl, hfs, hown, hbq⟩ := hrel
          have HFS := Lib.hid hfs
          have HOW2 := Lib.hid hown
          have HBQ := Lib.hid hbq
          have hzq := hbq.size
          have hvl2 : vs'.length ≤ j + 1 := by
            rcases hfs with ⟨-, rfl, -⟩ | ⟨-, z, hz, -, -, rfl⟩
            · omega
            · simp; omega
          obtain ⟨k0, k1, k2, k3, k4, k5, k6⟩ := HCX.out _ hbq
          by_cases hlq : q < R.length
          · have hlcq : ((q : Int) < (R.length : Int)) = True := eq_true (by omega)
            obtain ⟨b4, o4, hix4, hc4⟩ := HOU.out q hlq _ (HWB.out _ hbq)
            obtain ⟨b5, o5, hix5, hc5⟩ := HSI.out _ hbq
            have hixo := idx_at (P := Tryz.prog) (T := 32) (E := 9) Tryz.underlying32 (by kernel_rfl) X.o R.length R.length q hlq
            have hco : wr.cell? ⟨X.o, q, none⟩ = some (str (st q).out) := (HH.out _ (HWB.out _ hbq)).out.cell (k := q) (by rw [List.getElem?_map, List.getElem?_range hlq]; rfl)
            have HNO : Hid ((R[q].1.out == s) = false → ((f = false ∧ vs' = vs ∧ ∀ z (hz : z < R.length), z < q + 1 → R[z].1.out ≠ s) ∨ (f = true ∧ ∃ z, ∃ hz : z < R.length, z < q + 1 ∧ R[z].1.out = s ∧ vs' = vs ++ [(st z).out]))) := Lib.hid (fun he => by
              rcases HFS.out with ⟨h1, h2, h3⟩ | ⟨h1, z, hz, h2, h3, h4⟩
              · refine Or.inl ⟨h1, h2, fun z hz hzq => ?_⟩
                by_cases hzq2 : z = q
                · subst hzq2; simpa using he
                · exact h3 z hz (by omega)
              · exact Or.inr ⟨h1, z, hz, by omega, h3, h4⟩)
            have HYE : Hid ((R[q].1.out == s) = true → vs' = vs ∧ ∃ z, ∃ hz : z < R.length, z < q + 1 ∧ R[z].1.out = s ∧ vs ++ [(st q).out] = vs ++ [(st z).out]) := Lib.hid (fun he => by
              have he2 : R[q].1.out = s := by simpa using he
              rcases HFS.out with ⟨h1, h2, h3⟩ | ⟨h1, z, hz, h2, h3, h4⟩
              · exact ⟨h2, q, hlq, by omega, he2, rfl⟩
              · have := HUN.out z q hz hlq (h3.trans he2.symm)
                omega)
            clear hfs hown hbq
            cases hb : R[q].1.out == s with
            | false =>
              have HN2 := Lib.hid (HNO.out hb)
              have hbf := beqF hb
              generalize R[q].1.out = y at *
              clear HNO HYE
              go_wp2_with fail
              go_quiet (fail)
              go_wp2
              go_roundw
              case rel => exact ⟨q + 1, f, vs', by omega, by go_num, rfl, HN2.out, row_below HOW2.out (below_drewN (Below.refl _ _) _), below_drewN HBQ.out _⟩
              case measure => simp [intOf]; omega
            | true =>
              obtain ⟨hve, hy⟩ := HYE.out hb
              have HY := Lib.hid hy
              subst hve
              have hbf := beqT hb
              generalize R[q].1.out = y at *
              clear HNO HYE hy
              have hcoN : ∀ nq, (wr.drewN nq).cell? ⟨X.o, q, none⟩ = some (str (st q).out) := fun nq => hco
              generalize (st q).out = oq at *
              go_wp2_with fail
              go_quiet (fail)
              have HOQ := Lib.hid (row_below HOW2.out (below_drewN (w := wr) (Below.refl _ _) nq))
              have HBQ2 := Lib.hid (below_drewN HBQ.out nq)
              have hzq2 := HBQ2.out.size
              go_wp2_with (first
                | (at_builtin
                   refine wpList_app _ rfl _ _ 32 rfl tyStrsR W1.heap.size _ _ _ rfl (HOQ.out.alloc _) ⟨(wr.drewN nq).heap.size, 0, none⟩ 1 1 [str oq] rfl rfl (news_one ?_) ?_ (by decide) ?_ ?_ ?_
                   · rw [cell_of_heap (heap_alloc_here _ _)]; rfl
                   · intro u hu; simp at hu; subst hu; rfl
                   · omega
                   · simp; omega
                   intro v6 w6 ho6 hg6 hloc6
                   have HO6 : Hid (w6.ownsRow W1.heap.size 9 1 v6 (vs' ++ [oq]).length ((vs' ++ [oq]).map str)) := Lib.hid (by
                     rw [List.length_append, List.map_append, List.map_cons, List.map_nil]
                     exact ho6)
                   have HB6 : Hid (Below W1.heap.size W1 w6) := Lib.hid ((HBQ2.out.alloc hzq2 _).grown hg6 (by simp; omega) (fun q hq => (HOQ.out.lt q hq).1))
                   clear ho6 hg6 hloc6))
              go_wp2
              go_roundw
              case rel => exact ⟨q + 1, true, _, by omega, by go_num, rfl, Or.inr ⟨rfl, HY.out⟩, HO6.out, HB6.out⟩
              case measure => simp [intOf]; omega
          · obtain rfl : q = R.length := by omega
            have hlcq : ((R.length : Int) < (R.length : Int)) = False := eq_false (by omega)
            clear hfs hown hbq
            cases f with
            | true =>
              have HNX : Hid ((ins.take (j + 1)).map (inP (R.map Prod.fst) P (fun p => mlook p m) st) = vs'.map some) := Lib.hid (by
                rcases HFS.out with ⟨h1, -⟩ | ⟨-, z, hz, -, h3, h4⟩
                · cases h1
                · rw [HTK.out, List.map_append, HVS.out, h4, List.map_append, List.map_cons, List.map_nil, HIS.out z hz h3]
                  rfl)
              go_wp2
              go_roundw
              case rel => exact ⟨j + 1, vs', by omega, by go_num, HNX.out, HOW2.out, HBQ.out⟩
              case measure => simp [intOf]; omega
            | false =>
              have HSA : Hid (vs' = vs ∧ inP (R.map Prod.fst) P (fun p => mlook p m) st s = mlook s m) := Lib.hid (by
                rcases HFS.out with ⟨-, h2, h3⟩ | ⟨h1, -⟩
                · exact ⟨h2, HFL.out s (fun z hz => h3 z hz hz)⟩
                · cases h1)
              have hve := HSA.out.1
              subst hve
              obtain ⟨b5, o5, hix5, hc5⟩ := HSI.out _ HBQ.out
              cases hl : mlook s m with
              | none =>
                have HGO : Hid (∀ st', FailPost (R.map Prod.fst) P st st' k 6 → RunRel (R.map Prod.fst) P (fun p => mlook p m) none st k false 0 none st') := Lib.hid (fun st' hf => HREL.out _ _ (.gone ⟨s, by rw [HRW.out]; exact HMI.out, HSA.out.2.trans hl⟩ hf))
                have KF : Hid (∀ wl, Below W1.heap.size W1 wl → Calls Tryz.prog 77 #[.pointer (some ⟨X.t, 0, none⟩), str s] wl fun e w' => e = .returned (.int .i64 (-1)) ∧ wl = w') := Lib.hid (fun wl hb => by
                  have := KFIND.out wl (HWB.out _ hb) s
                  rw [HTW.out.lost hl] at this
                  exact this)
                have HSQ : Hid (∀ wl, Below wr.heap.size wr wl → wl.cell? ⟨X.b, 0, none⟩ = some (ptrV X.t) ∧ wl.cell? ⟨rb, 3, none⟩ = some (.slice ai ins.length ci) ∧ wl.cell? ⟨b5, o5, none⟩ = some (str s)) := Lib.hid (fun wl hb => ⟨(hb.cell (lt_of_cell k4)).trans k4, (hb.cell (lt_of_cell k3)).trans k3, (hb.cell (lt_of_cell hc5)).trans hc5⟩)
                clear hl
                go_wp2_with fail
                go_region_held3 (fun w' => w'.cell? ⟨X.b, 0, none⟩ = some (ptrV X.t) ∧ w'.cell? ⟨rb, 3, none⟩ = some (.slice ai ins.length ci) ∧ w'.cell? ⟨b5, o5, none⟩ = some (str s))
                  (first | exact HSQ.out _ (Below.refl _ _) | exact HSQ.out _ (Below.refl _ _).drew)
                  (first
                    | (go_at_call 77
                       refine (KF.out _ ?_).mono ?_
                       · first | exact HBQ.out | exact HBQ.out.drew
                       rintro e w9 ⟨rfl, rfl⟩))
                all_goals
                  go_wp2_with fail
                  refine (KFAIL.out _ (HWB.out _ HBQ.out.drew) 6).mono ?_
                  rintro e w9 ⟨rfl, st', hfp, hrb9, hfr9⟩
                  have HGO9 := Lib.hid (HGO.out st' hfp)
                  have HRB9 := Lib.hid hrb9
                  have HFR9 : Hid (Fr w.heap.size X.foot w w9) := Lib.hid ((Fr.of_below (HWB.out _ HBQ.out.drew)).trans (hfr9.mono (HWB.out _ HBQ.out.drew).size (fun _ _ h => h.elim Or.inl (fun h => Or.inr (Or.inr (Or.inr h))))))
                  clear hfp hrb9 hfr9
                  go_wp2
                  go_ret2
                  exact RRunPost.mk (hit := false) (code := 0) HGO9.out HRB9.out HFR9.out
              | some bt =>
                obtain ⟨fx, hf, hfl, hfb⟩ := HTW.out.found hl
                have KF : Hid (∀ wl, Below W1.heap.size W1 wl → Calls Tryz.prog 77 #[.pointer (some ⟨X.t, 0, none⟩), str s] wl fun e w' => e = .returned (.int .i64 ((fx : Nat) : Int)) ∧ wl = w') := Lib.hid (fun wl hb => by
                  have := KFIND.out wl (HWB.out _ hb) s
                  rw [hf] at this
                  exact this)
                have HSQ : Hid (∀ wl, Below wr.heap.size wr wl → wl.cell? ⟨X.b, 0, none⟩ = some (ptrV X.t) ∧ wl.cell? ⟨rb, 3, none⟩ = some (.slice ai ins.length ci) ∧ wl.cell? ⟨b5, o5, none⟩ = some (str s)) := Lib.hid (fun wl hb => ⟨(hb.cell (lt_of_cell k4)).trans k4, (hb.cell (lt_of_cell k3)).trans k3, (hb.cell (lt_of_cell hc5)).trans hc5⟩)
                have hTr := (HH.out _ (HWB.out _ HBQ.out.drew)).tree
                have hrd := hTr.reads
                have hcl := hTr.cell
                obtain ⟨al, cl, hlv, -, -⟩ := id hrd
                rw [List.length_map] at hlv
                subst hlv
                obtain ⟨b7, o7, hix7, -, hce7⟩ := hrd.at (P := Tryz.prog) Tryz.underlying22 (by kernel_rfl) fx (by simpa using hfl)
                simp only [List.getElem_map] at hce7
                have hb1 := hce7 1 _ rfl
                rw [hfb] at hb1
                have hc0 := (HCX.out _ HBQ.out.drew).2.2.2.2.1
                have hfp : ((fx : Int) < 0) = False := eq_false (by omega)
                have HNX : Hid ((ins.take (j + 1)).map (inP (R.map Prod.fst) P (fun p => mlook p m) st) = (vs' ++ [bt]).map some) := Lib.hid (by
                  rw [HTK.out, List.map_append, HVS.out, List.map_append, List.map_cons, List.map_nil, HSA.out.2, hl]
                  rfl)
                have HOA : Hid (∀ ob, ((wr.alloc ob).drew).ownsRow W1.heap.size 9 1 u8 vs'.length (vs'.map str)) := Lib.hid (fun ob => row_below (HOW2.out.alloc ob) ((Below.refl _ _).drew))
                have HBQ2 := Lib.hid HBQ.out.drew
                have hzq2 := HBQ2.out.size
                clear hl hTr hrd hce7 hf hfb
                go_wp2_with fail
                go_region_held3 (fun w' => w'.cell? ⟨X.b, 0, none⟩ = some (ptrV X.t) ∧ w'.cell? ⟨rb, 3, none⟩ = some (.slice ai ins.length ci) ∧ w'.cell? ⟨b5, o5, none⟩ = some (str s))
                  (first | exact HSQ.out _ (Below.refl _ _) | exact HSQ.out _ (Below.refl _ _).drew)
                  (first
                    | (go_at_call 77
                       refine (KF.out _ ?_).mono ?_
                       · first | exact HBQ.out | exact HBQ.out.drew
                       rintro e w9 ⟨rfl, rfl⟩))
                all_goals
                  go_wp2_with (first
                    | (at_builtin
                       refine wpList_app _ rfl _ _ 32 rfl tyStrsR W1.heap.size _ _ _ rfl (HOA.out _) ⟨wr.heap.size, 0, none⟩ 1 1 [str bt] rfl rfl (news_one ?_) ?_ (by decide) ?_ ?_ ?_
                       · exact (cell_of_heap (heap_alloc_here wr _) 0).trans rfl
                       · intro u hu; simp at hu; subst hu; rfl
                       · omega
                       · simp; omega
                       intro v6 w6 ho6 hg6 hloc6
                       have HO6 : Hid (w6.ownsRow W1.heap.size 9 1 v6 (vs' ++ [bt]).length ((vs' ++ [bt]).map str)) := Lib.hid (by
                         rw [List.length_append, List.map_append, List.map_cons, List.map_nil]
                         exact ho6)
                       have HB6 : Hid (Below W1.heap.size W1 w6) := Lib.hid ((HBQ.out.alloc HBQ.out.size _).drew.grown hg6 (by simp; omega) (fun q hq => (HOW2.out.lt q hq).1))
                       clear ho6 hg6 hloc6))
                  go_wp2
                  go_roundw
                  case rel => exact ⟨j + 1, vs' ++ [bt], by omega, by go_num, HNX.out, HO6.out, HB6.out⟩
                  case measure => simp [intOf]; omega
      · obtain rfl : j = ins.length := by omega
        have hlc : ((ins.length : Int) < (ins.length : Int)) = False := eq_false (by omega)
        have hvs2 := hvs
        rw [List.take_length] at hvs2
        have hin2 : ((R.map Prod.fst).getD k noR).ins.map (inP (R.map Prod.fst) P (fun p => mlook p m) st) = vs.map some := by rw [HRW.out]; exact hvs2
        have hsh2 := HSHO.out vs hin2
        have hvlen : vs.length = ins.length := by
          have := congrArg List.length hvs2
          simpa using this.symm
        have HIN2 := Lib.hid hin2
        have hst8 := ownsRow_reads hown
        have KK := Lib.hid (refKey4_any x1 x2 u8 vs wr hst8 HSH.out.2.1 HSH.out.2.2.1 (fun s hs => by have := hsh2 s hs; omega) (by omega))
        have KA := Lib.hid (fun wl (hb : Below wr.heap.size wr wl) => aof_any x1 x2 u8 vs wl (hst8.below0 hb) (by omega) (by have := HSH.out.2.2.1; omega) (fun s hs => by have := hsh2 s hs; omega))
        have hzj := hbj.size
        have HC6 : Hid (∀ wl, Below W1.heap.size W1 wl → wl.cell? ⟨X.b, 6, none⟩ = some (.pointer none) ∧ wl.cell? ⟨X.b, 2, none⟩ = some (slN X.s R.length)) := Lib.hid (fun wl hb => ⟨(HH.out _ (HWB.out _ hb)).box.cell rfl, (HH.out _ (HWB.out _ hb)).box.cell rfl⟩)
        clear hvs hvs2 hin2 hsh2 hvlen hown hst8
        go_wp2_with fail
        refine KK.out.mono ?_
        rintro e w2 ⟨rfl, hb2⟩
        have HB2 := Lib.hid (hbj.trans (hb2.mono hzj))
        have HB2R := Lib.hid hb2
        obtain ⟨k0, k1, k2, k3, k4, k5, k6⟩ := HCX.out _ HB2.out
        obtain ⟨c6, -⟩ := HC6.out _ HB2.out
        clear hb2 hbj
        obtain ⟨⟨ec, bt⟩, hact⟩ : ∃ y, actOf x1 x2 vs = y := ⟨_, rfl⟩
        have HACT := Lib.hid hact
        have KA2 : Hid (∀ wl, Below wr.heap.size wr wl → Calls Tryz.prog 81 #[str x1, str x2, u8] wl fun e w' => e = .returned (.tuple #[str bt, .int .i64 ((ec : Nat) : Int)]) ∧ Below wl.heap.size wl w') := Lib.hid (fun wl hb => by
          have := KA.out wl hb
          rw [hact] at this
          exact this)
        clear hact KA
        go_wp2_with fail
        refine (KA2.out w2 HB2R.out).mono ?_
        rintro e w3 ⟨rfl, hb3⟩
        have HB3 := Lib.hid (HB2.out.trans (hb3.mono HB2.out.size))
        clear hb3
        cases ec with
        | succ ec =>
          have hpos : (0 < ((ec + 1 : Nat) : Int)) = True := eq_true (by omega)
          have HGO : Hid (∀ st', FailPost (R.map Prod.fst) P st st' k (ec + 1) → RunRel (R.map Prod.fst) P (fun p => mlook p m) none st k false 0 none st') := Lib.hid (fun st' hf => HREL.out _ _ (.bad HIN2.out (fun _ h => by cases h) (by rw [HRW.out]; exact HACT.out) hf))
          go_wp2_with fail
          refine (KFAIL.out _ (HWB.out _ HB3.out) (ec + 1)).mono ?_
          rintro e w9 ⟨rfl, st', hfp, hrb9, hfr9⟩
          have HGO9 := Lib.hid (HGO.out st' hfp)
          have HRB9 := Lib.hid hrb9
          have HFR9 : Hid (Fr w.heap.size X.foot w w9) := Lib.hid ((Fr.of_below (HWB.out _ HB3.out)).trans (hfr9.mono (HWB.out _ HB3.out).size (fun _ _ h => h.elim Or.inl (fun h => Or.inr (Or.inr (Or.inr h))))))
          clear hfp hrb9 hfr9
          go_wp2
          go_ret2
          exact RRunPost.mk (hit := false) (code := 0) HGO9.out HRB9.out HFR9.out
        | zero =>
          have hpos : (0 < ((0 : Nat) : Int)) = False := eq_false (by omega)
          have HGO : Hid (RunRel (R.map Prod.fst) P (fun p => mlook p m) none st k false 0 none (setSt st k ⟨2, false, bt, 0⟩)) := Lib.hid (HREL.out _ _ (.run HIN2.out (fun _ h => by cases h) (by rw [HRW.out]; exact HACT.out)))
          have h3 := HH.out _ (HWB.out _ HB3.out)
          have H4 : Hid (RBAt X R.length (.slice a R.length c) lv L P (.pointer none) base (w3.setCell ⟨X.s, k, none⟩ (str [100, 111, 110, 101])) (setSt st k { st k with state := 2 })) := Lib.hid (h3.put_state k (stName 2) (fun j => rSt_set HKP.out _ j) (fun j => setSt_keep St.out (by rfl) j) (fun j => setSt_keep St.hit (by rfl) j) (fun j => setSt_keep St.why (by rfl) j))
          have H5 : Hid (RBAt X R.length (.slice a R.length c) lv L P (.pointer none) base ((w3.setCell ⟨X.s, k, none⟩ (str [100, 111, 110, 101])).setCell ⟨X.o, k, none⟩ (str bt)) (setSt st k ⟨2, false, bt, 0⟩)) := Lib.hid (H4.out.put_out k bt (fun j => by rw [rSt_set HKP.out, rSt_set HKP.out]) (fun j => by unfold setSt; split <;> rfl) (fun j => by
            unfold setSt
            split
            · exact HWT.out.1.symm
            · rfl) (fun j => by
            unfold setSt
            split
            · exact HWT.out.2.symm
            · rfl))
          have HF5 : Hid (Fr w.heap.size X.foot w ((w3.setCell ⟨X.s, k, none⟩ (str [100, 111, 110, 101])).setCell ⟨X.o, k, none⟩ (str bt))) := Lib.hid (((Fr.of_below (HWB.out _ HB3.out)).setCell (p := ⟨X.s, k, none⟩) (fun _ => Or.inl rfl) _).setCell (p := ⟨X.o, k, none⟩) (fun _ => Or.inr (Or.inl rfl)) _)
          have hixk := idx_at (P := Tryz.prog) (T := 32) (E := 9) Tryz.underlying32 (by kernel_rfl) X.s R.length R.length k hk
          have hixo := idx_at (P := Tryz.prog) (T := 32) (E := 9) Tryz.underlying32 (by kernel_rfl) X.o R.length R.length k hk
          have d2 : w3.cell? ⟨X.b, 2, none⟩ = some (slN X.s R.length) := h3.box.cell rfl
          have d3 : (w3.setCell ⟨X.s, k, none⟩ (str [100, 111, 110, 101])).cell? ⟨X.b, 3, none⟩ = some (slN X.o R.length) := H4.out.box.cell rfl
          have d6 : ((w3.setCell ⟨X.s, k, none⟩ (str [100, 111, 110, 101])).setCell ⟨X.o, k, none⟩ (str bt)).cell? ⟨X.b, 6, none⟩ = some (.pointer none) := H5.out.box.cell rfl
          have f2 : w3.frozen? ⟨X.s, k, none⟩ = false := h3.state.frozen k
          have f3 : (w3.setCell ⟨X.s, k, none⟩ (str [100, 111, 110, 101])).frozen? ⟨X.o, k, none⟩ = false := H4.out.out.frozen k
          obtain ⟨u0, hu0⟩ : ∃ u, w3.cell? ⟨X.s, k, none⟩ = some u := ⟨_, h3.state.cell (k := k) (by rw [List.getElem?_map, List.getElem?_range hk]; rfl)⟩
          obtain ⟨u1, hu1⟩ : ∃ u, (w3.setCell ⟨X.s, k, none⟩ (str [100, 111, 110, 101])).cell? ⟨X.o, k, none⟩ = some u := ⟨_, H4.out.out.cell (k := k) (by rw [List.getElem?_map, List.getElem?_range hk]; rfl)⟩
          clear h3
          go_wp2
          go_ret2
          exact RRunPost.mk (hit := false) (code := 0) HGO.out H5.out HF5.out
end Go.Proofs.YtgoeoekdlcbmpaaGreatDoor
