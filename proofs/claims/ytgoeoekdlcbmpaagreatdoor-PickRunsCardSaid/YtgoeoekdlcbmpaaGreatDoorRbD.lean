/-
  The reference's build: All, with no cache. The reference: PickOf, with no cache.
-/
import Derived.Test.YtgoeoekdlcbmpaaGreatDoorRbC
import Derived.Test.YtgoeoekdlcbmpaaGreatDoorBdK

namespace Go.Proofs.YtgoeoekdlcbmpaaGreatDoor
open Go Go.RowKit Go.Kf Go.Sort Go.Proofs

def lenR : Value → Nat
  | .slice _ n _ => n
  | _ => 0
theorem own_lenR {w : World} {base : Nat} {e : TypeId} {z : Nat} {v : Value} {n : Nat} {xs : List Value} (h : w.ownsRow base e z v n xs) : lenR v = n := by
  rcases h.2 with ⟨rfl, h0⟩ | ⟨g, cap, cur, rfl, -⟩
  · exact h0.symm
  · rfl
/-- A reference's build with no cache, as it stands, and what it leans on. -/
structure RO (X : RBx) (R : List RV) (v lv : Value) (m L : List Ent) (P : List Nat) (base : Nat) (w0 : World) (st : Nat → St) (w : World) : Prop where
  at_ : RBAt X R.length v lv L P (.pointer none) base w st
  inv : BInv (R.map Prod.fst) P (fun p => mlook p m) st
  env : REnv R v m L w0
  low : Below w0.heap.size w0 w
  base : w0.heap.size ≤ base
section
variable {X : RBx} {R : List RV} {v lv : Value} {m L : List Ent} {P : List Nat} {base : Nat} {w0 w w' : World} {st : Nat → St}
theorem RO.foot_at (h : RO X R v lv m L P base w0 st w) {q : Nat} (hq : X.foot q) : w0.heap.size ≤ q ∧ q < w.heap.size := by
  have h1 := h.at_.base
  have h2 := h.base
  rcases hq with rfl | rfl | rfl | rfl
  · exact ⟨by omega, h.at_.state.lt⟩
  · exact ⟨by omega, h.at_.out.lt⟩
  · exact ⟨by omega, h.at_.hit.lt⟩
  · exact ⟨by omega, h.at_.why.lt⟩
theorem RO.below (h : RO X R v lv m L P base w0 st w) (hb : Below w.heap.size w w') : RO X R v lv m L P base w0 st w' :=
  ⟨h.at_.below hb, h.inv, h.env, h.low.trans (hb.mono h.low.size), h.base⟩
/-- What turned lies behind all that the build had when it was entered. -/
theorem RO.keep {w3 w6 : World} {st3 : Nat → St} (h : RO X R v lv m L P base w0 st3 w3) (h0 : RO X R v lv m L P base w0 st w) (hb : Below w.heap.size w3 w6) : RO X R v lv m L P base w0 st3 w6 := by
  have hf : Fr w.heap.size (fun _ => False) w3 w6 := Fr.of_below hb
  exact ⟨⟨h.at_.box.fr hf h0.at_.box.lt id, ⟨(hb.block X.t (lt_of_heap h0.at_.tree.blk)).trans h.at_.tree.blk, ownsRow_fr h.at_.tree.row hf (fun k hk => ⟨(h0.at_.tree.row.lt k hk).2, id⟩), h.at_.tree.ne⟩,
    h.at_.state.fr hf h0.at_.state.lt id, h.at_.out.fr hf h0.at_.out.lt id, h.at_.hit.fr hf h0.at_.hit.lt id, h.at_.why.fr hf h0.at_.why.lt id, h.at_.ne, h.at_.base⟩, h.inv, h.env, h.low.trans (hb.mono h0.low.size), h.base⟩
theorem RO.fr (h : RO X R v lv m L P base w0 st w) (hf : Fr w.heap.size X.foot w w') : Below w0.heap.size w0 w' :=
  h.low.trans ((hf.mono (S' := X.foot) h.low.size (fun _ _ h => h)).below (fun q hq hs => by have := (h.foot_at hs).1; omega))
theorem rrun_any {o : List Nat} (h : RO X R v lv m L P base w0 st w) (hP : Ord (R.map Prod.fst) P o) (i : Int) :
    Calls Tryz.prog 43 #[ptrV X.b, .int .i64 i] w fun e w' => ∃ (u : Value) (hit : Bool) (code : Nat) (st' : Nat → St), e = .returned u ∧ RunRel (R.map Prod.fst) P (fun p => mlook p m) none st i hit code none st' ∧ RO X R v lv m L P base w0 st' w' ∧ Fr w.heap.size X.foot w w' := by
  refine (rrunN_any X R v lv m L P base w w0 st h.at_ hP.ok h.inv h.env h.low h.base i).mono ?_
  rintro e w' ⟨hr, ha, hf⟩
  exact ⟨_, _, _, _, rfl, hr, ⟨ha, (hr.steps.inv hP h.inv (fun _ h => by cases h)).1, h.env, h.fr hf, h.base⟩, hf⟩
theorem rready_any {o : List Nat} (h : RO X R v lv m L P base w0 st w) (hP : Ord (R.map Prod.fst) P o) :
    Calls Tryz.prog 83 #[ptrV X.b] w fun e w' => ∃ u, e = .returned u ∧ w'.ownsRow w.heap.size 3 1 u (readyL (R.map Prod.fst) P st).length ((intsB (readyL (R.map Prod.fst) P st)).map (Value.int .i64)) ∧ Below w.heap.size w w' := by
  have hV := h.env.below h.low
  exact rReady_any X R v lv L P (.pointer none) base w st h.at_ ⟨hP.ok.lt, hP.ok.shut, h.inv.one⟩ hV.rules hV.ins hV.many hP.ok
end

set_option maxRecDepth 100000 in
set_option maxHeartbeats 4000000 in
theorem rall_any {X : RBx} {R : List RV} {v lv : Value} {m L : List Ent} {P : List Nat} {base : Nat} {w0 w : World} {st : Nat → St} {o : List Nat} (h : RO X R v lv m L P base w0 st w) (hP : Ord (R.map Prod.fst) P o) :
    Calls Tryz.prog 45 #[ptrV X.b] w fun e w' => ∃ (u : Value) (js : List Nat) (st' : Nat → St), e = .returned u ∧ AllRel (R.map Prod.fst) P (fun p => mlook p m) none st js none st' ∧ w'.ownsRow w.heap.size 3 1 u js.length ((intsB js).map (Value.int .i64)) ∧
      RO X R v lv m L P base w0 st' w' ∧ Fr w.heap.size X.foot w w' := by
  have HO := Lib.hid hP
  have HPM := Lib.hid hP.ok.many
  have H := Lib.hid h
  have HFT : Hid (∀ q, X.foot q → q < w.heap.size) := Lib.hid (fun q hq => (h.foot_at hq).2)
  clear h hP
  generalize hl : R.map Prod.fst = l at *
  subst hl
  go_enter Tryz.func45, Tryz.ntmps45
  go_wp2_with fail
  go_loopw [3] (fun ov wl => ∃ (js : List Nat) (st2 : Nat → St), RO X R v lv m L P base w0 st2 wl ∧ Fr w.heap.size X.foot w wl ∧ wl.ownsRow w.heap.size 3 1 ov js.length ((intsB js).map (Value.int .i64)) ∧ js.length + (waitL P st2).length ≤ 40 ∧
    ∀ js' st', AllRel (R.map Prod.fst) P (fun p => mlook p m) none st2 js' none st' → AllRel (R.map Prod.fst) P (fun p => mlook p m) none st (js ++ js') none st') (fun ov _ => 41 - lenR ov)
  case atStart => exact ⟨[], st, H.out, Fr.refl _ _ _, World.ownsRow_nil _ _ _ _, by have := bwait_le (P := P) st; have := HPM.out; simp; omega, fun js' st' h => h⟩
  case round =>
    obtain ⟨js, st2, hro, hfr, hown, hjs, hall⟩ := hrel
    have HRO := Lib.hid hro
    have HFR := Lib.hid hfr
    have HOW := Lib.hid hown
    have HALL := Lib.hid hall
    have HJS := Lib.hid hjs
    have KR := Lib.hid (rready_any hro HO.out)
    have hzw := hfr.size
    have HLN := Lib.hid (own_lenR hown)
    clear hro hfr hown hall
    go_wp2_with fail
    refine KR.out.mono ?_
    rintro e w2 ⟨u2, rfl, hrd2, hb2⟩
    have HRO2 := Lib.hid (HRO.out.below hb2)
    have HFR2 := Lib.hid (HFR.out.trans ((Fr.of_below hb2).mono hzw (fun _ _ h => h)))
    have HOW2 := Lib.hid (row_below HOW.out hb2)
    have HRD := Lib.hid (ownsRow_base hrd2 hzw)
    have hrd := reads_ints hrd2
    have hz2 := hb2.size
    clear hrd2 hb2 KR
    obtain ⟨au, cu, hu, hrl, -⟩ := id hrd
    rw [List.length_map] at hu hrl
    subst hu
    cases hr : readyL (R.map Prod.fst) P st2 with
    | nil =>
      have HR0 := Lib.hid hr
      clear hrd hr hrl
      go_wp2
      go_ret
      exact ⟨_, js, st2, rfl, by have := HALL.out [] st2 (.stop HR0.out); rwa [List.append_nil] at this, HOW2.out, HRO2.out, HFR2.out⟩
    | cons k r =>
      rw [hr] at hrl hrd HRD
      have HR0 := Lib.hid hr
      have HKR := Lib.hid (ready_head hr)
      have KRU := Lib.hid (rrun_any HRO2.out HO.out (k : Int))
      have HNI : Hid (∀ w3, Fr w2.heap.size X.foot w2 w3 → ∃ b o, (∀ w', (Instr.indexAt 24 (.slice au (r.length + 1) cu) (.int .i64 0)).run Tryz.prog w' = .ok (.pointer (some ⟨b, o, none⟩)) w') ∧ w3.cell? ⟨b, o, none⟩ = some (intE k)) := Lib.hid (fun w3 hf => by
        have h1 := reads_ints (ownsRow_fr HRD.out hf (fun q hq => ⟨(HRD.out.lt q hq).2, fun hs => by have := HFT.out q hs; have := (HRD.out.lt q hq).1; omega⟩))
        obtain ⟨b, o, h2, h3⟩ := h1.at (P := Tryz.prog) Tryz.underlying24 (by kernel_rfl) 0 (by simp)
        simp only [List.map_cons, List.getElem_cons_zero, List.length_cons] at h2 h3
        exact ⟨b, o, h2, h3⟩)
      obtain ⟨b, of, hix, hce⟩ := HNI.out w2 (Fr.refl _ _ _)
      have hn1 : ((((r.length + 1 : Nat)) : Int) == 0) = false := by
        rw [beq_eq_false_iff_ne]; omega
      have hn2 : ((((r.length + 1 : Nat)) : Int) = 0) = False := eq_false (by omega)
      have hn3 : (((r.length : Int) + 1) = 0) = False := eq_false (by omega)
      have hn4 : (((r.length : Int) + 1) == 0) = false := by
        rw [beq_eq_false_iff_ne]; omega
      clear hrd hr hrl
      simp only [List.length_cons]
      go_wp2_with fail
      refine KRU.out.mono ?_
      rintro e w3 ⟨ur, hit, code, st3, rfl, hrel, hro3, hfr3⟩
      have hgo := run_ready hrel HKR.out
      have HGO := Lib.hid hgo
      have HRO3 := Lib.hid hro3
      have HFR3 := Lib.hid (HFR2.out.trans (hfr3.mono HFR2.out.size (fun _ _ h => h)))
      have HOW3 := Lib.hid (ownsRow_fr HOW2.out hfr3 (fun q hq => ⟨(HOW2.out.lt q hq).2, fun hs => by have := HFT.out q hs; have := (HOW2.out.lt q hq).1; omega⟩))
      obtain ⟨b3, o3, hix3, hce3⟩ := HNI.out _ hfr3
      have hz3 := hfr3.size
      have hless : (waitL P st3).length < (waitL P st2).length := by
        have hl := hgo.less
        exact wait_less HKR.out.1 HKR.out.2.1 hl.1 hl.2
      have HLESS := Lib.hid hless
      clear hrel hro3 hfr3 hgo KRU hless hce hix
      go_wp2_with (first
        | (at_builtin
           refine wpList_app _ rfl _ _ 24 rfl tyInts w.heap.size _ _ _ rfl (HOW3.out.alloc _) ⟨w3.heap.size, 0, none⟩ 1 1 [intE k] rfl rfl (news_one ?_) ?_ (by decide) ?_ ?_ ?_
           · rw [cell_of_heap (heap_alloc_here w3 _)]; rfl
           · intro u hu; simp at hu; subst hu; rfl
           · omega
           · simp; omega
           intro v6 w6 ho6 hg6 hloc6
           have HO6 : Hid (w6.ownsRow w.heap.size 3 1 v6 (js ++ [k]).length ((intsB (js ++ [k])).map (Value.int .i64))) := Lib.hid (by simpa [intsB, Nat.add_assoc] using ho6)
           have HB6 : Hid (Below w.heap.size w3 w6) := Lib.hid ((((Below.refl w3.heap.size w3).alloc (Nat.le_refl _) _).mono (by omega)).grown hg6 (by simp; omega) (fun q hq => (HOW3.out.lt q hq).1))
           clear ho6 hg6 hloc6))
      have HT6 : Hid (Fr w.heap.size X.foot w w6) := Lib.hid (HFR3.out.trans (Fr.of_below HB6.out))
      have HRO6 : Hid (RO X R v lv m L P base w0 st3 w6) := Lib.hid (HRO3.out.keep H.out HB6.out)
      go_wp2
      go_roundw
      case rel => exact ⟨js ++ [k], st3, HRO6.out, HT6.out, HO6.out, by have h1 := HJS.out; have h2 := HLESS.out; rw [List.length_append, List.length_singleton]; omega, fun js' st' h => by
        rw [List.append_assoc]
        exact HALL.out _ _ (.more HR0.out HGO.out h)⟩
      case measure =>
        have h1 := HLN.out
        have h2 := own_lenR HO6.out
        have h3 := HJS.out
        have h4 := HLESS.out
        rw [List.length_append, List.length_singleton] at h2
        rw [h1, h2]
        omega
end Go.Proofs.YtgoeoekdlcbmpaaGreatDoor

namespace Go.Proofs.YtgoeoekdlcbmpaaGreatDoor
open Go Go.RowKit Go.Kf Go.Sort Go.Proofs

theorem pick_rem {z : Int} {n : Nat} (h : I64 z) (hm : ¬ z < -9223372036854775807) : (z.tmod (n : Int) < 0 → -(z.tmod (n : Int)) = (pickIx z n : Int)) ∧ (¬ z.tmod (n : Int) < 0 → z.tmod (n : Int) = (pickIx z n : Int)) := by
  have h1 := pickIx_mod (n := n) h
  unfold I64 at h
  unfold sizeZ at h1
  rw [if_neg (by omega)] at h1
  by_cases h2 : z < 0
  · rw [if_pos h2] at h1
    have h3 : z.tmod (n : Int) = -((-z) % (n : Int)) := by
      have : z = -(-z) := by omega
      rw [this, Int.neg_tmod, Int.tmod_eq_emod_of_nonneg (by omega), ← this]
    rw [h3, h1]
    exact ⟨fun _ => by omega, fun h4 => by omega⟩
  · rw [if_neg h2] at h1
    rw [Int.tmod_eq_emod_of_nonneg (by omega), h1]
    exact ⟨fun h4 => by omega, fun _ => rfl⟩
theorem pick_min {z : Int} {n : Nat} (h : I64 z) (hm : z < -9223372036854775807) : pickIx z n = 0 := by
  unfold I64 at h
  have : z = -9223372036854775808 := by omega
  subst this
  unfold pickIx sizeZ
  simp
theorem tmod_small {z : Int} {n : Nat} (h : 0 < n) (hn : n ≤ 1000) : -1000 ≤ z.tmod (n : Int) ∧ z.tmod (n : Int) ≤ 1000 := by
  have h1 := Int.tmod_lt_of_pos z (show (0 : Int) < n by omega)
  have h2 := Int.lt_tmod_of_pos z (show (0 : Int) < n by omega)
  omega

theorem AllRel.len40 {l : List RuleL} {P : List Nat} {T : Look} {c c' : Option CS} {st st' : Nat → St} {js : List Nat} (h : AllRel l P T c st js c' st') (hP : P.length ≤ 40) : js.length ≤ 40 := by
  have key : ∀ {c st js c' st'}, AllRel l P T c st js c' st' → js.length ≤ (waitL P st).length := by
    intro c st js c' st' h
    induction h with
    | stop _ => simp
    | more h1 h2 h3 ih =>
      have hr := ready_head h1
      have hl := h2.less
      have := wait_less hr.1 hr.2.1 hl.1 hl.2
      rw [List.length_cons]
      omega
  have := key h
  have := bwait_le (P := P) st
  omega

set_option maxRecDepth 100000 in
set_option maxHeartbeats 4000000 in
theorem rpick_any {X : RBx} {R : List RV} {v lv : Value} {m L : List Ent} {P : List Nat} {base : Nat} {w0 w : World} {st : Nat → St} {o : List Nat} (h : RO X R v lv m L P base w0 st w) (hP : Ord (R.map Prod.fst) P o) (picks : List Int) (vp : Value) (hp : Reads w0 vp (picks.map (Value.int .i64))) (hz : ∀ z ∈ picks, I64 z) (hl : picks.length ≤ 1000) :
    Calls Tryz.prog 48 #[ptrV X.b, vp] w fun e w' => ∃ (u : Value) (ks js : List Nat) (st1 st' : Nat → St), e = .returned u ∧ PickRel (R.map Prod.fst) P (fun p => mlook p m) none st picks ks none st1 ∧ AllRel (R.map Prod.fst) P (fun p => mlook p m) none st1 js none st' ∧
      w'.ownsRow w.heap.size 3 1 u (ks ++ js).length ((intsB (ks ++ js)).map (Value.int .i64)) ∧ RO X R v lv m L P base w0 st' w' ∧ Fr w.heap.size X.foot w w' := by
  obtain ⟨a, cp, hv, -, -⟩ := id hp
  rw [List.length_map] at hv
  subst hv
  have HPR := Lib.hid hp
  have HZ := Lib.hid hz
  have HO := Lib.hid hP
  have HPM := Lib.hid hP.ok.many
  have hml : (R.map Prod.fst).length ≤ 40 := hP.ok.right.1
  have HRN : Hid (∀ st, (readyL (R.map Prod.fst) P st).length ≤ 1000) := Lib.hid (fun st => by
    have h1 : (readyL (R.map Prod.fst) P st).length ≤ P.length := List.length_filter_le _ _
    have := HPM.out
    omega)
  have H := Lib.hid h
  have HFT : Hid (∀ q, X.foot q → q < w.heap.size) := Lib.hid (fun q hq => (h.foot_at hq).2)
  clear h hP hp hz hml
  go_enter Tryz.func48, Tryz.ntmps48
  go_wp2_with fail
  go_loopw [5, 6] (fun ov iv wl => ∃ (j : Nat) (ks : List Nat) (st1 : Nat → St), j ≤ picks.length ∧ iv = .int .i64 j ∧ PickRel (R.map Prod.fst) P (fun p => mlook p m) none st (picks.take j) ks none st1 ∧ RO X R v lv m L P base w0 st1 wl ∧ Fr w.heap.size X.foot w wl ∧
    wl.ownsRow w.heap.size 3 1 ov ks.length ((intsB ks).map (Value.int .i64))) (fun _ iv _ => picks.length - (intOf iv).toNat)
  case atStart => exact ⟨0, [], st, by omega, rfl, .nil, H.out, Fr.refl _ _ _, World.ownsRow_nil _ _ _ _⟩
  case round =>
    obtain ⟨j, ks, st1, hj, rfl, hpr, hro, hfr, hown⟩ := hrel
    have HPK := Lib.hid hpr
    have HRO := Lib.hid hro
    have HFR := Lib.hid hfr
    have HOW := Lib.hid hown
    have hzw := hfr.size
    have hkl : ks.length ≤ 1000 := by
      have h1 := hpr.len
      rw [List.length_take] at h1
      omega
    by_cases hlt : j < picks.length
    · have hlc : ((j : Int) < (picks.length : Int)) = True := eq_true (by omega)
      have hl3 : ((j : Int) < 3000) = True := eq_true (by omega)
      have HCE : Hid (∀ wl, Below w0.heap.size w0 wl → ∃ b o, (∀ w', (Instr.indexAt 24 (.slice a picks.length cp) (.int .i64 (j : Int))).run Tryz.prog w' = .ok (.pointer (some ⟨b, o, none⟩)) w') ∧ wl.cell? ⟨b, o, none⟩ = some (.int .i64 picks[j])) := Lib.hid (fun wl hb => by
        obtain ⟨b, o, h1, h2⟩ := (HPR.out.below0 hb).at (P := Tryz.prog) Tryz.underlying24 (by kernel_rfl) j (by simpa using hlt)
        simp only [List.getElem_map] at h2
        exact ⟨b, o, h1, h2⟩)
      have HTK : Hid (picks.take (j + 1) = picks.take j ++ [picks[j]]) := Lib.hid (List.take_succ_eq_append_getElem hlt)
      have hzj := HZ.out _ (List.getElem_mem hlt)
      have KR := Lib.hid (rready_any hro HO.out)
      generalize picks[j] = z at *
      have HZJ := Lib.hid hzj
      clear hpr hro hfr hown hzj
      go_wp2_with fail
      refine KR.out.mono ?_
      rintro e w2 ⟨u2, rfl, hrd2, hb2⟩
      have HRO2 := Lib.hid (HRO.out.below hb2)
      have HFR2 := Lib.hid (HFR.out.trans ((Fr.of_below hb2).mono hzw (fun _ _ h => h)))
      have HOW2 := Lib.hid (row_below HOW.out hb2)
      have HRD := Lib.hid (ownsRow_base hrd2 hzw)
      have hrd := reads_ints hrd2
      have hz2 := hb2.size
      obtain ⟨b, of, hix, hce⟩ := HCE.out _ HRO2.out.low
      clear hrd2 hb2 KR
      obtain ⟨au, cu, hu, hrl, -⟩ := id hrd
      rw [List.length_map] at hu hrl
      subst hu
      by_cases hr : readyL (R.map Prod.fst) P st1 = []
      · have HR0 := Lib.hid hr
        rw [hr]
        clear hrd hr hrl
        go_wp2
        go_roundw
        case rel => exact ⟨j + 1, ks, st1, by omega, by go_num, by rw [HTK.out]; exact .skip HPK.out HR0.out, HRO2.out, HFR2.out, HOW2.out⟩
        case measure => simp [intOf]; omega
      · have hpos : 0 < (readyL (R.map Prod.fst) P st1).length := List.length_pos_iff.2 hr
        have hrn := HRN.out st1
        obtain ⟨rd, hrde⟩ : ∃ rd, readyL (R.map Prod.fst) P st1 = rd := ⟨_, rfl⟩
        have HRDE := Lib.hid hrde
        have hmem : ∀ k ∈ rd, k ∈ P ∧ ReadyP (R.map Prod.fst) st1 k := fun k hk => ready_mem (by rw [hrde]; exact hk)
        rw [hrde] at hpos hrl hrd HRD hrn ⊢
        have hpl := pickIx_lt (z := z) hpos
        have hsm := tmod_small (z := z) hpos hrn
        have hrem := fun hm => pick_rem (n := rd.length) HZJ.out hm
        have hmin := fun hm => pick_min (n := rd.length) HZJ.out hm
        have HRUN := Lib.hid (hmem _ (List.getElem_mem hpl))
        have HIX : Hid (rd[pickIx z rd.length]? = some rd[pickIx z rd.length]) := Lib.hid (List.getElem?_eq_getElem hpl)
        have HNI : Hid (∀ w3, Fr w2.heap.size X.foot w2 w3 → ∃ b o, (∀ w', (Instr.indexAt 24 (.slice au rd.length cu) (.int .i64 (pickIx z rd.length : Int))).run Tryz.prog w' = .ok (.pointer (some ⟨b, o, none⟩)) w') ∧ w3.cell? ⟨b, o, none⟩ = some (intE rd[pickIx z rd.length])) := Lib.hid (fun w3 hf => by
          have h1 := reads_ints (ownsRow_fr HRD.out hf (fun q hq => ⟨(HRD.out.lt q hq).2, fun hs => by have := HFT.out q hs; have := (HRD.out.lt q hq).1; omega⟩))
          obtain ⟨b, o, h2, h3⟩ := h1.at (P := Tryz.prog) Tryz.underlying24 (by kernel_rfl) (pickIx z rd.length) (by simpa using hpl)
          simp only [List.getElem_map] at h3
          exact ⟨b, o, h2, h3⟩)
        generalize hk : rd[pickIx z rd.length] = k at *
        obtain ⟨ix, hixe⟩ : ∃ ix, pickIx z rd.length = ix := ⟨_, rfl⟩
        have HIXE := Lib.hid hixe
        have HIX2 : Hid (rd[ix]? = some k) := Lib.hid (by rw [← hixe]; exact HIX.out)
        have KRU := Lib.hid (rrun_any HRO2.out HO.out (k : Int))
        rw [hixe] at HNI hpl hmin
        obtain ⟨t, ht⟩ : ∃ t, z.tmod (rd.length : Int) = t := ⟨_, rfl⟩
        simp only [ht, hixe] at hsm hrem
        obtain ⟨b2, o2, hix2, hce2⟩ := HNI.out w2 (Fr.refl _ _ _)
        have hn1 : ((rd.length : Int) == 0) = false := by
          rw [beq_eq_false_iff_ne]; omega
        have hn2 : ((rd.length : Int) = 0) = False := eq_false (by omega)
        clear hrd hr hk hixe hmem HIX
        have HIX := Lib.hid HIX2.out
        clear HIX2
        by_cases hm : z < -9223372036854775807
        · have e1 : (z < -9223372036854775807) = True := eq_true hm
          have hix0 := hmin hm
          subst hix0
          clear hmin hrem
          replace hix2 : ∀ w', (Instr.indexAt 24 (.slice au rd.length cu) (.int .i64 0)).run Tryz.prog w' = .ok (.pointer (some ⟨b2, o2, none⟩)) w' := hix2
          go_wp2_with fail
          refine KRU.out.mono ?_
          rintro e w3 ⟨ur, hit, code, st3, rfl, hrel, hro3, hfr3⟩
          have hgo := run_ready hrel HRUN.out
          have HGO := Lib.hid hgo
          have HRO3 := Lib.hid hro3
          have HFR3 := Lib.hid (HFR2.out.trans (hfr3.mono HFR2.out.size (fun _ _ h => h)))
          have HOW3 := Lib.hid (ownsRow_fr HOW2.out hfr3 (fun q hq => ⟨(HOW2.out.lt q hq).2, fun hs => by have := HFT.out q hs; have := (HOW2.out.lt q hq).1; omega⟩))
          obtain ⟨b3, o3, hix3, hce3⟩ := HNI.out _ hfr3
          replace hix3 : ∀ w', (Instr.indexAt 24 (.slice au rd.length cu) (.int .i64 0)).run Tryz.prog w' = .ok (.pointer (some ⟨b3, o3, none⟩)) w' := hix3
          have hz3 := hfr3.size
          clear hrel hro3 hfr3 hgo KRU hce2 hix2
          go_wp2_with (first
            | (at_builtin
               refine wpList_app _ rfl _ _ 24 rfl tyInts w.heap.size _ _ _ rfl (HOW3.out.alloc _) ⟨w3.heap.size, 0, none⟩ 1 1 [intE k] rfl rfl (news_one ?_) ?_ (by decide) ?_ ?_ ?_
               · rw [cell_of_heap (heap_alloc_here w3 _)]; rfl
               · intro u hu; simp at hu; subst hu; rfl
               · omega
               · simp; omega
               intro v6 w6 ho6 hg6 hloc6
               have HO6 : Hid (w6.ownsRow w.heap.size 3 1 v6 (ks ++ [k]).length ((intsB (ks ++ [k])).map (Value.int .i64))) := Lib.hid (by simpa [intsB, Nat.add_assoc] using ho6)
               have HB6 : Hid (Below w.heap.size w3 w6) := Lib.hid ((((Below.refl w3.heap.size w3).alloc (Nat.le_refl _) _).mono (by omega)).grown hg6 (by simp; omega) (fun q hq => (HOW3.out.lt q hq).1))
               clear ho6 hg6 hloc6))
          have HT6 : Hid (Fr w.heap.size X.foot w w6) := Lib.hid (HFR3.out.trans (Fr.of_below HB6.out))
          have HRO6 : Hid (RO X R v lv m L P base w0 st3 w6) := Lib.hid (HRO3.out.keep H.out HB6.out)
          go_wp2
          go_roundw
          case rel => exact ⟨j + 1, ks ++ [k], st3, by omega, by go_num, by rw [HTK.out]; exact .go HPK.out (by rw [HRDE.out, HIXE.out]; exact HIX.out) HGO.out, HRO6.out, HT6.out, HO6.out⟩
          case measure => simp [intOf]; omega
        · have e1 : (z < -9223372036854775807) = False := eq_false hm
          obtain ⟨hr1, hr2⟩ := hrem hm
          clear hmin hrem
          by_cases htn : t < 0
          · have e2 : (t < 0) = True := eq_true htn
            have e3 := hr1 htn
            clear hr1 hr2
            go_wp2_with fail
            refine KRU.out.mono ?_
            rintro e w3 ⟨ur, hit, code, st3, rfl, hrel, hro3, hfr3⟩
            have hgo := run_ready hrel HRUN.out
            have HGO := Lib.hid hgo
            have HRO3 := Lib.hid hro3
            have HFR3 := Lib.hid (HFR2.out.trans (hfr3.mono HFR2.out.size (fun _ _ h => h)))
            have HOW3 := Lib.hid (ownsRow_fr HOW2.out hfr3 (fun q hq => ⟨(HOW2.out.lt q hq).2, fun hs => by have := HFT.out q hs; have := (HOW2.out.lt q hq).1; omega⟩))
            obtain ⟨b3, o3, hix3, hce3⟩ := HNI.out _ hfr3
            have hz3 := hfr3.size
            clear hrel hro3 hfr3 hgo KRU hce2 hix2
            go_wp2_with (first
              | (at_builtin
                 refine wpList_app _ rfl _ _ 24 rfl tyInts w.heap.size _ _ _ rfl (HOW3.out.alloc _) ⟨w3.heap.size, 0, none⟩ 1 1 [intE k] rfl rfl (news_one ?_) ?_ (by decide) ?_ ?_ ?_
                 · rw [cell_of_heap (heap_alloc_here w3 _)]; rfl
                 · intro u hu; simp at hu; subst hu; rfl
                 · omega
                 · simp; omega
                 intro v6 w6 ho6 hg6 hloc6
                 have HO6 : Hid (w6.ownsRow w.heap.size 3 1 v6 (ks ++ [k]).length ((intsB (ks ++ [k])).map (Value.int .i64))) := Lib.hid (by simpa [intsB, Nat.add_assoc] using ho6)
                 have HB6 : Hid (Below w.heap.size w3 w6) := Lib.hid ((((Below.refl w3.heap.size w3).alloc (Nat.le_refl _) _).mono (by omega)).grown hg6 (by simp; omega) (fun q hq => (HOW3.out.lt q hq).1))
                 clear ho6 hg6 hloc6))
            have HT6 : Hid (Fr w.heap.size X.foot w w6) := Lib.hid (HFR3.out.trans (Fr.of_below HB6.out))
            have HRO6 : Hid (RO X R v lv m L P base w0 st3 w6) := Lib.hid (HRO3.out.keep H.out HB6.out)
            go_wp2
            go_roundw
            case rel => exact ⟨j + 1, ks ++ [k], st3, by omega, by go_num, by rw [HTK.out]; exact .go HPK.out (by rw [HRDE.out, HIXE.out]; exact HIX.out) HGO.out, HRO6.out, HT6.out, HO6.out⟩
            case measure => simp [intOf]; omega
          · have e4 := hr2 htn
            subst e4
            have e2 : ((ix : Int) < 0) = False := eq_false (by omega)
            clear hr1 hr2
            go_wp2_with fail
            refine KRU.out.mono ?_
            rintro e w3 ⟨ur, hit, code, st3, rfl, hrel, hro3, hfr3⟩
            have hgo := run_ready hrel HRUN.out
            have HGO := Lib.hid hgo
            have HRO3 := Lib.hid hro3
            have HFR3 := Lib.hid (HFR2.out.trans (hfr3.mono HFR2.out.size (fun _ _ h => h)))
            have HOW3 := Lib.hid (ownsRow_fr HOW2.out hfr3 (fun q hq => ⟨(HOW2.out.lt q hq).2, fun hs => by have := HFT.out q hs; have := (HOW2.out.lt q hq).1; omega⟩))
            obtain ⟨b3, o3, hix3, hce3⟩ := HNI.out _ hfr3
            have hz3 := hfr3.size
            clear hrel hro3 hfr3 hgo KRU hce2 hix2
            go_wp2_with (first
              | (at_builtin
                 refine wpList_app _ rfl _ _ 24 rfl tyInts w.heap.size _ _ _ rfl (HOW3.out.alloc _) ⟨w3.heap.size, 0, none⟩ 1 1 [intE k] rfl rfl (news_one ?_) ?_ (by decide) ?_ ?_ ?_
                 · rw [cell_of_heap (heap_alloc_here w3 _)]; rfl
                 · intro u hu; simp at hu; subst hu; rfl
                 · omega
                 · simp; omega
                 intro v6 w6 ho6 hg6 hloc6
                 have HO6 : Hid (w6.ownsRow w.heap.size 3 1 v6 (ks ++ [k]).length ((intsB (ks ++ [k])).map (Value.int .i64))) := Lib.hid (by simpa [intsB, Nat.add_assoc] using ho6)
                 have HB6 : Hid (Below w.heap.size w3 w6) := Lib.hid ((((Below.refl w3.heap.size w3).alloc (Nat.le_refl _) _).mono (by omega)).grown hg6 (by simp; omega) (fun q hq => (HOW3.out.lt q hq).1))
                 clear ho6 hg6 hloc6))
            have HT6 : Hid (Fr w.heap.size X.foot w w6) := Lib.hid (HFR3.out.trans (Fr.of_below HB6.out))
            have HRO6 : Hid (RO X R v lv m L P base w0 st3 w6) := Lib.hid (HRO3.out.keep H.out HB6.out)
            go_wp2
            go_roundw
            case rel => exact ⟨j + 1, ks ++ [k], st3, by omega, by go_num, by rw [HTK.out]; exact .go HPK.out (by rw [HRDE.out, HIXE.out]; exact HIX.out) HGO.out, HRO6.out, HT6.out, HO6.out⟩
            case measure => simp [intOf]; omega
    · obtain rfl : j = picks.length := by omega
      have hlc : ((picks.length : Int) < (picks.length : Int)) = False := eq_false (by omega)
      rw [List.take_length] at HPK
      have KA := Lib.hid (rall_any hro HO.out)
      clear hpr hro hfr hown
      go_wp2_with fail
      refine KA.out.mono ?_
      rintro e w2 ⟨u, js, st', rfl, hal, hrow, hro2, hfr2⟩
      have HAL := Lib.hid hal
      have HRO2 := Lib.hid hro2
      have HFR2 := Lib.hid (HFR.out.trans (hfr2.mono hzw (fun _ _ h => h)))
      have HOW2 := Lib.hid (ownsRow_fr HOW.out hfr2 (fun q hq => ⟨(HOW.out.lt q hq).2, fun hs => by have := HFT.out q hs; have := (HOW.out.lt q hq).1; omega⟩))
      have hz2 := hfr2.size
      have hjl : js.length ≤ 1000 := by
        have h1 := own_lenR hrow
        have := hal.len40 HPM.out
        omega
      have hrdu := ownsRow_reads hrow
      rcases hrow.2 with ⟨rfl, h0⟩ | ⟨g, cap, cur, rfl, -⟩
      · obtain rfl := List.length_eq_zero_iff.1 h0
        obtain ⟨i0, hi0, -, -, -⟩ := info_parts ints_info
        clear hrow hrdu hal hro2 hfr2 h0
        go_wp2_with (first
          | (at_builtin
             refine wpList_append_own_none rfl (.tmp 53) (.tmp 55) 24 rfl w.heap.size 3 i0 1 Tryz.underlying24 hi0 _ _ _ rfl HOW2.out rfl ?_))
        go_wp2
        go_ret
        exact ⟨_, ks, [], st1, st', rfl, HPK.out, HAL.out, by rw [List.append_nil]; exact HOW2.out, HRO2.out, HFR2.out⟩
      · have HNW : Hid (∀ q u, ((intsB js).map (Value.int .i64))[q]? = some u → w2.cell? ((⟨g, 0, none⟩ : Addr).add q) = some u) := Lib.hid (fun q u hq => by
          obtain ⟨a', c', e', -, hc⟩ := hrdu
          obtain ⟨b', o', e2, h2⟩ := hc q u hq
          simp only [Value.slice.injEq] at e'
          obtain ⟨rfl, -⟩ := e'
          cases e2
          rw [addr_add rfl]
          exact h2)
        clear hrow hrdu hal hro2 hfr2
        go_wp2_with (first
          | (at_builtin
             refine wpList_app _ rfl _ _ 24 rfl tyInts w.heap.size _ _ _ rfl HOW2.out ⟨g, 0, none⟩ js.length cap ((intsB js).map (Value.int .i64)) rfl (by simp [intsB]) HNW.out ?_ (by decide) ?_ ?_ ?_
             · intro u hu; obtain ⟨x, -, rfl⟩ := List.mem_map.1 hu; rfl
             · omega
             · omega
             intro v6 w6 ho6 hg6 hloc6
             have HO6 : Hid (w6.ownsRow w.heap.size 3 1 v6 (ks ++ js).length ((intsB (ks ++ js)).map (Value.int .i64))) := Lib.hid (by
               rw [List.length_append, show intsB (ks ++ js) = intsB ks ++ intsB js by simp [intsB], List.map_append]
               exact ho6)
             have HB6 : Hid (Below w.heap.size w2 w6) := Lib.hid (((Below.refl w2.heap.size w2).mono (by omega)).grown hg6 (by omega) (fun q hq => (HOW2.out.lt q hq).1))
             clear ho6 hg6 hloc6))
        have HT6 : Hid (Fr w.heap.size X.foot w w6) := Lib.hid (HFR2.out.trans (Fr.of_below HB6.out))
        have HRO6 : Hid (RO X R v lv m L P base w0 st' w6) := Lib.hid (HRO2.out.keep H.out HB6.out)
        go_wp2
        go_ret
        exact ⟨_, ks, js, st1, st', rfl, HPK.out, HAL.out, HO6.out, HRO6.out, HT6.out⟩
end Go.Proofs.YtgoeoekdlcbmpaaGreatDoor
