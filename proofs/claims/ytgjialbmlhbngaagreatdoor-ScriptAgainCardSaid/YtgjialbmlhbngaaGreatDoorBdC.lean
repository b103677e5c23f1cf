/-
  A build: a step fails, and all that need it are left. A build: the bytes of a step's inputs. A build with no cache: Run.
-/
import Derived.Test.YtgjialbmlhbngaaGreatDoorBdB
import Derived.Test.YtgjialbmlhbngaaGreatDoorPkZ
import Derived.Test.YtgjialbmlhbngaaGreatDoorPkO
import Derived.BigQuiet
import Derived.Deep.RegionHeld3

set_option maxRecDepth 100000
namespace Go.Proofs.YtgjialbmlhbngaaGreatDoor
open Go Go.RowKit Go.Kf Go.Sort Go.Proofs
structure FailMid (l : List RuleL) (P : List Nat) (st cur : Nat → St) (i e : Nat) : Prop where
  at_ : cur i = { st i with state := 3, why := e }
  none : ∀ j, j ∉ P → cur j = st j
  rest : ∀ j ∈ P, j ≠ i → cur j = st j ∨ ((st j).state = 1 ∧ cur j = { st j with state := 4 } ∧ ∃ k ∈ edgesB l j, 3 ≤ (cur k).state)
theorem FailMid.start {l : List RuleL} {P : List Nat} {st : Nat → St} {i e : Nat} (hi : i ∈ P) : FailMid l P st (setSt st i { st i with state := 3, why := e }) i e :=
  ⟨setSt_at _ _ _, fun _ hj => setSt_ne _ (fun h => hj (h ▸ hi)), fun _ _ hji => Or.inl (setSt_ne _ hji)⟩
theorem FailMid.left {l : List RuleL} {P : List Nat} {st cur : Nat → St} {i e j : Nat} (h : FailMid l P st cur i e) (hj : j ∈ P) (hs : (cur j).state = 1) (hk : ∃ k ∈ edgesB l j, 3 ≤ (cur k).state) : FailMid l P st (setSt cur j { cur j with state := 4 }) i e := by
  have hji : j ≠ i := fun e => by subst e; rw [h.at_] at hs; cases hs
  have hmono : ∀ k, 3 ≤ (cur k).state → 3 ≤ (setSt cur j { cur j with state := 4 } k).state := fun k hk => by
    by_cases hkj : k = j
    · subst hkj; omega
    · rw [setSt_ne _ hkj]; exact hk
  have hcj : cur j = st j := by
    rcases h.rest j hj hji with h1 | ⟨-, h1, -⟩
    · exact h1
    · rw [h1] at hs; cases hs
  refine ⟨by rw [setSt_ne _ (Ne.symm hji)]; exact h.at_, fun k hkP => by rw [setSt_ne _ (fun (e' : k = j) => hkP (by rw [e']; exact hj))]; exact h.none k hkP, fun k hkP hki => ?_⟩
  by_cases hkj : k = j
  · subst hkj
    obtain ⟨q, hq, h3⟩ := hk
    exact Or.inr ⟨by rw [← hcj]; exact hs, by rw [setSt_at, hcj], q, hq, hmono q h3⟩
  · rw [setSt_ne _ hkj]
    rcases h.rest k hkP hki with h1 | ⟨h1, h2, q, hq, h3⟩
    · exact Or.inl h1
    · exact Or.inr ⟨h1, h2, q, hq, hmono q h3⟩
theorem FailMid.stop {l : List RuleL} {P : List Nat} {st cur : Nat → St} {i e : Nat} (h : FailMid l P st cur i e) (hc : ∀ j ∈ P, (cur j).state = 1 → ∀ k ∈ edgesB l j, (cur k).state < 3) : FailPost l P st cur i e := ⟨h.at_, h.none, h.rest, hc⟩
theorem wait_left {P : List Nat} {cur : Nat → St} {j : Nat} (hj : j ∈ P) (hs : (cur j).state = 1) : (waitL P (setSt cur j { cur j with state := 4 })).length < (waitL P cur).length := by
  refine wait_less hj hs (by rw [setSt_at]; exact Nat.succ_succ_ne_one 2) (fun k _ hk => ?_)
  by_cases hkj : k = j
  · subst hkj; rw [setSt_at] at hk; cases hk
  · rw [setSt_ne _ hkj] at hk; exact hk
def leaveB (l : List RuleL) (P : List Nat) (cur : Nat → St) (j : Nat) : Bool := (needsL l P j).any fun k => decide (3 ≤ ((cur k).state : Int))
theorem leaveB_iff {l : List RuleL} {P : List Nat} {cur : Nat → St} (hP : PartOk l P) {j : Nat} (hj : j ∈ P) : leaveB l P cur j = true ↔ ∃ k ∈ edgesB l j, 3 ≤ (cur k).state := by
  unfold leaveB
  rw [List.any_eq_true]
  constructor
  · rintro ⟨k, hk, h⟩
    have := of_decide_eq_true h
    exact ⟨k, (mem_needsL hP hj).1 hk, by omega⟩
  · rintro ⟨k, hk, h⟩
    exact ⟨k, (mem_needsL hP hj).2 hk, decide_eq_true (by omega)⟩
def waitW (D : BPl) (P : List Nat) (w : World) : Nat := (P.filter fun i => match w.cell? ⟨D.sb i, 4, none⟩ with
  | some (.int _ z) => decide (z = 1)
  | _ => false).length
theorem waitW_is {S : Nat → Addr} {l : List RuleL} {P : List Nat} {m : List Ent} {D : BPl} {w : World} {st : Nat → St} (h : BAt S l P m D w st) : waitW D P w = (waitL P st).length := by
  unfold waitW waitL
  rw [List.filter_congr (fun i hi => ?_)]
  rw [(h.at_ hi 4).trans (show (stRow S (l.getD i noR) (D.iv i) (st i))[4]? = some (Value.int .i64 ((st i).state : Int)) from rfl)]
  rw [Bool.eq_iff_iff, decide_eq_true_eq, decide_eq_true_eq]
  omega
def bitOf : Value → Nat
  | .bool true => 1
  | _ => 0
def ShutAt (l : List RuleL) (cur : Nat → St) (j : Nat) : Prop := (cur j).state = 1 → ∀ k ∈ edgesB l j, (cur k).state < 3
theorem leave_no {l : List RuleL} {P : List Nat} {cur : Nat → St} (hP : PartOk l P) {j : Nat} (hj : j ∈ P) (h : leaveB l P cur j = false) : ShutAt l cur j := fun _ k hk => by
  refine Nat.lt_of_not_le (fun h3 => ?_)
  rw [(leaveB_iff hP hj).2 ⟨k, hk, h3⟩] at h
  cases h
theorem put_state {S : Nat → Addr} {r : RuleL} {v : Value} {s : St} {w : World} {q : Nat} (h : w.heap[q]? = some (.cells (stRow S r v s) 151 (0, 0))) (z : Nat) :
    (w.setCell ⟨q, 4, none⟩ (.int .i64 (z : Int))).heap[q]? = some (.cells (stRow S r v { s with state := z }) 151 (0, 0)) := by
  have := Kf.heap_setCell_same h (o := 4) (Value.int .i64 (z : Int))
  rw [this]
  rfl
theorem put_why {S : Nat → Addr} {r : RuleL} {v : Value} {s : St} {w : World} {q : Nat} (h : w.heap[q]? = some (.cells (stRow S r v s) 151 (0, 0))) (e : Nat) :
    (w.setCell ⟨q, 7, none⟩ (errN S e)).heap[q]? = some (.cells (stRow S r v { s with why := e }) 151 (0, 0)) := by
  have := Kf.heap_setCell_same h (o := 7) (errN S e)
  rw [this]
  rfl
set_option maxHeartbeats 4000000 in
theorem bfail_any {S : Nat → Addr} {l : List RuleL} {P : List Nat} {m : List Ent} {D : BPl} {st : Nat → St} (w : World) (h : BAt S l P m D w st) (hP : PartOk l P) {i : Nat} (hi : i ∈ P) (e : Nat) (he : e ≠ 0) (hn : ∀ r ∈ l, r.ins.length ≤ 1000) :
    Calls Tryz.prog 94 #[ptrV D.b, ptrV (D.sb i), errN S e] w fun r w' => r = .returned (.tuple #[]) ∧ ∃ st', FailPost l P st st' i e ∧ BAt S l P m D w' st' ∧ Fr w.heap.size (D.steps P) w w' := by
  have hc0 := fun k => h.at_ hi k
  have hf0 := fun k => h.free hi k
  have H := Hd h
  have hst := h.step i hi
  have HST := Hd hst
  have HHN := Hd hn
  have c4 := (hc0 4).trans (show (stRow S (l.getD i noR) (D.iv i) (st i))[4]? = some (Value.int .i64 ((st i).state : Int)) from rfl)
  have c7 := (hc0 7).trans (show (stRow S (l.getD i noR) (D.iv i) (st i))[7]? = some (errN S (st i).why) from rfl)
  have f4 := hf0 4
  have f7 := hf0 7
  obtain ⟨ad, hev⟩ : ∃ ad, errN S e = errI ad := by
    unfold errN
    rw [if_neg he]
    exact ⟨_, rfl⟩
  have HEV := Hd hev
  have H0 : Hid (∃ cur, BAt S l P m D ((w.setCell ⟨D.sb i, 4, none⟩ (.int .i64 3)).setCell ⟨D.sb i, 7, none⟩ (errI ad)) cur ∧ FailMid l P st cur i e ∧ Fr w.heap.size (D.steps P) w ((w.setCell ⟨D.sb i, 4, none⟩ (.int .i64 3)).setCell ⟨D.sb i, 7, none⟩ (errI ad))) := Hd (by
    have hF : Fr w.heap.size (fun k => k = D.sb i) w ((w.setCell ⟨D.sb i, 4, none⟩ (.int .i64 3)).setCell ⟨D.sb i, 7, none⟩ (errI ad)) := Fr.setCell (S := fun k => k = D.sb i) (p := ⟨D.sb i, 7, none⟩) (Fr.setCell (S := fun k => k = D.sb i) (p := ⟨D.sb i, 4, none⟩) (Fr.refl w.heap.size _ w) (fun _ => rfl) _) (fun _ => rfl) _
    have hrow := put_why (put_state hst 3) e
    rw [hev] at hrow
    exact ⟨_, h.put hi hF hrow, FailMid.start hi, hF.mono (Nat.le_refl _) (fun k _ hk => ⟨i, hi, hk⟩)⟩)
  rw [hev]
  clear h hst hc0 hf0 hn hev
  go_enter Tryz.func94, Tryz.ntmps94
  go_wp2_with fail
  clear c4 c7 f4 f7
  go_loopw [6] (fun av wl => ∃ (ag : Bool) (cur : Nat → St), av = .bool ag ∧ BAt S l P m D wl cur ∧ FailMid l P st cur i e ∧ (ag = false → ∀ j ∈ P, ShutAt l cur j) ∧ Fr w.heap.size (D.steps P) w wl) (fun av wl => waitW D P wl + bitOf av)
  case atStart =>
    obtain ⟨cur, h1, h2, h3⟩ := H0.out
    exact ⟨true, cur, rfl, h1, h2, (fun h => by cases h), h3⟩
  case round =>
    obtain ⟨ag, cur, rfl, hat, hmid, hsh, hfr⟩ := hrel
    have HAT := Hd hat
    have HMID := Hd hmid
    have HFR := Hd hfr
    have HWW := Hd (waitW_is hat)
    cases ag with
    | false =>
      have HSH := Hd (hsh rfl)
      clear hat hmid hsh hfr
      go_wp2
      go_end0
      exact ⟨rfl, cur, HMID.out.stop HSH.out, HAT.out, HFR.out⟩
    | true =>
      obtain ⟨-, hc1, -, -⟩ := hat.cells
      obtain ⟨w1, hrg, hR, hb1⟩ := Ranging.start (P := Tryz.prog) stepUnd hat.stat.lm
      have HR1 := Hd hR
      have HB1 := Hd hb1
      obtain ⟨r, hr⟩ : ∃ r, wr.heap.size = r := ⟨_, rfl⟩
      have HRR := Hd hr
      rw [hr] at hrg HR1
      clear hat hmid hsh hfr hR hb1 hr
      go_wp2_with fail
      have H1 := Hd (HAT.out.below HB1.out)
      have HF1 := Hd (HFR.out.trans ((Fr.of_below HB1.out).mono HFR.out.size (fun _ _ h => h)))
      go_loopw [6] (fun av wl => ∃ (lf : List Nat) (ag : Bool) (cur2 : Nat → St), av = .bool ag ∧ Ranging (Value.int .i64) ptrV D.lb r (stepM D P) (stepM D lf) wl ∧ (∀ k ∈ lf, k ∈ P) ∧ BAt S l P m D wl cur2 ∧ FailMid l P st cur2 i e ∧ (ag = true → (waitL P cur2).length < (waitL P cur).length) ∧ (ag = false → cur2 = cur ∧ ∀ j ∈ P, j ∈ lf ∨ ShutAt l cur j) ∧ Fr w.heap.size (D.steps P) w wl ∧ w1.heap.size ≤ wl.heap.size) (fun _ wl => iterLeft wl D.lb r)
      case atStart => exact ⟨P, false, cur, rfl, HR1.out, fun _ h => h, H1.out, HMID.out, (fun h => by cases h), fun _ => ⟨rfl, fun j hj => Or.inl hj⟩, HF1.out, Nat.le_refl _⟩
      case round =>
        obtain ⟨lf, ag, cur2, rfl, hR, hsub, hat2, hmid2, hless, hsame, hfr2, hz2⟩ := hrel
        have HSUB := Hd hsub
        have HAT2 := Hd hat2
        have HMID2 := Hd hmid2
        have HLESS := Hd hless
        have HSAME := Hd hsame
        have HFR2 := Hd hfr2
        have HZ2 := Hd hz2
        have HI := Hd (iterLeft_of hR)
        clear hsub hless hsame hmid2
        rcases hR.next (P := Tryz.prog) 0 with ⟨h0, hnx⟩ | ⟨ix, hix, w3, hnx, hR3, hF3, hz3, hen⟩
        · have h00 : lf = [] := List.map_eq_nil_iff.1 h0
          subst h00
          have HW2 := Hd (waitW_is hat2)
          clear hR h0 hat2 hfr2 hz2
          go_wp2
          go_roundw
          case rel => exact ⟨ag, cur2, rfl, HAT2.out, HMID2.out, fun h => by
            obtain ⟨e1, e2⟩ := HSAME.out h
            rw [e1]
            exact fun j hj => (e2 j hj).resolve_left (by simp), HFR2.out⟩
          case measure =>
            rw [HWW.out, HW2.out]
            cases ag with
            | true => have := HLESS.out rfl; simp [bitOf]; omega
            | false => rw [(HSAME.out rfl).1]; simp [bitOf]
        · have hil : ix < lf.length := by rw [stepM_len] at hix; exact hix
          rw [stepM_at D hil hix] at hnx hen
          rw [stepM_erase] at hR3
          have HR3 := Hd hR3
          have hrlt := HR1.out.lt.2
          have hrw := HRR.out
          have hlbr : ∀ k, D.has P k → k ≠ r := fun k hk e => by have := HAT.out.lt hk; omega
          have hat3 : BAt S l P m D w3 cur2 := hat2.of_fr hF3 (fun k hk => ⟨hat2.lt hk, hlbr k hk⟩)
          have HAT3 := Hd hat3
          have HF3 : Hid (Fr w.heap.size (D.steps P) w w3) := Hd (hfr2.trans ((hF3.mono (S' := D.steps P) (B' := w.heap.size) hfr2.size (fun k hk e => by have := HFR.out.size; omega))))
          have HKP := Hd (HSUB.out _ (List.getElem_mem hil))
          have HSB : Hid (∀ k ∈ lf.eraseIdx ix, k ∈ P) := Hd (fun k hk => HSUB.out k (List.mem_of_mem_eraseIdx hk))
          have HMEM : Hid (∀ j, j ∈ lf → j = lf[ix] ∨ j ∈ lf.eraseIdx ix) := Hd (fun j hj => mem_eraseIdx hil hj)
          have HLL : Hid ((lf.eraseIdx ix).length < lf.length) := Hd (by rw [List.length_eraseIdx, if_pos hil]; omega)
          have HZ3 : Hid (w1.heap.size ≤ w3.heap.size) := Hd (by have := HZ2.out; omega)
          clear hR hR3 hF3 hix hfr2 hz2 hat2 hz3 hlbr hrlt hrw
          generalize lf[ix] = k at *
          generalize lf.eraseIdx ix = lf2 at *
          clear hil
          have h4 := (hat3.at_ HKP.out 4).trans (show (stRow S (l.getD k noR) (D.iv k) (cur2 k))[4]? = some (Value.int .i64 ((cur2 k).state : Int)) from rfl)
          clear hat3
          by_cases hs1 : (cur2 k).state = 1
          · have hs2 : (((cur2 k).state : Int) == 1) = true := by
              have : ((cur2 k).state : Int) = 1 := by omega
              simpa using this
            have KN := Hd (bneeds_any w3 HAT3.out hP HKP.out HHN.out)
            have KA := Hd (fun (wl : World) (hb : Below w3.heap.size w3 wl) (v : Value) (hr : Reads wl v (((needsL l P k).map D.sb).map ptrV)) =>
              anyStep_any (askB D P fun j => decide (3 ≤ ((cur2 j).state : Int))) 162 v ((needsL l P k).map D.sb) wl hr ⟨fun _ _ => rfl, fun W x hx hW => by
                obtain ⟨j, hj, rfl⟩ := List.mem_map.1 hx
                have hjP := needsL_in hP HKP.out j hj
                have hb2 := hb.trans (hW.mono hb.size)
                rw [askB_at _ HAT3.out.stat.inj hjP]
                have := bfail1_any (D.sb j) ((cur2 j).state : Int) W (((HAT3.out.below hb2).at_ hjP 4).trans (show (stRow S (l.getD j noR) (D.iv j) (cur2 j))[4]? = some (Value.int .i64 ((cur2 j).state : Int)) from rfl))
                simpa using this⟩)
            have HE : Hid (((needsL l P k).map D.sb).any (askB D P fun j => decide (3 ≤ ((cur2 j).state : Int))) = leaveB l P cur2 k) := Hd (askB_any _ HAT3.out.stat.inj (needsL_in hP HKP.out))
            rw [HE.out] at KA
            have HS1 := Hd hs1
            clear hs1 HE
            go_wp2_with fail
            refine KN.out.mono ?_
            rintro e' w4 ⟨u, rfl, hown, hb4⟩
            have KA1 := Hd (KA.out w4 hb4 u (ownsRow_reads hown))
            have HB4 := Hd hb4
            clear hown hb4 KA KN
            go_wp2_with fail
            refine KA1.out.mono ?_
            rintro e' w5 ⟨rfl, hb5⟩
            have hb35 := HB4.out.trans (hb5.mono HB4.out.size)
            have HB35 := Hd hb35
            have hat5 := HAT3.out.below hb35
            have HAT5 := Hd hat5
            have hf5 := hat5.free HKP.out 4
            have h45 := (hat5.at_ HKP.out 4).trans (show (stRow S (l.getD k noR) (D.iv k) (cur2 k))[4]? = some (Value.int .i64 ((cur2 k).state : Int)) from rfl)
            have HR5 := Hd (HR3.out.of_blocks (hb35.block _ HR3.out.lt.1) (hb35.block _ HR3.out.lt.2))
            have HF5 : Hid (Fr w.heap.size (D.steps P) w w5) := Hd (HF3.out.trans ((Fr.of_below hb35).mono HF3.out.size (fun _ _ h => h)))
            have HZ5 : Hid (w1.heap.size ≤ w5.heap.size) := Hd (Nat.le_trans HZ3.out hb35.size)
            clear hb5 hb35 hat5 h4 KA1
            cases hlv : leaveB l P cur2 k with
            | true =>
              have hk3 := (leaveB_iff hP HKP.out).1 hlv
              have H6 : Hid (BAt S l P m D (w5.setCell ⟨D.sb k, 4, none⟩ (.int .i64 4)) (setSt cur2 k { cur2 k with state := 4 })) := Hd (by
                have hF : Fr w5.heap.size (fun q => q = D.sb k) w5 (w5.setCell ⟨D.sb k, 4, none⟩ (.int .i64 4)) := Fr.setCell (S := fun q => q = D.sb k) (p := ⟨D.sb k, 4, none⟩) (Fr.refl w5.heap.size _ w5) (fun _ => rfl) _
                exact HAT5.out.put HKP.out hF (put_state (HAT5.out.step k HKP.out) 4))
              have HR6 : Hid (Ranging (Value.int .i64) ptrV D.lb r (stepM D P) (stepM D lf2) (w5.setCell ⟨D.sb k, 4, none⟩ (.int .i64 4))) := Hd (by
                have hne1 : D.lb ≠ D.sb k := fun e => HAT5.out.apart (Or.inr (Or.inl rfl)) ⟨k, HKP.out, e⟩
                have hne2 : r ≠ D.sb k := fun e => by
                  have h1 := HAT.out.lt (Or.inr ⟨k, HKP.out, rfl⟩ : D.has P (D.sb k))
                  have h2 := HRR.out
                  omega
                exact HR5.out.of_blocks (Below.heap_setCell _ _ _ _ hne1) (Below.heap_setCell _ _ _ _ hne2))
              have HF6 : Hid (Fr w.heap.size (D.steps P) w (w5.setCell ⟨D.sb k, 4, none⟩ (.int .i64 4))) := Hd (Fr.setCell (S := D.steps P) (p := ⟨D.sb k, 4, none⟩) HF5.out (fun _ => ⟨k, HKP.out, rfl⟩) _)
              have HM6 := Hd (HMID2.out.left HKP.out HS1.out hk3)
              have HL6 : Hid ((waitL P (setSt cur2 k { cur2 k with state := 4 })).length < (waitL P cur).length) := Hd (by
                have h1 := wait_left HKP.out HS1.out
                cases ag with
                | true => have := HLESS.out rfl; omega
                | false => rw [(HSAME.out rfl).1] at h1 ⊢; exact h1)
              have HZ6 : Hid (w1.heap.size ≤ (w5.setCell ⟨D.sb k, 4, none⟩ (.int .i64 4)).heap.size) := Hd (by have := HZ5.out; simpa [World.setCell] using this)
              clear hk3
              go_wp2
              go_roundw
              case rel => exact ⟨lf2, true, _, rfl, HR6.out, HSB.out, H6.out, HM6.out, fun _ => HL6.out, (fun h => by cases h), HF6.out, HZ6.out⟩
              case measure => rw [iterLeft_of HR6.out, HI.out, stepM_len, stepM_len]; exact HLL.out
            | false =>
              have HNO := Hd (leave_no hP HKP.out hlv)
              go_wp2
              go_roundw
              case rel => exact ⟨lf2, ag, cur2, rfl, HR5.out, HSB.out, HAT5.out, HMID2.out, HLESS.out, fun h => by
                obtain ⟨e1, e2⟩ := HSAME.out h
                refine ⟨e1, fun j hj => ?_⟩
                rcases e2 j hj with h1 | h1
                · rcases HMEM.out j h1 with rfl | h2
                  · exact Or.inr (by rw [← e1]; exact HNO.out)
                  · exact Or.inl h2
                · exact Or.inr h1, HF5.out, HZ5.out⟩
              case measure => rw [iterLeft_of HR5.out, HI.out, stepM_len, stepM_len]; exact HLL.out
          · have hs2 : (((cur2 k).state : Int) == 1) = false := by
              have : ¬ ((cur2 k).state : Int) = 1 := by omega
              simpa using this
            have HNO : Hid (ShutAt l cur2 k) := Hd (fun h => absurd h hs1)
            clear hs1
            go_wp2
            go_roundw
            case rel => exact ⟨lf2, ag, cur2, rfl, HR3.out, HSB.out, HAT3.out, HMID2.out, HLESS.out, fun h => by
                obtain ⟨e1, e2⟩ := HSAME.out h
                refine ⟨e1, fun j hj => ?_⟩
                rcases e2 j hj with h1 | h1
                · rcases HMEM.out j h1 with rfl | h2
                  · exact Or.inr (by rw [← e1]; exact HNO.out)
                  · exact Or.inl h2
                · exact Or.inr h1, HF3.out, HZ3.out⟩
            case measure => rw [iterLeft_of HR3.out, HI.out, stepM_len, stepM_len]; exact HLL.out
theorem inP_by {l : List RuleL} {P : List Nat} {T : Look} {st : Nat → St} (hP : PartOk l P) {s : List UInt8} {k : Nat} (h : mlook s (byL l P) = some k) : k ∈ P ∧ inP l P T st s = some (st k).out := by
  obtain ⟨h1, rfl⟩ := (byL_look hP s k).1 h
  exact ⟨h1, inP_made hP h1⟩
theorem inP_no {l : List RuleL} {P : List Nat} {T : Look} {st : Nat → St} (hP : PartOk l P) {s : List UInt8} (h : mlook s (byL l P) = none) : inP l P T st s = T s :=
  inP_file (fun k hk e => by rw [(byL_look hP s k).2 ⟨hk, e⟩] at h; cases h)
def InsAns (l : List RuleL) (P : List Nat) (T : Look) (st : Nat → St) (i B : Nat) (e : Ending) (w' : World) : Prop :=
  (∃ (ins : List (List UInt8)) (u : Value), (l.getD i noR).ins.map (inP l P T st) = ins.map some ∧ e = .returned (.tuple #[u, .bool true]) ∧ w'.ownsRow B 9 1 u ins.length (ins.map str)) ∨
  ((∃ s ∈ (l.getD i noR).ins, inP l P T st s = none) ∧ e = .returned (.tuple #[.slice none 0 0, .bool false]))
set_option maxHeartbeats 2000000 in
theorem binputs_any {S : Nat → Addr} {l : List RuleL} {P : List Nat} {m : List Ent} {D : BPl} {st : Nat → St} (w : World) (h : BAt S l P m D w st) (hP : PartOk l P) {i : Nat} (hi : i ∈ P) (hn : ∀ r ∈ l, r.ins.length ≤ 1000) :
    Calls Tryz.prog 93 #[ptrV D.b, ptrV (D.sb i)] w fun e w' => InsAns l P (fun p => mlook p m) st i w.heap.size e w' ∧ Below w.heap.size w w' := by
  have h3 := (h.at_ hi 3).trans (show (stRow S (l.getD i noR) (D.iv i) (st i))[3]? = some (D.iv i) from rfl)
  have HAT : Hid (∀ wl, Below w.heap.size w wl → BAt S l P m D wl st) := Hd (fun wl hb => h.below hb)
  have hins := ownsRow_reads (h.stat.ins i hi)
  have HIN := Hd (fun wl (hb : Below w.heap.size w wl) => hins.below0 hb)
  have hlen : (l.getD i noR).ins.length ≤ 1000 := by
    rw [getD_at (hP.lt i hi)]
    exact hn _ (List.getElem_mem _)
  obtain ⟨a, c, hv, -, -⟩ := id hins
  rw [List.length_map] at hv
  have HBY := Hd (fun s k (hk : mlook s (byL l P) = some k) => inP_by (T := fun p => mlook p m) (st := st) hP hk)
  have HNO := Hd (fun s (hk : mlook s (byL l P) = none) => inP_no (T := fun p => mlook p m) (st := st) hP hk)
  have HANS : Hid (∀ e w', InsAns l P (fun p => mlook p m) st i w.heap.size e w' ↔ (∃ (ys : List (List UInt8)) (u : Value), (l.getD i noR).ins.map (inP l P (fun p => mlook p m) st) = ys.map some ∧ e = .returned (.tuple #[u, .bool true]) ∧ w'.ownsRow w.heap.size 9 1 u ys.length (ys.map str)) ∨
    ((∃ s ∈ (l.getD i noR).ins, inP l P (fun p => mlook p m) st s = none) ∧ e = .returned (.tuple #[.slice none 0 0, .bool false]))) := Hd (fun _ _ => Iff.rfl)
  generalize (l.getD i noR).ins = ins at *
  rw [hv] at h3 HIN
  clear h hins hv hn
  go_enter Tryz.func93, Tryz.ntmps93
  go_wp2_with fail
  have hz := (Below.refl w.heap.size w).size
  go_loopw [6, 19] (fun uv iv wl => ∃ (j : Nat) (ys : List (List UInt8)), j ≤ ins.length ∧ iv = .int .i64 j ∧ (ins.take j).map (inP l P (fun p => mlook p m) st) = ys.map some ∧ wl.ownsRow w.heap.size 9 1 uv ys.length (ys.map str) ∧ Below w.heap.size w wl) (fun _ iv _ => ins.length - (intOf iv).toNat)
  case atStart => exact ⟨0, [], by omega, rfl, rfl, World.ownsRow_nil _ _ _ _, Below.refl _ _⟩
  case round =>
    obtain ⟨j, ys, hj, rfl, hys, hown, hbj⟩ := hrel
    have HO := Hd hown
    have HB := Hd hbj
    have HYS := Hd hys
    have hzj := hbj.size
    have hyl : ys.length ≤ 1000 := by
      have h1 := congrArg List.length hys
      rw [List.length_map, List.length_map, List.length_take] at h1
      omega
    clear hys
    by_cases hlt : j < ins.length
    · have hlc : ((j : Int) < (ins.length : Int)) = True := eq_true (by omega)
      obtain ⟨b, o, hix, hce⟩ := (HIN.out _ hbj).at (P := Tryz.prog) Tryz.underlying33 (by kernel_rfl) j (by simpa using hlt)
      simp only [List.getElem_map] at hce
      have HTK : Hid (∀ y, inP l P (fun p => mlook p m) st ins[j] = some y → (ins.take (j + 1)).map (inP l P (fun p => mlook p m) st) = (ys ++ [y]).map some) := Hd (fun y hy => by
        rw [List.take_succ_eq_append_getElem hlt, List.map_append, HYS.out, List.map_append, List.map_singleton, hy]
        rfl)
      have HGO : Hid (inP l P (fun p => mlook p m) st ins[j] = none → ∃ s ∈ ins, inP l P (fun p => mlook p m) st s = none) := Hd (fun h => ⟨_, List.getElem_mem hlt, h⟩)
      generalize ins[j] = s at *
      have hat := HAT.out wr hbj
      obtain ⟨hd0, hd1, hd2, -⟩ := hat.cells
      have hl1 := hat.stat.bm.lookup (P := Tryz.prog) byKey byUnd byZero s true
      simp only [if_true] at hl1
      cases hk : mlook s (byL l P) with
      | some k =>
        rw [hk] at hl1
        simp only [Option.map_some, Option.getD_some, Option.isSome_some] at hl1
        obtain ⟨hkP, hin⟩ := HBY.out s k hk
        have hl2 := hat.stat.lm.lookup (P := Tryz.prog) needKey stepUnd stepZero (k : Int) false
        rw [stepM_look, if_pos hkP] at hl2
        simp only [Bool.false_eq_true, if_false, Option.map_some, Option.getD_some] at hl2
        have h6 := (hat.at_ hkP 6).trans (show (stRow S (l.getD k noR) (D.iv k) (st k))[6]? = some (str (st k).out) from rfl)
        have HTK2 := Hd (HTK.out _ hin)
        generalize (st k).out = y at *
        clear hown hbj hk hat hkP hin
        go_wp2_with (first
          | (at_builtin
             refine wpList_app _ rfl _ _ 33 rfl tyStrsK w.heap.size _ _ _ rfl (HO.out.alloc _) ⟨wr.heap.size, 0, none⟩ 1 1 [str y] rfl rfl (news_one ?_) ?_ (by decide) ?_ ?_ ?_
             · rw [cell_of_heap (heap_alloc_here wr _)]; rfl
             · intro u hu; simp at hu; subst hu; rfl
             · omega
             · simp; omega
             intro v6 w6 ho6 hg6 hloc6
             have HO6 : Hid (w6.ownsRow w.heap.size 9 1 v6 (ys ++ [y]).length ((ys ++ [y]).map str)) := Hd (by simpa using ho6)
             have HB6 : Hid (Below w.heap.size w w6) := Hd ((HB.out.alloc hzj _).grown hg6 (by simp; omega) (fun q hq => (HO.out.lt q hq).1))
             clear ho6 hg6 hloc6))
        go_wp2
        go_roundw
        case rel => exact ⟨j + 1, ys ++ [y], by omega, by go_num, HTK2.out, HO6.out, HB6.out⟩
        case measure => simp [intOf]; omega
      | none =>
        rw [hk] at hl1
        simp only [Option.map_none, Option.getD_none, Option.isSome_none] at hl1
        have hin := HNO.out s hk
        have KG := Hd (get_tree D.tb D.mb m s wr hat.stat.tree)
        cases hf : mlook s m with
        | some y =>
          rw [hf] at KG hin
          have HTK2 := Hd (HTK.out y hin)
          clear hown hbj hk hat hin hd1
          go_wp2_with fail
          refine KG.out.mono ?_
          rintro e w5 ⟨rfl, rfl⟩
          simp only [Option.getD_some, Option.isSome_some]
          go_wp2_with (first
            | (at_builtin
               refine wpList_app _ rfl _ _ 33 rfl tyStrsK w.heap.size _ _ _ rfl (HO.out.alloc _) ⟨wr.heap.size, 0, none⟩ 1 1 [str y] rfl rfl (news_one ?_) ?_ (by decide) ?_ ?_ ?_
               · rw [cell_of_heap (heap_alloc_here wr _)]; rfl
               · intro u hu; simp at hu; subst hu; rfl
               · omega
               · simp; omega
               intro v6 w6 ho6 hg6 hloc6
               have HO6 : Hid (w6.ownsRow w.heap.size 9 1 v6 (ys ++ [y]).length ((ys ++ [y]).map str)) := Hd (by simpa using ho6)
               have HB6 : Hid (Below w.heap.size w w6) := Hd ((HB.out.alloc hzj _).grown hg6 (by simp; omega) (fun q hq => (HO.out.lt q hq).1))
               clear ho6 hg6 hloc6))
          go_wp2
          go_roundw
          case rel => exact ⟨j + 1, ys ++ [y], by omega, by go_num, HTK2.out, HO6.out, HB6.out⟩
          case measure => simp [intOf]; omega
        | none =>
          rw [hf] at KG hin
          have HGO2 := Hd (HGO.out hin)
          clear hown hbj hk hat hin hd1
          go_wp2_with fail
          refine KG.out.mono ?_
          rintro e w5 ⟨rfl, rfl⟩
          simp only [Option.getD_none, Option.isSome_none]
          go_wp2
          go_ret2
          exact ⟨(HANS.out _ _).2 (Or.inr ⟨HGO2.out, rfl⟩), HB.out⟩
    · obtain rfl : j = ins.length := by omega
      have hlc : ((ins.length : Int) < (ins.length : Int)) = False := eq_false (by omega)
      rw [List.take_length] at HYS
      clear hown hbj
      go_wp2
      go_ret2
      exact ⟨(HANS.out _ _).2 (Or.inl ⟨ys, _, HYS.out, rfl, HO.out⟩), HB.out⟩
structure BErr (w : World) (S : Nat → Addr) : Prop where
  k : KErr w S
  l : LErr w S
  t : TErr w S
  turn : w.cell? ⟨6, 0, none⟩ = some (errV (S 10))
  done : w.cell? ⟨5, 0, none⟩ = some (errV (S 11))
theorem BErr.below {w w' : World} {S : Nat → Addr} (h : BErr w S) (hb : Below w.heap.size w w') : BErr w' S :=
  ⟨h.k.below hb (Nat.le_refl _), h.l.below hb (Nat.le_refl _), h.t.below hb (Nat.le_refl _), (hb.cell (lt_of_cell h.turn)).trans h.turn, (hb.cell (lt_of_cell h.done)).trans h.done⟩
theorem bErr_of_errW {w : World} {S : Nat → Addr} (h : ErrW w S) : BErr w S :=
  ⟨kErr_of_errW h, lErr_of_errW h, tErr_of_errW h, h.var 10 (by decide), h.var 11 (by decide)⟩
structure BEnv (S : Nat → Addr) (l : List RuleL) (m : List Ent) (w : World) : Prop where
  ml : Ml w
  err : BErr w S
  num : NErr w
  tab : Tab w
  short : ∀ r ∈ l, r.out.length ≤ 1000000 ∧ r.kind.length ≤ 1000 ∧ r.word.length ≤ 1000 ∧ (∀ s ∈ r.ins, s.length ≤ 1000000) ∧ r.ins.length ≤ 1000
  files : ∀ p b, mlook p m = some b → b.length ≤ 2000
theorem BEnv.below {S : Nat → Addr} {l : List RuleL} {m : List Ent} {w w' : World} (h : BEnv S l m w) (hb : Below w.heap.size w w') : BEnv S l m w' :=
  ⟨h.ml.below hb (Nat.le_refl _), h.err.below hb, h.num.below hb (Nat.le_refl _), tab_below h.tab hb (Nat.le_refl _), h.short, h.files⟩
theorem BEnv.lens {S : Nat → Addr} {l : List RuleL} {m : List Ent} {w : World} (h : BEnv S l m w) : ∀ r ∈ l, r.ins.length ≤ 1000 := fun r hr => (h.short r hr).2.2.2.2
theorem errN_two (S : Nat → Addr) (c : Nat) : (c = 0 ∧ errN S c = .nilIface) ∨ (c ≠ 0 ∧ ∃ ad, errN S c = errI ad) := by
  unfold errN
  split
  · rename_i h; exact Or.inl ⟨h, rfl⟩
  · rename_i h; exact Or.inr ⟨h, _, rfl⟩
theorem ins_short {l : List RuleL} {P : List Nat} {T : Look} {st : Nat → St} (hP : PartOk l P) (hi : BInv l P T st) (hT : ∀ p b, T p = some b → b.length ≤ 2000) {i : Nat} (hiP : i ∈ P) (hd : ∀ k ∈ edgesB l i, (st k).state = 2) {ins : List (List UInt8)} (hins : (l.getD i noR).ins.map (inP l P T st) = ins.map some) : ∀ s ∈ ins, s.length ≤ 2000 := by
  rw [ins_same hP hi hiP hd hins]
  intro s hs
  obtain ⟨p, -, rfl⟩ := List.mem_map.1 hs
  exact (toldOk_want hT p).len
theorem put_out {S : Nat → Addr} {r : RuleL} {v : Value} {s : St} {w : World} {q : Nat} (h : w.heap[q]? = some (.cells (stRow S r v s) 151 (0, 0))) (b : List UInt8) :
    (w.setCell ⟨q, 6, none⟩ (str b)).heap[q]? = some (.cells (stRow S r v { s with out := b }) 151 (0, 0)) := by
  have := Kf.heap_setCell_same h (o := 6) (str b)
  rw [this]
  rfl
theorem put_done {S : Nat → Addr} {l : List RuleL} {P : List Nat} {m : List Ent} {D : BPl} {w : World} {st : Nat → St} (h : BAt S l P m D w st) {k : Nat} (hk : k ∈ P) (hs : (st k).hit = false ∧ (st k).out = [] ∧ (st k).why = 0) (b : List UInt8) :
    BAt S l P m D ((w.setCell ⟨D.sb k, 6, none⟩ (str b)).setCell ⟨D.sb k, 4, none⟩ (.int .i64 2)) (setSt st k ⟨2, false, b, 0⟩) ∧ Fr w.heap.size (D.steps P) w ((w.setCell ⟨D.sb k, 6, none⟩ (str b)).setCell ⟨D.sb k, 4, none⟩ (.int .i64 2)) := by
  have hF : Fr w.heap.size (fun q => q = D.sb k) w ((w.setCell ⟨D.sb k, 6, none⟩ (str b)).setCell ⟨D.sb k, 4, none⟩ (.int .i64 2)) := Fr.setCell (S := fun q => q = D.sb k) (p := ⟨D.sb k, 4, none⟩) (Fr.setCell (S := fun q => q = D.sb k) (p := ⟨D.sb k, 6, none⟩) (Fr.refl w.heap.size _ w) (fun _ => rfl) _) (fun _ => rfl) _
  have hrow := put_state (put_out (h.step k hk) b) 2
  have e : ({ ({ st k with out := b } : St) with state := 2 } : St) = ⟨2, false, b, 0⟩ := by
    obtain ⟨h1, -, h3⟩ := hs
    generalize st k = s at *
    obtain ⟨z, hi, o, y⟩ := s
    simp only at h1 h3
    subst h1
    subst h3
    rfl
  rw [e] at hrow
  exact ⟨h.put hk hF hrow, hF.mono (Nat.le_refl _) (fun q _ hq => ⟨k, hk, hq⟩)⟩
set_option maxHeartbeats 4000000 in
theorem brunN_any {S : Nat → Addr} {l : List RuleL} {P : List Nat} {m : List Ent} {D : BPl} {st : Nat → St} (w : World) (h : BAt S l P m D w st) (hP : PartOk l P) (hV : BEnv S l m w) (hi : BInv l P (fun p => mlook p m) st) (hc : D.cv = .pointer none) (i : Int) :
    Calls Tryz.prog 36 #[ptrV D.b, .int .i64 i] w fun e w' => ∃ hit code st', e = .returned (.tuple #[.bool hit, errN S code]) ∧ RunRel l P (fun p => mlook p m) none st i hit code none st' ∧ BAt S l P m D w' st' ∧ Fr w.heap.size (D.steps P) w w' := by
  obtain ⟨-, hc1, -, hc3⟩ := h.cells
  have H := Hd h
  have HV := Hd hV
  by_cases hno : ∀ (k : Nat), k ∈ P → i ≠ (k : Int)
  · have hlk := step_none h hno
    have v5 := hV.err.l
    unfold LErr at v5
    clear h hV
    go_enter Tryz.func36, Tryz.ntmps36
    go_wp2_with fail
    go_quiet (fail)
    go_wp2
    go_ret2
    exact ⟨false, 6, st, rfl, .none hno, by first | exact H.out | exact H.out.drewN _, by first | exact Fr.refl _ _ _ | exact (Fr.refl _ _ _).drewN _⟩
  obtain ⟨k, hk, rfl⟩ : ∃ k : Nat, k ∈ P ∧ i = (k : Int) := Classical.byContradiction (fun hh => hno (fun k hk e => hh ⟨k, hk, e⟩))
  have hlk := step_some h hk
  have h4 := (h.at_ hk 4).trans (show (stRow S (l.getD k noR) (D.iv k) (st k))[4]? = some (Value.int .i64 ((st k).state : Int)) from rfl)
  clear hno
  by_cases hs : (st k).state = 1
  case neg =>
    have hs2 : (((st k).state : Int) == 1) = false := by
      have : ¬ ((st k).state : Int) = 1 := by omega
      simpa using this
    have v11 := hV.err.done
    clear h hV
    go_enter Tryz.func36, Tryz.ntmps36
    go_wp2_with fail
    go_quiet (fail)
    go_wp2
    go_ret2
    exact ⟨false, 12, st, rfl, .done hk hs, by first | exact H.out | exact H.out.drewN _, by first | exact Fr.refl _ _ _ | exact (Fr.refl _ _ _).drewN _⟩
  have hs2 : (((st k).state : Int) == 1) = true := by
    have : ((st k).state : Int) = 1 := by omega
    simpa using this
  have KR := Hd (bready_any w h hP hk hV.lens)
  cases hrd : readyB l st k with
  | false =>
    rw [hrd] at KR
    have HNR : Hid (¬ ReadyP l st k) := Hd (fun hr => by rw [readyB_iff.2 hr] at hrd; cases hrd)
    have HS := Hd hs
    clear h hV hrd hs
    go_enter Tryz.func36, Tryz.ntmps36
    go_wp2_with fail
    refine KR.out.mono ?_
    rintro e w1 ⟨rfl, hb1⟩
    have v10 := (HV.out.below hb1).err.turn
    have HB1 := Hd hb1
    clear hb1
    go_wp2_with fail
    go_quiet (fail)
    go_wp2
    go_ret2
    exact ⟨false, 11, st, rfl, .turn hk HS.out HNR.out, by first | exact H.out.below HB1.out | exact (H.out.below HB1.out).drewN _, by first | exact Fr.of_below HB1.out | exact (Fr.of_below HB1.out).drewN _⟩
  | true =>
    rw [hrd] at KR
    have HRD : Hid (ReadyP l st k) := Hd (readyB_iff.1 hrd)
    have HBI := Hd hi
    have HPP := Hd hP
    have HKP := Hd hk
    clear h hV hrd hs hi
    go_enter Tryz.func36, Tryz.ntmps36
    go_wp2_with fail
    refine KR.out.mono ?_
    rintro e w1 ⟨rfl, hb1⟩
    have HB1 := Hd hb1
    have h1 := H.out.below hb1
    have H1 := Hd h1
    have KI := Hd (binputs_any w1 h1 hP hk HV.out.lens)
    clear hb1 h1 h4 hs2
    go_wp2_with fail
    refine KI.out.mono ?_
    rintro e w2 ⟨ha, hb2⟩
    have hb02 := HB1.out.trans (hb2.mono HB1.out.size)
    have HB2 := Hd hb02
    have h2 := H.out.below hb02
    have H2 := Hd h2
    have hv2 := HV.out.below hb02
    have HV2 := Hd hv2
    rcases ha with ⟨ins, u, hins, rfl, hown⟩ | ⟨hg, rfl⟩
    case inr =>
      have v5 := hv2.err.l
      unfold LErr at v5
      have KF := Hd (bfail_any w2 h2 hP hk 6 (by decide) HV.out.lens)
      have HG := Hd hg
      clear hb2 hb02 h2 hv2 hg KI
      go_wp2_with fail
      refine KF.out.mono ?_
      rintro e w3 ⟨rfl, st', hf, hat, hfr⟩
      have HF := Hd hf
      have HAT := Hd hat
      have HFR := Hd ((Fr.of_below HB2.out).trans (hfr.mono HB2.out.size (fun _ _ h => h)))
      clear hf hat hfr
      go_wp2
      go_ret2
      exact ⟨false, 0, st', rfl, .go HKP.out HRD.out (.gone HG.out HF.out), HAT.out, HFR.out⟩
    case inl =>
      have HINS := Hd hins
      have HOW := Hd (ownsRow_reads hown)
      have HRM := Hd (ownsRow_roomy hown)
      have hsh := ins_short hP HBI.out HV.out.files hk HRD.out.2 hins
      have HSH := Hd hsh
      have hil := hP.lt k hk
      have hrl := HV.out.short _ (List.getElem_mem hil)
      rw [← getD_at hil] at hrl
      have hil2 : ins.length ≤ 1000 := by
        have := congrArg List.length hins
        rw [List.length_map, List.length_map] at this
        omega
      have g1 := (h2.at_ hk 1).trans (show (stRow S (l.getD k noR) (D.iv k) (st k))[1]? = some (str (l.getD k noR).kind) from rfl)
      have g2 := (h2.at_ hk 2).trans (show (stRow S (l.getD k noR) (D.iv k) (st k))[2]? = some (str (l.getD k noR).word) from rfl)
      have KK := Hd (fun wl (hb : Below w2.heap.size w2 wl) => key4_any (l.getD k noR).kind (l.getD k noR).word u ins wl (HV2.out.below hb).tab (HOW.out.below0 hb) hrl.2.1 hrl.2.2.1 (fun s hs => by have := hsh s hs; omega) hil2 |>.mono fun _ _ ⟨e1, e2⟩ => (⟨e1, hb.trans (e2.mono hb.size)⟩ : _ ∧ Below w2.heap.size w2 _))
      have HRL := Hd hrl
      have HGC : Hid (∀ wl, Below w2.heap.size w2 wl → wl.cell? ⟨D.sb k, 1, none⟩ = some (str (l.getD k noR).kind) ∧ wl.cell? ⟨D.sb k, 2, none⟩ = some (str (l.getD k noR).word)) := Hd (fun wl hb => ⟨(hb.cell (lt_of_cell g1)).trans g1, (hb.cell (lt_of_cell g2)).trans g2⟩)
      generalize hkk : (l.getD k noR).kind = kd at *
      generalize hww : (l.getD k noR).word = wd at *
      have HKK := Hd hkk
      have HWW := Hd hww
      clear hb2 hb02 h2 hv2 hins hown hsh hrl KI hkk hww
      go_wp2_with fail
      go_region_held3 (fun w' => w'.cell? ⟨D.sb k, 1, none⟩ = some (str kd) ∧ w'.cell? ⟨D.sb k, 2, none⟩ = some (str wd))
        (first | exact HGC.out _ hb3 | exact HGC.out _ (Below.refl _ _) | exact HGC.out _ (Below.refl _ _).drew)
        (first
          | (go_at_call 95
             refine (KK.out _ ?_).mono ?_
             · first | exact Below.refl _ _ | exact (Below.refl _ _).drew
             rintro e w3 ⟨rfl, hb3⟩))
      have hb03 := HB2.out.trans (hb3.mono HB2.out.size)
      have HB3 := Hd hb03
      have H3 := Hd (H.out.below hb03)
      have hcv3 : w3.cell? ⟨D.b, 3, none⟩ = some (.pointer none) := by rw [(H.out.below hb03).cells.2.2.2, hc]
      obtain ⟨hq1, hq2⟩ := HGC.out _ hb3
      have HGD : Hid (∀ wl, Below w3.heap.size w3 wl → wl.cell? ⟨D.sb k, 1, none⟩ = some (str kd) ∧ wl.cell? ⟨D.sb k, 2, none⟩ = some (str wd)) := Hd (fun wl hb => HGC.out wl (hb3.trans (hb.mono hb3.size)))
      have KA := Hd (fun wl (hb : Below w3.heap.size w3 wl) => arun_any kd wd u ins wl S ((HOW.out.below0 hb3).below0 hb) HRM.out (HV.out.below (hb03.trans (hb.mono hb03.size))).ml (HV.out.below (hb03.trans (hb.mono hb03.size))).err.k.a (HV.out.below (hb03.trans (hb.mono hb03.size))).num (HV.out.below (hb03.trans (hb.mono hb03.size))).tab (by have := HRL.out.2.2.1; omega) (fun s hs => by have := HSH.out s hs; omega)
        |>.mono fun _ _ ⟨e1, e2⟩ => (⟨e1, hb.trans (e2.mono hb.size)⟩ : _ ∧ Below w3.heap.size w3 _))
      obtain ⟨y, hy⟩ : ∃ y, actOf kd wd ins = y := ⟨_, rfl⟩
      have HY := Hd hy
      rw [hy] at KA
      clear hb3 hb03 hy g1 g2
      obtain ⟨yc, yb⟩ := y
      simp only at KA
      have hz3 := HB3.out.size
      rcases errN_two S yc with ⟨hz, he⟩ | ⟨hz, ad, he⟩
      · rw [he] at KA
        go_wp2_with fail
        go_region_held3 (fun w' => w'.cell? ⟨D.sb k, 1, none⟩ = some (str kd) ∧ w'.cell? ⟨D.sb k, 2, none⟩ = some (str wd))
          (first | exact HGD.out _ hb4 | exact HGD.out _ (Below.refl _ _) | exact HGD.out _ (Below.refl _ _).drew)
          (first
            | (go_at_call 97
               refine (KA.out _ ?_).mono ?_
               · first | exact Below.refl _ _ | exact (Below.refl _ _).drew
               rintro e w4 ⟨rfl, hb4⟩))
        have h4 := H3.out.below hb4
        have H4 := Hd h4
        have HB4 := Hd (HB3.out.trans (hb4.mono HB3.out.size))
        have c4 := (h4.at_ HKP.out 4).trans (show (stRow S (l.getD k noR) (D.iv k) (st k))[4]? = some (Value.int .i64 ((st k).state : Int)) from rfl)
        have c6 := (h4.at_ HKP.out 6).trans (show (stRow S (l.getD k noR) (D.iv k) (st k))[6]? = some (str (st k).out) from rfl)
        have f4 := h4.free HKP.out 4
        have f6 := h4.free HKP.out 6
        have hcv4 : w4.cell? ⟨D.b, 3, none⟩ = some (.pointer none) := by rw [h4.cells.2.2.2, hc]
        have hne : ¬ D.b = D.sb k := fun e => h4.apart (Or.inl rfl) ⟨k, HKP.out, e⟩
        have HDN := Hd (put_done h4 HKP.out (HBI.out.wait k HKP.out HRD.out.1).2 yb)
        clear hb4 h4 hq1 hq2 hcv3
        go_wp2_with fail
        go_ret2
        refine ⟨false, 0, _, rfl, .go HKP.out HRD.out ?_, HDN.out.1, (Fr.of_below HB4.out).trans (HDN.out.2.mono HB4.out.size (fun _ _ h => h))⟩
        exact GoRel.run (c := none) HINS.out (fun c0 e => by cases e) (by rw [HKK.out, HWW.out, HY.out, hz])
      · rw [he] at KA
        go_wp2_with fail
        go_region_held3 (fun w' => w'.cell? ⟨D.sb k, 1, none⟩ = some (str kd) ∧ w'.cell? ⟨D.sb k, 2, none⟩ = some (str wd))
          (first | exact HGD.out _ hb4 | exact HGD.out _ (Below.refl _ _) | exact HGD.out _ (Below.refl _ _).drew)
          (first
            | (go_at_call 97
               refine (KA.out _ ?_).mono ?_
               · first | exact Below.refl _ _ | exact (Below.refl _ _).drew
               rintro e w4 ⟨rfl, hb4⟩))
        have h4 := H3.out.below hb4
        have HB4 := Hd (HB3.out.trans (hb4.mono HB3.out.size))
        have KF := Hd (bfail_any w4 h4 hP HKP.out yc hz HV.out.lens)
        rw [he] at KF
        have HZ := Hd hz
        clear hb4 h4 hq1 hq2 hcv3 hz
        go_wp2_with fail
        refine KF.out.mono ?_
        rintro e w5 ⟨rfl, st', hf, hat, hfr⟩
        have HF := Hd hf
        have HAT := Hd hat
        have HFR := Hd ((Fr.of_below HB4.out).trans (hfr.mono HB4.out.size (fun _ _ h => h)))
        clear hf hat hfr
        go_wp2
        go_ret2
        refine ⟨false, 0, st', rfl, .go HKP.out HRD.out ?_, HAT.out, HFR.out⟩
        obtain ⟨e, rfl⟩ : ∃ e, yc = e + 1 := ⟨yc - 1, by have := HZ.out; omega⟩
        exact GoRel.bad (c := none) HINS.out (fun c0 e => by cases e) (by rw [HKK.out, HWW.out, HY.out]) HF.out
end Go.Proofs.YtgjialbmlhbngaaGreatDoor
