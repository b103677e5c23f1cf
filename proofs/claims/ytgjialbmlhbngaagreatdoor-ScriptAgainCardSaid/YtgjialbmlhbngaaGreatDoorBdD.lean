/-
  A build with a cache: Run. A new build.
-/
import Derived.Test.YtgjialbmlhbngaaGreatDoorBdC
import Derived.Test.YtgjialbmlhbngaaGreatDoorPkZ
import Derived.Test.YtgjialbmlhbngaaGreatDoorPkO
import Derived.Test.YtgjialbmlhbngaaGreatDoorPkN
import Derived.Test.YtgjialbmlhbngaaGreatDoorPkR
import Derived.Test.YtgjialbmlhbngaaGreatDoorPkX

set_option maxRecDepth 100000
namespace Go.Proofs.YtgjialbmlhbngaaGreatDoor
open Go Go.RowKit Go.Kf Go.Sort Go.Proofs
section
variable {w w' : World} {pb mb : Nat} {lv : Value} {many : Nat} {K : List (List UInt8)} {M : List (List UInt8 × List UInt8)}
theorem CacheAt.fr {B : Nat} {Q : Nat → Prop} (h : CacheAt w pb mb lv many K M) (hf : Fr B Q w w') (hs : ∀ k, foot pb mb lv k → k < B ∧ ¬ Q k) : CacheAt w' pb mb lv many K M :=
  ⟨(hf.block pb (hs pb (Or.inl rfl)).1 (hs pb (Or.inl rfl)).2).trans h.blk, ownsRow_fr h.row hf (fun k hk => hs k (Or.inr (Or.inr hk))),
    h.map.of_block (hf.block mb (hs mb (Or.inr (Or.inl rfl))).1 (hs mb (Or.inr (Or.inl rfl))).2)⟩
theorem CacheAt.lt (h : CacheAt w pb mb lv many K M) {k : Nat} (hk : foot pb mb lv k) : k < w.heap.size := by
  rcases hk with rfl | rfl | hk
  · exact lt_of_heap h.blk
  · exact h.map.lt
  · exact (h.row.lt k hk).2
theorem CacheAt.below (h : CacheAt w pb mb lv many K M) (hb : Below w.heap.size w w') : CacheAt w' pb mb lv many K M :=
  h.fr (Q := fun _ => False) (Fr.of_below hb) (fun _ hk => ⟨h.lt hk, id⟩)
end
theorem put_hit {S : Nat → Addr} {r : RuleL} {v : Value} {s : St} {w : World} {q : Nat} (h : w.heap[q]? = some (.cells (stRow S r v s) 151 (0, 0))) (z : Bool) :
    (w.setCell ⟨q, 5, none⟩ (.bool z)).heap[q]? = some (.cells (stRow S r v { s with hit := z }) 151 (0, 0)) := by
  have := Kf.heap_setCell_same h (o := 5) (Value.bool z)
  rw [this]
  rfl
section
variable {S : Nat → Addr} {l : List RuleL} {P : List Nat} {m : List Ent} {D : BPl} {w : World} {st : Nat → St}
theorem put_had (h : BAt S l P m D w st) {k : Nat} (hk : k ∈ P) (hs : (st k).hit = false ∧ (st k).out = [] ∧ (st k).why = 0) (b : List UInt8) :
    BAt S l P m D (((w.setCell ⟨D.sb k, 6, none⟩ (str b)).setCell ⟨D.sb k, 5, none⟩ (.bool true)).setCell ⟨D.sb k, 4, none⟩ (.int .i64 2)) (setSt st k ⟨2, true, b, 0⟩) ∧ Fr w.heap.size (D.steps P) w (((w.setCell ⟨D.sb k, 6, none⟩ (str b)).setCell ⟨D.sb k, 5, none⟩ (.bool true)).setCell ⟨D.sb k, 4, none⟩ (.int .i64 2)) := by
  have hF : Fr w.heap.size (fun q => q = D.sb k) w (((w.setCell ⟨D.sb k, 6, none⟩ (str b)).setCell ⟨D.sb k, 5, none⟩ (.bool true)).setCell ⟨D.sb k, 4, none⟩ (.int .i64 2)) := Fr.setCell (S := fun q => q = D.sb k) (p := ⟨D.sb k, 4, none⟩) (Fr.setCell (S := fun q => q = D.sb k) (p := ⟨D.sb k, 5, none⟩) (Fr.setCell (S := fun q => q = D.sb k) (p := ⟨D.sb k, 6, none⟩) (Fr.refl w.heap.size _ w) (fun _ => rfl) _) (fun _ => rfl) _) (fun _ => rfl) _
  have hrow := put_state (put_hit (put_out (h.step k hk) b) true) 2
  have e : ({ ({ ({ st k with out := b } : St) with hit := true } : St) with state := 2 } : St) = ⟨2, true, b, 0⟩ := by
    obtain ⟨-, -, h3⟩ := hs
    generalize st k = s at *
    obtain ⟨z, hi, o, y⟩ := s
    simp only at h3
    subst h3
    rfl
  rw [e] at hrow
  exact ⟨h.put hk hF hrow, hF.mono (Nat.le_refl _) (fun q _ hq => ⟨k, hk, hq⟩)⟩
theorem put_miss (h : BAt S l P m D w st) {k : Nat} (hk : k ∈ P) (hs : (st k).hit = false ∧ (st k).out = [] ∧ (st k).why = 0) :
    BAt S l P m D ((w.setCell ⟨D.sb k, 6, none⟩ (str [])).setCell ⟨D.sb k, 5, none⟩ (.bool false)) st ∧ Fr w.heap.size (D.steps P) w ((w.setCell ⟨D.sb k, 6, none⟩ (str [])).setCell ⟨D.sb k, 5, none⟩ (.bool false)) := by
  have hF : Fr w.heap.size (fun q => q = D.sb k) w ((w.setCell ⟨D.sb k, 6, none⟩ (str [])).setCell ⟨D.sb k, 5, none⟩ (.bool false)) := Fr.setCell (S := fun q => q = D.sb k) (p := ⟨D.sb k, 5, none⟩) (Fr.setCell (S := fun q => q = D.sb k) (p := ⟨D.sb k, 6, none⟩) (Fr.refl w.heap.size _ w) (fun _ => rfl) _) (fun _ => rfl) _
  have hrow := put_hit (put_out (h.step k hk) []) false
  have e : ({ ({ st k with out := [] } : St) with hit := false } : St) = st k := by
    obtain ⟨h1, h2, -⟩ := hs
    generalize st k = s at *
    obtain ⟨z, hi, o, y⟩ := s
    simp only at h1 h2
    subst h1
    subst h2
    rfl
  rw [e] at hrow
  have hA := h.put hk hF hrow
  have e2 : setSt st k (st k) = st := by
    funext j
    by_cases hj : j = k
    · subst hj; rw [setSt_at]
    · rw [setSt_ne _ hj]
  rw [e2] at hA
  exact ⟨hA, hF.mono (Nat.le_refl _) (fun q _ hq => ⟨k, hk, hq⟩)⟩
end
def RunC (S : Nat → Addr) (l : List RuleL) (P : List Nat) (m : List Ent) (D : BPl) (pb mb : Nat) (lv : Value) (c : CS) (st : Nat → St) (i : Int) (w : World) (e : Ending) (w' : World) : Prop :=
  ∃ hit code c' st' lv', e = .returned (.tuple #[.bool hit, errN S code]) ∧ RunRel l P (fun p => mlook p m) (some c) st i hit code (some c') st' ∧ BAt S l P m D w' st' ∧ CacheAt w' pb mb lv' c'.many c'.ks c'.mp ∧ Fr w.heap.size (fun q => D.steps P q ∨ foot pb mb lv q) w w' ∧ (∀ q, lv'.ownBlock = some q → lv.ownBlock = some q ∨ w.heap.size ≤ q)
set_option maxHeartbeats 4000000 in
theorem brunC_any {S : Nat → Addr} {l : List RuleL} {P : List Nat} {m : List Ent} {D : BPl} {st : Nat → St} {pb mb : Nat} {lv : Value} {c : CS} (w : World) (h : BAt S l P m D w st) (hP : PartOk l P) (w0 : World) (hV0 : BEnv S l m w0) (hb0 : Below w0.heap.size w0 w) (hq0 : ∀ q, D.steps P q ∨ foot pb mb lv q → w0.heap.size ≤ q) (hi : BInv l P (fun p => mlook p m) st) (hc : D.cv = ptrV pb) (hC : CacheAt w pb mb lv c.many c.ks c.mp) (hcs : CSt c) (hap : ∀ q, D.has P q → ¬ foot pb mb lv q) (i : Int) :
    Calls Tryz.prog 36 #[ptrV D.b, .int .i64 i] w (RunC S l P m D pb mb lv c st i w) := by
  obtain ⟨-, hc1, -, hc3⟩ := h.cells
  have hV := hV0.below hb0
  have H := Hd h
  have HV := Hd hV
  have HB0 := Hd hb0
  have HV0 := Hd hV0
  have HQ0 := Hd hq0
  clear hb0 hV0 hq0
  have HC := Hd hC
  have HCS := Hd hcs
  have HAP := Hd hap
  by_cases hno : ∀ (k : Nat), k ∈ P → i ≠ (k : Int)
  · have hlk := step_none h hno
    have v5 := hV.err.l
    unfold LErr at v5
    clear h hV
    go_enter Tryz.func36, Tryz.ntmps36
    go_wp2_with fail
    go_quiet (fail)
    go_wp2
    go_ret2
    exact ⟨false, 6, c, st, lv, rfl, .none hno, by first | exact H.out | exact H.out.drewN _, by first | exact HC.out | exact HC.out.drewN _, by first | exact Fr.refl _ _ _ | exact (Fr.refl _ _ _).drewN _, fun _ h => Or.inl h⟩
  obtain ⟨k, hk, rfl⟩ : ∃ k : Nat, k ∈ P ∧ i = (k : Int) := Classical.byContradiction (fun hh => hno (fun k hk e => hh ⟨k, hk, e⟩))
  have hlk := step_some h hk
  have h4 := (h.at_ hk 4).trans (show (stRow S (l.getD k noR) (D.iv k) (st k))[4]? = some (Value.int .i64 ((st k).state : Int)) from rfl)
  clear hno
  by_cases hs : (st k).state = 1
  case neg =>
    have hs2 : (((st k).state : Int) == 1) = false := by
      have : ¬ ((st k).state : Int) = 1 := by omega
      simpa using this
    have v11 := hV.err.done
    clear h hV
    go_enter Tryz.func36, Tryz.ntmps36
    go_wp2_with fail
    go_quiet (fail)
    go_wp2
    go_ret2
    exact ⟨false, 12, c, st, lv, rfl, .done hk hs, by first | exact H.out | exact H.out.drewN _, by first | exact HC.out | exact HC.out.drewN _, by first | exact Fr.refl _ _ _ | exact (Fr.refl _ _ _).drewN _, fun _ h => Or.inl h⟩
  have hs2 : (((st k).state : Int) == 1) = true := by
    have : ((st k).state : Int) = 1 := by omega
    simpa using this
  have KR := Hd (bready_any w h hP hk hV.lens)
  cases hrd : readyB l st k with
  | false =>
    rw [hrd] at KR
    have HNR : Hid (¬ ReadyP l st k) := Hd (fun hr => by rw [readyB_iff.2 hr] at hrd; cases hrd)
    have HS := Hd hs
    clear h hV hrd hs
    go_enter Tryz.func36, Tryz.ntmps36
    go_wp2_with fail
    refine KR.out.mono ?_
    rintro e w1 ⟨rfl, hb1⟩
    have v10 := (HV.out.below hb1).err.turn
    have HB1 := Hd hb1
    clear hb1
    go_wp2_with fail
    go_quiet (fail)
    go_wp2
    go_ret2
    exact ⟨false, 11, c, st, lv, rfl, .turn hk HS.out HNR.out, by first | exact H.out.below HB1.out | exact (H.out.below HB1.out).drewN _, by first | exact HC.out.below HB1.out | exact (HC.out.below HB1.out).drewN _, by first | exact Fr.of_below HB1.out | exact (Fr.of_below HB1.out).drewN _, fun _ h => Or.inl h⟩
  | true =>
    rw [hrd] at KR
    have HRD : Hid (ReadyP l st k) := Hd (readyB_iff.1 hrd)
    have HBI := Hd hi
    have HPP := Hd hP
    have HKP := Hd hk
    clear h hV hrd hs hi
    go_enter Tryz.func36, Tryz.ntmps36
    go_wp2_with fail
    refine KR.out.mono ?_
    rintro e w1 ⟨rfl, hb1⟩
    have HB1 := Hd hb1
    have h1 := H.out.below hb1
    have H1 := Hd h1
    have KI := Hd (binputs_any w1 h1 hP hk HV.out.lens)
    clear hb1 h1 h4 hs2
    go_wp2_with fail
    refine KI.out.mono ?_
    rintro e w2 ⟨ha, hb2⟩
    have hb02 := HB1.out.trans (hb2.mono HB1.out.size)
    have HB2 := Hd hb02
    have h2 := H.out.below hb02
    have H2 := Hd h2
    have hv2 := HV.out.below hb02
    have HV2 := Hd hv2
    rcases ha with ⟨ins, u, hins, rfl, hown⟩ | ⟨hg, rfl⟩
    case inr =>
      have v5 := hv2.err.l
      unfold LErr at v5
      have KF := Hd (bfail_any w2 h2 hP hk 6 (by decide) HV.out.lens)
      have HG := Hd hg
      clear hb2 hb02 h2 hv2 hg KI
      go_wp2_with fail
      refine KF.out.mono ?_
      rintro e w3 ⟨rfl, st', hf, hat, hfr⟩
      have HF := Hd hf
      have HAT := Hd hat
      have HFR := Hd ((Fr.of_below HB2.out).trans (hfr.mono HB2.out.size (fun _ _ h => h)))
      clear hf hat hfr
      go_wp2
      go_ret2
      exact ⟨false, 0, c, st', lv, rfl, .go HKP.out HRD.out (.gone HG.out HF.out), HAT.out, HC.out.fr HFR.out (fun q hq => ⟨HC.out.lt hq, fun hs => HAP.out q (Or.inr hs) hq⟩), HFR.out.mono (Nat.le_refl _) (fun _ _ h => Or.inl h), fun _ h => Or.inl h⟩
    case inl =>
      have HINS := Hd hins
      have HOWN := Hd hown
      have HOW := Hd (ownsRow_reads hown)
      have HRM := Hd (ownsRow_roomy hown)
      have hsh := ins_short hP HBI.out HV.out.files hk HRD.out.2 hins
      have HSH := Hd hsh
      have hil := hP.lt k hk
      have hrl := HV.out.short _ (List.getElem_mem hil)
      rw [← getD_at hil] at hrl
      have hil2 : ins.length ≤ 1000 := by
        have := congrArg List.length hins
        rw [List.length_map, List.length_map] at this
        omega
      have g1 := (h2.at_ hk 1).trans (show (stRow S (l.getD k noR) (D.iv k) (st k))[1]? = some (str (l.getD k noR).kind) from rfl)
      have g2 := (h2.at_ hk 2).trans (show (stRow S (l.getD k noR) (D.iv k) (st k))[2]? = some (str (l.getD k noR).word) from rfl)
      have KK := Hd (fun wl (hb : Below w2.heap.size w2 wl) => key4_any (l.getD k noR).kind (l.getD k noR).word u ins wl (HV2.out.below hb).tab (HOW.out.below0 hb) hrl.2.1 hrl.2.2.1 (fun s hs => by have := hsh s hs; omega) hil2 |>.mono fun _ _ ⟨e1, e2⟩ => (⟨e1, hb.trans (e2.mono hb.size)⟩ : _ ∧ Below w2.heap.size w2 _))
      have HRL := Hd hrl
      have HGC : Hid (∀ wl, Below w2.heap.size w2 wl → wl.cell? ⟨D.sb k, 1, none⟩ = some (str (l.getD k noR).kind) ∧ wl.cell? ⟨D.sb k, 2, none⟩ = some (str (l.getD k noR).word)) := Hd (fun wl hb => ⟨(hb.cell (lt_of_cell g1)).trans g1, (hb.cell (lt_of_cell g2)).trans g2⟩)
      generalize hkk : (l.getD k noR).kind = kd at *
      generalize hww : (l.getD k noR).word = wd at *
      have HKK := Hd hkk
      have HWW := Hd hww
      clear hb2 hb02 h2 hv2 hins hown hsh hrl KI hkk hww
      go_wp2_with fail
      go_region_held3 (fun w' => w'.cell? ⟨D.sb k, 1, none⟩ = some (str kd) ∧ w'.cell? ⟨D.sb k, 2, none⟩ = some (str wd))
        (first | exact HGC.out _ hb3 | exact HGC.out _ (Below.refl _ _) | exact HGC.out _ (Below.refl _ _).drew)
        (first
          | (go_at_call 95
             refine (KK.out _ ?_).mono ?_
             · first | exact Below.refl _ _ | exact (Below.refl _ _).drew
             rintro e w3 ⟨rfl, hb3⟩))
      have hb03 := HB2.out.trans (hb3.mono HB2.out.size)
      have HB3 := Hd hb03
      have H3 := Hd (H.out.below hb03)
      have hcv3 : w3.cell? ⟨D.b, 3, none⟩ = some (ptrV pb) := by rw [(H.out.below hb03).cells.2.2.2, hc]
      have hC3 := HC.out.below hb03
      have HC3 := Hd hC3
      obtain ⟨hq1, hq2⟩ := HGC.out _ hb3
      obtain ⟨key, hkey⟩ : ∃ key, keyL kd wd ins = key := ⟨_, rfl⟩
      rw [hkey]
      have HKY := Hd hkey
      have KG := Hd (get_any pb mb lv c.many c.ks c.mp key w3 hC3 (by have := HCS.out.le; have := HCS.out.lim; omega))
      have hz3 := HB3.out.size
      have HB23 := Hd hb3
      have hst := (HBI.out.wait k HKP.out HRD.out.1).2
      have HST := Hd hst
      cases hlk3 : mlook key c.mp with
      | some b =>
        rw [hlk3] at KG
        simp only [Option.getD_some, Option.isSome_some, if_true] at KG
        have HLK := Hd hlk3
        clear hb3 hb03 hC3 hkey hlk3 hst
        go_wp2_with fail
        refine KG.out.mono ?_
        rintro e w4 ⟨rfl, lv4, hC4, hf4, hl4⟩
        have h4 := H3.out.of_fr hf4 (fun q hq => ⟨H3.out.lt hq, HAP.out q hq⟩)
        have f4 := h4.free HKP.out 4
        have f5 := h4.free HKP.out 5
        have f6 := h4.free HKP.out 6
        have c4 := (h4.at_ HKP.out 4).trans (show (stRow S (l.getD k noR) (D.iv k) (st k))[4]? = some (Value.int .i64 ((st k).state : Int)) from rfl)
        have c5 := (h4.at_ HKP.out 5).trans (show (stRow S (l.getD k noR) (D.iv k) (st k))[5]? = some (Value.bool (st k).hit) from rfl)
        have c6 := (h4.at_ HKP.out 6).trans (show (stRow S (l.getD k noR) (D.iv k) (st k))[6]? = some (str (st k).out) from rfl)
        have HDN := Hd (put_had h4 HKP.out HST.out b)
        have HF4 := Hd ((Fr.of_below (S := foot pb mb lv) HB3.out).trans (hf4.mono hz3 (fun _ _ h => h)))
        have HL4 := Hd hl4
        have HC4 : Hid (CacheAt w4 pb mb lv4 (cGet c key).many (cGet c key).ks (cGet c key).mp) := Hd (by unfold cGet; rw [HLK.out]; exact hC4)
        have HAP4 : Hid (∀ q, D.has P q → ¬ foot pb mb lv4 q) := Hd (fun q hq hf => by
          rcases hf with rfl | rfl | hf
          · exact HAP.out _ hq (Or.inl rfl)
          · exact HAP.out _ hq (Or.inr (Or.inl rfl))
          · rcases hl4 q hf with h1 | h1
            · exact HAP.out _ hq (Or.inr (Or.inr h1))
            · have := H3.out.lt hq; omega)
        have HZ4 := Hd hf4.size
        clear h4 hC4 hf4 hl4 hq1 hq2 hcv3 KG
        go_wp2_with fail
        go_ret2
        refine ⟨true, 0, cGet c key, _, lv4, rfl, .go HKP.out HRD.out ?_, HDN.out.1, HC4.out.fr HDN.out.2 (fun q hq => ⟨HC4.out.lt hq, fun hs => HAP4.out q (Or.inr hs) hq⟩), (HF4.out.mono (Nat.le_refl _) (fun _ _ h => Or.inr h)).trans (HDN.out.2.mono HF4.out.size (fun _ _ h => Or.inl h)), fun q hq => (HL4.out q hq).imp id (fun h => by omega)⟩
        have := GoRel.hit (l := l) (P := P) (T := fun p => mlook p m) (c := c) (b := b) HINS.out (by rw [HKK.out, HWW.out, HKY.out]; exact HLK.out)
        rwa [HKK.out, HWW.out, HKY.out] at this
      | none =>
        rw [hlk3] at KG
        simp only [Option.getD_none, Option.isSome_none, Bool.false_eq_true, if_false] at KG
        have HLK := Hd hlk3
        clear hb3 hb03 hC3 hkey hlk3 hst
        go_wp2_with fail
        refine KG.out.mono ?_
        rintro e w4 ⟨rfl, lv4, hC4, hf4, hl4⟩
        have h4 := H3.out.of_fr hf4 (fun q hq => ⟨H3.out.lt hq, HAP.out q hq⟩)
        have f4 := h4.free HKP.out 4
        have f5 := h4.free HKP.out 5
        have f6 := h4.free HKP.out 6
        have c4 := (h4.at_ HKP.out 4).trans (show (stRow S (l.getD k noR) (D.iv k) (st k))[4]? = some (Value.int .i64 ((st k).state : Int)) from rfl)
        have c5 := (h4.at_ HKP.out 5).trans (show (stRow S (l.getD k noR) (D.iv k) (st k))[5]? = some (Value.bool (st k).hit) from rfl)
        have c6 := (h4.at_ HKP.out 6).trans (show (stRow S (l.getD k noR) (D.iv k) (st k))[6]? = some (str (st k).out) from rfl)
        have HDN := Hd (put_miss h4 HKP.out HST.out)
        have HF34 := Hd hf4
        have HL4 := Hd hl4
        have HAP4 : Hid (∀ q, D.has P q → ¬ foot pb mb lv4 q) := Hd (fun q hq hf => by
          rcases hf with rfl | rfl | hf
          · exact HAP.out _ hq (Or.inl rfl)
          · exact HAP.out _ hq (Or.inr (Or.inl rfl))
          · rcases hl4 q hf with h1 | h1
            · exact HAP.out _ hq (Or.inr (Or.inr h1))
            · have := H3.out.lt hq; omega)
        have HC4 := Hd hC4
        clear h4 hC4 hf4 hl4 hq1 hq2 hcv3 KG
        go_wp2_with fail
        obtain ⟨w5, hw5⟩ : ∃ w5, (w4.setCell ⟨D.sb k, 6, none⟩ (str [])).setCell ⟨D.sb k, 5, none⟩ (.bool false) = w5 := ⟨_, rfl⟩
        have h5 := HDN.out.1
        have hf5 := HDN.out.2
        rw [hw5] at h5 hf5 ⊢
        clear hw5 HDN f4 f5 f6 c4 c5 c6
        have hf35 : Fr w3.heap.size (fun q => D.steps P q ∨ foot pb mb lv q) w3 w5 := (HF34.out.mono (Nat.le_refl _) (fun _ _ h => Or.inr h)).trans (hf5.mono HF34.out.size (fun _ _ h => Or.inl h))
        have hC5 := HC4.out.fr hf5 (fun q hq => ⟨HC4.out.lt hq, fun hs => HAP4.out q (Or.inr hs) hq⟩)
        have hF5 : Fr w.heap.size (fun q => D.steps P q ∨ foot pb mb lv q) w w5 := (Fr.of_below HB3.out).trans (hf35.mono hz3 (fun _ _ h => h))
        have hb5 : Below w0.heap.size w0 w5 := HB0.out.trans ((hF5.mono HB0.out.size (fun _ _ h => h)).below (fun q hq hQ => by have := HQ0.out q hQ; omega))
        have ho5 := ownsRow_fr (S := fun q => D.steps P q ∨ foot pb mb lv q) HOWN.out ((Fr.of_below HB23.out).trans (hf35.mono HB23.out.size (fun _ _ h => h))) (fun q hq => ⟨(HOWN.out.lt q hq).2, fun hQ => by
          have h1 := (HOWN.out.lt q hq).1
          have h2 := HB1.out.size
          rcases hQ with hQ | hQ
          · have := H.out.lt (Or.inr hQ); omega
          · have := HC.out.lt hQ; omega⟩)
        have hr5 := ownsRow_reads ho5
        have hv5 := HV0.out.below hb5
        have H5 := Hd h5
        have HF5 := Hd hF5
        have HC5 := Hd hC5
        have HV5 := Hd hv5
        have HR5 := Hd hr5
        have HRM5 := Hd (ownsRow_roomy ho5)
        have HGD : Hid (∀ wl, Below w5.heap.size w5 wl → wl.cell? ⟨D.sb k, 1, none⟩ = some (str kd) ∧ wl.cell? ⟨D.sb k, 2, none⟩ = some (str wd)) := Hd (fun wl hb => ⟨((h5.below hb).at_ HKP.out 1).trans (by rw [← HKK.out]; rfl), ((h5.below hb).at_ HKP.out 2).trans (by rw [← HWW.out]; rfl)⟩)
        obtain ⟨hq1, hq2⟩ := HGD.out w5 (Below.refl _ _)
        have KA := Hd (fun wl (hb : Below w5.heap.size w5 wl) => arun_any kd wd u ins wl S (HR5.out.below0 hb) HRM5.out (HV5.out.below hb).ml (HV5.out.below hb).err.k.a (HV5.out.below hb).num (HV5.out.below hb).tab (by have := HRL.out.2.2.1; omega) (fun s hs => by have := HSH.out s hs; omega)
          |>.mono fun _ _ ⟨e1, e2⟩ => (⟨e1, hb.trans (e2.mono hb.size)⟩ : _ ∧ Below w5.heap.size w5 _))
        obtain ⟨y, hy⟩ : ∃ y, actOf kd wd ins = y := ⟨_, rfl⟩
        have HY := Hd hy
        rw [hy] at KA
        clear h5 hf5 hf35 hC5 hF5 hb5 ho5 hr5 hv5 hy
        obtain ⟨yc, yb⟩ := y
        simp only at KA
        rcases errN_two S yc with ⟨hz, he⟩ | ⟨hz, ad, he⟩
        · rw [he] at KA
          go_region_held3 (fun w' => w'.cell? ⟨D.sb k, 1, none⟩ = some (str kd) ∧ w'.cell? ⟨D.sb k, 2, none⟩ = some (str wd))
            (first | exact HGD.out _ hb6 | exact HGD.out _ (Below.refl _ _) | exact HGD.out _ (Below.refl _ _).drew)
            (first
              | (go_at_call 97
                 refine (KA.out _ ?_).mono ?_
                 · first | exact Below.refl _ _ | exact (Below.refl _ _).drew
                 rintro e w6 ⟨rfl, hb6⟩))
          have h6 := H5.out.below hb6
          have f4 := h6.free HKP.out 4
          have f6 := h6.free HKP.out 6
          have c4 := (h6.at_ HKP.out 4).trans (show (stRow S (l.getD k noR) (D.iv k) (st k))[4]? = some (Value.int .i64 ((st k).state : Int)) from rfl)
          have c6 := (h6.at_ HKP.out 6).trans (show (stRow S (l.getD k noR) (D.iv k) (st k))[6]? = some (str (st k).out) from rfl)
          have hcv6 : w6.cell? ⟨D.b, 3, none⟩ = some (ptrV pb) := by rw [h6.cells.2.2.2, hc]
          have hne : ¬ D.b = D.sb k := fun e => h6.apart (Or.inl rfl) ⟨k, HKP.out, e⟩
          have hD7 := put_done h6 HKP.out HST.out yb
          have HD7 := Hd hD7
          have hC6 := HC5.out.below hb6
          have HC6 := Hd hC6
          have HF6 := Hd (HF5.out.trans (Fr.of_below (hb6.mono HF5.out.size)))
          have hC7 := hC6.fr hD7.2 (fun q hq => ⟨hC6.lt hq, fun hs => HAP4.out q (Or.inr hs) hq⟩)
          have KP := Hd (put_any pb mb lv4 c.many c.ks c.mp key yb _ hC7 (by have := HCS.out.le; have := HCS.out.lim; omega))
          clear hb6 h6 hD7 hC6 hC7 hq1 hq2
          go_wp2_with fail
          refine KP.out.mono ?_
          rintro e w8 ⟨rfl, lv8, hC8, hf8, hl8⟩
          have HC8 := Hd hC8
          have H8 := Hd (HD7.out.1.of_fr hf8 (fun q hq => ⟨HD7.out.1.lt hq, HAP4.out q hq⟩))
          have hz37 := HD7.out.2.size
          have hz07 := HF6.out.size
          have HF8 : Hid (Fr w.heap.size (fun q => D.steps P q ∨ foot pb mb lv q) w w8) := Hd (HF6.out.trans ((HD7.out.2.mono hz07 (fun _ _ h => Or.inl h)).trans (hf8.mono (by omega) (fun q hq hs => by
            rcases hs with rfl | rfl | hs
            · exact Or.inr (Or.inl rfl)
            · exact Or.inr (Or.inr (Or.inl rfl))
            · rcases HL4.out q hs with h1 | h1
              · exact Or.inr (Or.inr (Or.inr h1))
              · omega))))
          have HL8 : Hid (∀ q, lv8.ownBlock = some q → lv.ownBlock = some q ∨ w.heap.size ≤ q) := Hd (fun q hq => by
            rcases hl8 q hq with h1 | h1
            · exact (HL4.out q h1).imp id (fun h => by omega)
            · exact Or.inr (by omega))
          clear hC8 hf8 hl8 KP c4 c6 f4 f6 hcv6
          go_wp2
          go_ret2
          refine ⟨false, 0, cPut c key yb, _, lv8, rfl, .go HKP.out HRD.out ?_, H8.out, HC8.out, HF8.out, HL8.out⟩
          have := GoRel.run (l := l) (P := P) (T := fun p => mlook p m) (c := some c) (b := yb) HINS.out (fun c0 e => by cases e; rw [HKK.out, HWW.out, HKY.out]; exact HLK.out) (by rw [HKK.out, HWW.out, HY.out, hz])
          rw [HKK.out, HWW.out, HKY.out] at this
          exact this
        · rw [he] at KA
          go_region_held3 (fun w' => w'.cell? ⟨D.sb k, 1, none⟩ = some (str kd) ∧ w'.cell? ⟨D.sb k, 2, none⟩ = some (str wd))
            (first | exact HGD.out _ hb6 | exact HGD.out _ (Below.refl _ _) | exact HGD.out _ (Below.refl _ _).drew)
            (first
              | (go_at_call 97
                 refine (KA.out _ ?_).mono ?_
                 · first | exact Below.refl _ _ | exact (Below.refl _ _).drew
                 rintro e w6 ⟨rfl, hb6⟩))
          have h6 := H5.out.below hb6
          have KF := Hd (bfail_any w6 h6 hP HKP.out yc hz HV.out.lens)
          rw [he] at KF
          have HZ := Hd hz
          have HC6 := Hd (HC5.out.below hb6)
          have HF6 := Hd (HF5.out.trans (Fr.of_below (hb6.mono HF5.out.size)))
          clear hb6 h6 hq1 hq2 hz
          go_wp2_with fail
          refine KF.out.mono ?_
          rintro e w7 ⟨rfl, st', hf, hat, hfr⟩
          have HF := Hd hf
          have HAT := Hd hat
          have HC7 := Hd (HC6.out.fr hfr (fun q hq => ⟨HC6.out.lt hq, fun hs => HAP4.out q (Or.inr hs) hq⟩))
          have HFR := Hd (HF6.out.trans (hfr.mono HF6.out.size (fun _ _ h => Or.inl h)))
          clear hf hat hfr
          go_wp2
          go_ret2
          refine ⟨false, 0, c, st', lv4, rfl, .go HKP.out HRD.out ?_, HAT.out, HC7.out, HFR.out, fun q hq => (HL4.out q hq).imp id (fun h => by omega)⟩
          obtain ⟨e, rfl⟩ : ∃ e, yc = e + 1 := ⟨yc - 1, by have := HZ.out; omega⟩
          exact GoRel.bad (c := some c) HINS.out (fun c0 e => by cases e; rw [HKK.out, HWW.out, HKY.out]; exact HLK.out) (by rw [HKK.out, HWW.out, HY.out]) HF.out
theorem cloneS_any (v : Value) (xs : List (List UInt8)) (w : World) (hr : Reads w v (xs.map str)) (hn : xs.length ≤ 1000) :
    Calls Tryz.prog 69 #[v] w fun e w' => ∃ v', e = .returned v' ∧ w'.ownsRow w.heap.size 9 1 v' xs.length (xs.map str) ∧ Below w.heap.size w w' := by
  obtain ⟨a, c, rfl, -, hc⟩ := hr
  rw [List.length_map]
  cases xs with
  | nil =>
    cases a with
    | none =>
      refine (Tryz.slices_Clone_string_nil 0 c w).mono ?_
      rintro e w' ⟨rfl, rfl⟩
      exact ⟨_, rfl, World.ownsRow_nil _ _ _ _, Below.refl _ _⟩
    | some ad =>
      refine (Tryz.slices_Clone_string_zero ad c w).mono ?_
      rintro e w' ⟨v', rfl, ho, -, hb⟩
      exact ⟨v', rfl, ho, hb⟩
  | cons x xs =>
    obtain ⟨b, o, rfl, -⟩ := hc 0 (str x) rfl
    refine (Tryz.slices_Clone_string b o (x :: xs).length c ((x :: xs).map fun s => (⟨s.toArray⟩ : ByteArray)) w (by simp) (by omega) (fun j hj => ?_)).mono ?_
    · rw [List.length_map] at hj
      obtain ⟨b', o', e, hcj⟩ := hc j (str (x :: xs)[j]) (by rw [List.getElem?_map, List.getElem?_eq_getElem hj]; rfl)
      cases e
      rw [hcj, List.getD_eq_getElem?_getD, List.getElem?_map, List.getElem?_eq_getElem hj]
      rfl
    · rintro e w' ⟨v', rfl, ho, -, hb⟩
      rw [List.take_of_length_le (by simp), List.map_map] at ho
      exact ⟨v', rfl, ho, hb⟩
def BNewAns (S : Nat → Addr) (l : List RuleL) (outs : List (List UInt8)) (m : List Ent) (cv : Value) (B : Nat) (e : Ending) (w' : World) : Prop :=
  (∃ T x, e = .returned (.tuple #[.pointer none, .iface T x]) ∧ (SheetBad S l B (.iface T x) w' ∨ (RightS l ∧ (∃ i g, ∃ h : i < outs.length, (∀ j (hj : j < outs.length), j < i → outs[j] ∈ l.map RuleL.out) ∧ outs[i] ∉ l.map RuleL.out ∧ Value.iface T x = .iface 220 (.pointer (some ⟨g, 0, none⟩)) ∧ w'.heap[g]? = some (.cells #[.int .i64 (i : Int), errI (S 5)] 222 (0, 0)))) ∨
    (RightS l ∧ ∃ ks N, PlacesAt l outs ks ∧ (∀ k, k ∈ N ↔ Reach (edgesB l) ks k) ∧ orderB (edgesB l) (fun i => (needL l.length N).contains i) l.length = none ∧ Value.iface T x = errI (S 8)))) ∨
  (∃ ks N o D, PlacesAt l outs ks ∧ (∀ k, k ∈ N ↔ Reach (edgesB l) ks k) ∧ orderB (edgesB l) (fun i => (needL l.length N).contains i) l.length = some o ∧ Ord l (needL l.length N) o ∧ e = .returned (.tuple #[ptrV D.b, .nilIface]) ∧ D.cv = cv ∧ BAt S l (needL l.length N) m D w' (fun _ => st0) ∧ ∀ k, D.has (needL l.length N) k → B ≤ k)
theorem ord_of {l : List RuleL} {ks N o : List Nat} (hr : RightS l) (hk : ∀ k ∈ ks, k < l.length) (hN : ∀ k, k ∈ N ↔ Reach (edgesB l) ks k) (ho : orderB (edgesB l) (fun i => (needL l.length N).contains i) l.length = some o) : Ord l (needL l.length N) o := by
  have hlt : ∀ k ∈ N, k < l.length := fun k h => ((hN k).1 h).lt (fun a b hb => edges_lt _ a b hb) hk
  have hm : ∀ k, k ∈ needL l.length N ↔ k ∈ N := fun k => mem_needL hlt
  obtain ⟨h1, h2⟩ := order_mem ho
  obtain ⟨r, hrk⟩ := rank_of_orderB ho
  refine ⟨⟨hr, needL_lt, ?_, fun k hk j hj => (hm j).2 ((hN j).2 (.step ((hN k).1 ((hm k).1 hk)) hj)), r, fun i hi j hj => (hrk i (needL_lt i hi) (List.contains_iff_mem.2 hi) j hj).2.2⟩, h1, fun k hk => h2 k (needL_lt k hk) (List.contains_iff_mem.2 hk)⟩
  unfold needL
  exact List.Pairwise.filter _ List.pairwise_lt_range
def BPl.add (D : BPl) (k n : Nat) (v : Value) : BPl := { D with sb := fun q => if q = k then n else D.sb q, iv := fun q => if q = k then v else D.iv q }
theorem bat_add {S : Nat → Addr} {l : List RuleL} {P : List Nat} {m : List Ent} {D : BPl} {w w' : World} (h : BAt S l P m D w (fun _ => st0)) {k n : Nat} {v : Value} (hk : k ∉ P) (hmb : D.mb ≠ D.lb ∧ D.mb ≠ D.yb)
    (hL : MapIs (Value.int .i64) ptrV w' D.lb (stepM D P ++ [((k : Int), n)])) (hY : MapIs str intE w' D.yb (byL l P ++ [((l.getD k noR).out, k)])) (hfr : Fr w.heap.size (fun q => q = D.lb ∨ q = D.yb) w w')
    (hst : w'.heap[n]? = some (.cells (stRow S (l.getD k noR) v st0) 151 (0, 0))) (hn : w.heap.size ≤ n) (hv : w.ownsRow 0 9 1 v (l.getD k noR).ins.length ((l.getD k noR).ins.map str)) :
    BAt S l (P ++ [k]) m (D.add k n v) w' (fun _ => st0) := by
  have hne : ∀ i ∈ P, i ≠ k := fun i hi e => hk (e ▸ hi)
  have hmL : ∃ es c, w.heap[D.lb]? = some (.map es c) := by obtain ⟨es, c, h1, -⟩ := h.stat.lm; exact ⟨es, c, h1⟩
  have hmY : ∃ es c, w.heap[D.yb]? = some (.map es c) := by obtain ⟨es, c, h1, -⟩ := h.stat.bm; exact ⟨es, c, h1⟩
  have hcell : ∀ {q : Nat} {cs : Array Value} {t : TypeId} {z : Nat × Nat}, w.heap[q]? = some (.cells cs t z) → w'.heap[q]? = some (.cells cs t z) := by
    intro q cs t z hq
    refine (hfr.block q (lt_of_heap hq) (fun e => ?_)).trans hq
    rcases e with rfl | rfl
    · obtain ⟨es, c, h1⟩ := hmL; rw [h1] at hq; cases hq
    · obtain ⟨es, c, h1⟩ := hmY; rw [h1] at hq; cases hq
  have hown : ∀ {v : Value} {xs : List Value} {c : Nat}, w.ownsRow 0 9 1 v c xs → w'.ownsRow 0 9 1 v c xs := by
    intro v xs c ho
    refine ownsRow_fr ho hfr (fun q hq => ⟨(ho.lt q hq).2, fun e => ?_⟩)
    obtain ⟨cs, hc⟩ := own_typed ho hq
    rcases e with rfl | rfl
    · obtain ⟨es, c, h1⟩ := hmL; rw [h1] at hc; cases hc
    · obtain ⟨es, c, h1⟩ := hmY; rw [h1] at hc; cases hc
  have htm : w'.heap[D.mb]? = w.heap[D.mb]? := by
    exact hfr.block _ h.stat.tree.lt.2 (fun e => e.elim hmb.1 hmb.2)
  refine ⟨⟨hcell h.stat.blk, ?_, ?_, ⟨hcell h.stat.tree.blk, h.stat.tree.map.of_block htm⟩, fun i hi => ?_, fun i hi j hj e => ?_⟩, fun i hi => ?_⟩
  · have e : stepM (D.add k n v) (P ++ [k]) = stepM D P ++ [((k : Int), n)] := by
      unfold stepM BPl.add
      rw [List.map_append]
      congr 1
      · exact List.map_congr_left (fun i hi => by simp [hne i hi])
      · simp
    rw [e]
    exact hL
  · have e : byL l (P ++ [k]) = byL l P ++ [((l.getD k noR).out, k)] := by
      unfold byL
      rw [List.map_append]
      rfl
    rw [e]
    exact hY
  · rcases List.mem_append.1 hi with hi | hi
    · have : (D.add k n v).iv i = D.iv i := by simp [BPl.add, hne i hi]
      rw [this]
      exact hown (h.stat.ins i hi)
    · obtain rfl := List.mem_singleton.1 hi
      have : (D.add i n v).iv i = v := by simp [BPl.add]
      rw [this]
      exact hown hv
  · have hs : ∀ q ∈ P, (D.add k n v).sb q = D.sb q ∧ D.sb q < n := fun q hq => ⟨by simp [BPl.add, hne q hq], Nat.lt_of_lt_of_le (lt_of_heap (h.step q hq)) hn⟩
    have hkk : (D.add k n v).sb k = n := by simp [BPl.add]
    rcases List.mem_append.1 hi with hi | hi <;> rcases List.mem_append.1 hj with hj | hj
    · rw [(hs i hi).1, (hs j hj).1] at e
      exact h.stat.inj i hi j hj e
    · rw [List.mem_singleton.1 hj, (hs i hi).1, hkk] at e
      have := (hs i hi).2
      omega
    · rw [List.mem_singleton.1 hi, (hs j hj).1, hkk] at e
      have := (hs j hj).2
      omega
    · rw [List.mem_singleton.1 hi, List.mem_singleton.1 hj]
  · rcases List.mem_append.1 hi with hi | hi
    · have e1 : (D.add k n v).iv i = D.iv i := by simp [BPl.add, hne i hi]
      have e2 : (D.add k n v).sb i = D.sb i := by simp [BPl.add, hne i hi]
      rw [e1, e2]
      exact hcell (h.step i hi)
    · obtain rfl := List.mem_singleton.1 hi
      have e1 : (D.add i n v).iv i = v := by simp [BPl.add]
      have e2 : (D.add i n v).sb i = n := by simp [BPl.add]
      rw [e1, e2]
      exact hst
set_option maxHeartbeats 4000000 in
theorem bnew_any {S : Nat → Addr} {R : List RV} {v : Value} {tb mb : Nat} {m : List Ent} (w : World) (outs : List (List UInt8)) (vo : Value) (ca : Option Addr) (hR : RulesAt w v R) (hcap : Roomy v) (hT : TAt w tb mb m) (hO : Reads w vo (outs.map str)) (ho : outs.length ≤ 1000) (hm : Ml w) (hE : KErr w S) (hL : LErr w S) (hN : NErr w) (ht : Tab w)
    (hb : ∀ x ∈ R, x.1.out.length ≤ 1000000 ∧ x.1.word.length ≤ 100000 ∧ (∀ s ∈ x.1.ins, s.length ≤ 1000000) ∧ x.1.ins.length ≤ 1000) (hn : R.length ≤ 1000) :
    Calls Tryz.prog 29 #[ptrV tb, v, vo, .pointer ca] w fun e w' => BNewAns S (R.map Prod.fst) outs m (.pointer ca) w.heap.size e w' ∧ Below w.heap.size w w' := by
  obtain ⟨a, c, hv, -, -⟩ := id hR.1
  rw [List.length_map] at hv
  subst hv
  have KN := Hd (gneeds_any R (.slice a R.length c) outs vo w S hR hcap hO ho hm hE hL hN ht hb (by omega))
  have HR := Hd (fun wl (hb : Below w.heap.size w wl) => hR.below0 hb)
  have HKE := Hd (fun wl (hb : Below w.heap.size w wl) => hE.below hb (Nat.le_refl _))
  have HTT := Hd (fun wl (hb : Below w.heap.size w wl) => hT.below hb)
  have HBD := Hd hb
  have hml : (R.map Prod.fst).length = R.length := List.length_map _
  have HML := Hd hml
  have hmm := @run_makeMap Tryz.prog
  clear hR hcap hO hm hE hL hN ht hb hml hT
  go_enter Tryz.func29, Tryz.ntmps29
  go_wp2_with fail
  refine KN.out.mono ?_
  rintro e w1 ⟨hna, hb1⟩
  have HB1 := Hd hb1
  rcases hna with ⟨hrs, hok | hno⟩ | ⟨T, x, rfl, hbad⟩
  case inr =>
    have HBAD := Hd hbad
    clear hb1 hbad
    go_wp2
    go_ret2
    exact ⟨Or.inl ⟨T, x, rfl, Or.inl HBAD.out⟩, HB1.out⟩
  case inl.inr =>
    obtain ⟨i, g, hi, h1, h2, rfl, -, h3⟩ := hno
    have HH := Hd (And.intro h1 (And.intro h2 h3))
    have HRS := Hd hrs
    clear hb1 h1 h2 h3 hrs
    go_wp2
    go_ret2
    exact ⟨Or.inl ⟨_, _, rfl, Or.inr (Or.inl ⟨HRS.out, i, g, hi, HH.out.1, HH.out.2.1, rfl, HH.out.2.2⟩)⟩, HB1.out⟩
  case inl.inl =>
    obtain ⟨ks, N, u, hpl, hN, rfl, hown⟩ := hok
    have HPL := Hd hpl
    have HN := Hd hN
    have HRS := Hd hrs
    have h40 : R.length ≤ 40 := by have := hrs.1; rw [HML.out] at this; exact this
    obtain ⟨P, hPE⟩ : ∃ P, needL (R.map Prod.fst).length N = P := ⟨_, rfl⟩
    have HPE := Hd hPE
    rw [hPE] at hown
    have hru := reads_ints hown
    have HRU := Hd hru
    obtain ⟨ap, cp, hup, -, -⟩ := id hru
    rw [List.length_map] at hup
    subst hup
    have KP := Hd (gpart_any R (.slice a R.length c) P _ w1 S (HR.out w1 hb1) hrs.2 hru (HKE.out w1 hb1) (fun x hx => (HBD.out x hx).2.2.2) (by omega))
    clear hpl hN hown hb1 hru hPE hrs
    go_wp2_with fail
    refine KP.out.mono ?_
    rintro e w2 ⟨⟨o, uo, hord, rfl, -⟩ | ⟨hord, rfl⟩, hb2⟩
    case inr =>
      have HORD := Hd hord
      have HB2 := Hd (HB1.out.trans (hb2.mono HB1.out.size))
      clear hord hb2
      go_wp2
      go_ret2
      exact ⟨Or.inl ⟨_, _, rfl, Or.inr (Or.inr ⟨HRS.out, ks, N, HPL.out, HN.out, by rw [HPE.out]; exact HORD.out, rfl⟩)⟩, HB2.out⟩
    case inl =>
      have HORD := Hd hord
      have hb02 := HB1.out.trans (hb2.mono HB1.out.size)
      have HB2 := Hd hb02
      have HRU2 := Hd (HRU.out.below0 hb2)
      have KC := Hd (copy_tree tb mb m w2 (HTT.out w2 hb02))
      clear hord hb2 hb02 KP
      go_wp2_with fail
      refine KC.out.mono ?_
      rintro e w3 ⟨rfl, hT3, hb3, hz3⟩
      have HT3 := Hd hT3
      have HB3 := Hd (HB2.out.trans (hb3.mono HB2.out.size))
      have HW23 := Hd hb3
      have HRU3 := Hd (HRU2.out.below0 hb3)
      clear hT3 hb3
      go_wp2_with fail
      obtain ⟨z, hz⟩ : ∃ z, w2.heap.size = z := ⟨_, rfl⟩
      have HZ := Hd hz
      obtain ⟨W4, hW4⟩ : ∃ W, ((w3.alloc (.map #[] 0)).alloc (.map #[] 0)).alloc (.cells #[ptrV (w2.heap.size + 1), .map (some (w2.heap.size + 2)), .map (some (w2.heap.size + 2 + 1)), .pointer ca] 148) = W := ⟨_, rfl⟩
      have H4 : Hid (BAt S (R.map Prod.fst) [] m ⟨z + 2 + 1 + 1, z + 2, z + 2 + 1, z + 1, z, fun _ => 0, fun _ => .nilIface, .pointer ca⟩ W4 (fun _ => st0) ∧ Below w2.heap.size w2 W4 ∧ W4.heap.size = z + 5) := Hd (by
        subst hz
        have hs3 : (w3.alloc (.map #[] 0)).heap.size = w2.heap.size + 2 + 1 := by simp [hz3]
        have hs4 : ((w3.alloc (.map #[] 0)).alloc (.map #[] 0)).heap.size = w2.heap.size + 2 + 1 + 1 := by simp [hz3]
        have m1 : MapIs (Value.int .i64) ptrV (w3.alloc (.map #[] 0)) w3.heap.size [] := MapIs.made w3
        have m2 : MapIs str intE ((w3.alloc (.map #[] 0)).alloc (.map #[] 0)) (w3.alloc (.map #[] 0)).heap.size [] := MapIs.made _
        have b1 : Below w3.heap.size w3 W4 := hW4 ▸ (((Below.refl _ w3).alloc (Nat.le_refl _) _).alloc (by simp) _).alloc (by simp; omega) _
        have b2 : Below (w3.alloc (.map #[] 0)).heap.size (w3.alloc (.map #[] 0)) W4 := hW4 ▸ ((Below.refl _ _).alloc (Nat.le_refl _) _).alloc (by simp) _
        have b3 : Below ((w3.alloc (.map #[] 0)).alloc (.map #[] 0)).heap.size ((w3.alloc (.map #[] 0)).alloc (.map #[] 0)) W4 := hW4 ▸ (Below.refl _ _).alloc (Nat.le_refl _) _
        have hb := heap_alloc_here ((w3.alloc (.map #[] 0)).alloc (.map #[] 0)) (.cells #[ptrV (w2.heap.size + 1), .map (some (w2.heap.size + 2)), .map (some (w2.heap.size + 2 + 1)), .pointer ca] 148)
        rw [hW4, hs4] at hb
        rw [hz3] at m1
        rw [hs3] at m2
        refine ⟨⟨⟨hb, m1.of_block (b2.block _ (by rw [hs3]; omega)), m2.of_block (b3.block _ (by rw [hs4]; omega)), HT3.out.below b1, (fun i hi => by cases hi), (fun i hi => by cases hi)⟩, (fun i hi => by cases hi)⟩, ?_, ?_⟩
        · exact HW23.out.trans (b1.mono HW23.out.size)
        · rw [← hW4]; simp [hz3])
      rw [hW4, hz]
      clear hW4 hz hz3
      go_loopw [48] (fun iv wl => ∃ (j : Nat) (sb : Nat → Nat) (iw : Nat → Value), j ≤ P.length ∧ iv = .int .i64 j ∧ BAt S (R.map Prod.fst) (P.take j) m ⟨z + 2 + 1 + 1, z + 2, z + 2 + 1, z + 1, z, sb, iw, .pointer ca⟩ wl (fun _ => st0) ∧ (∀ i ∈ P.take j, z + 5 ≤ sb i ∧ ∀ k, (iw i).ownBlock = some k → z + 5 ≤ k) ∧ Below w2.heap.size w2 wl ∧ z + 5 ≤ wl.heap.size) (fun iv _ => P.length - (intOf iv).toNat)
      case atStart => exact ⟨0, fun _ => 0, fun _ => .nilIface, by omega, rfl, H4.out.1, (fun i hi => by cases hi), H4.out.2.1, by rw [H4.out.2.2]; exact Nat.le_refl _⟩
      case round =>
        obtain ⟨j, sb, iw, hj, rfl, hat, hge, hbj, hzj⟩ := hrel
        have HAT := Hd hat
        have HGE := Hd hge
        have HBJ := Hd hbj
        by_cases hlt : j < P.length
        · have hlc : ((j : Int) < (P.length : Int)) = True := eq_true (by omega)
          have hbw : Below w.heap.size w wr := HB2.out.trans (hbj.mono HB2.out.size)
          obtain ⟨b, o1, hix, hce⟩ := (HRU2.out.below0 hbj).at (P := Tryz.prog) Tryz.underlying53 (by kernel_rfl) j (by simpa using hlt)
          simp only [List.getElem_map] at hce
          have hkP : P[j] ∈ P := List.getElem_mem hlt
          have hkR : P[j] < R.length := by
            have := needL_lt (n := (R.map Prod.fst).length) (N := N) P[j] (by rw [HPE.out]; exact hkP)
            rw [HML.out] at this
            exact this
          have HTK : Hid (P.take (j + 1) = P.take j ++ [P[j]]) := Hd (List.take_succ_eq_append_getElem hlt)
          have HKN : Hid (P[j] ∉ P.take j) := Hd (fun hm => by
            obtain ⟨t, ht, e⟩ := List.mem_iff_getElem.1 hm
            rw [List.length_take] at ht
            rw [List.getElem_take] at e
            have hnd : P.Nodup := by rw [← HPE.out]; exact needL_nodup _ _
            have := nodup_at hnd e
            omega)
          obtain ⟨b2, o2, hix2, -, hce2⟩ := (HR.out wr hbw).1.at (P := Tryz.prog) Tryz.underlying22 (by kernel_rfl) P[j] (by simpa using hkR)
          simp only [List.getElem_map] at hce2
          have hrx := ((HR.out wr hbw).2 _ (List.getElem_mem hkR)).1
          have HGD : Hid ((R.map Prod.fst).getD P[j] noR = R[P[j]].1) := Hd (by
            rw [getD_at (by rw [HML.out]; exact hkR), List.getElem_map])
          have hlen := (HBD.out _ (List.getElem_mem hkR)).2.2.2
          generalize P[j] = k at *
          have hc0 := hce2 0 _ rfl
          have hc1 := hce2 1 _ rfl
          have hc2 := hce2 2 _ rfl
          have hc3 := hce2 3 _ rfl
          simp only [Nat.add_zero] at hc0
          generalize R[k] = x at *
          obtain ⟨⟨x0, x1, x2, x4⟩, x3⟩ := x
          simp only at hc0 hc1 hc2 hc3 HGD hrx hlen
          obtain ⟨au, cu, hx3, -, -⟩ := id hrx
          rw [List.length_map] at hx3
          subst hx3
          have KCL := Hd (fun wl (hb : Below wr.heap.size wr wl) => cloneS_any (.slice au x4.length cu) x4 wl (hrx.below0 hb) hlen)
          have hb5 : Below wr.heap.size wr (wr.alloc (.cells #[str x0, str x1, str x2, .slice au x4.length cu] 35)) := (Below.refl _ wr).alloc (Nat.le_refl _) _
          have KC5 := Hd (KCL.out _ hb5)
          have hg5 : (wr.alloc (.cells #[str x0, str x1, str x2, .slice au x4.length cu] 35)).heap[wr.heap.size]? = some (.cells #[str x0, str x1, str x2, .slice au x4.length cu] 35 (0, 0)) := heap_alloc_here wr _
          have HG5 := Hd hg5
          have HB5 := Hd hb5
          have hcn := fun q => cell_of_heap hg5 q
          have HZ5 := Hd hzj
          clear hat hge hbj hbw hce2 hrx hlen hg5 hb5 KCL hmm
          go_wp2_with fail
          refine KC5.out.mono ?_
          rintro e w6 ⟨v6, rfl, ho6, hb6⟩
          have HO6 := Hd ho6
          have HB6 := Hd hb6
          obtain ⟨a6, c6, hv6, -, -⟩ := id (ownsRow_reads ho6)
          rw [List.length_map] at hv6
          subst hv6
          have hg6 := (hb6.block wr.heap.size (by simp)).trans HG5.out
          have HG6 := Hd hg6
          have hcn6 := fun q => cell_of_heap hg6 q
          have hfr6 := fun q => free_of_heap hg6 q
          clear ho6 hb6 hcn
          go_wp2_with fail
          obtain ⟨W7, hW7⟩ : ∃ W, w6.setCell ⟨wr.heap.size, 3, none⟩ (.slice a6 x4.length c6) = W := ⟨_, rfl⟩
          have hb56 : Below wr.heap.size wr w6 := HB5.out.trans (HB6.out.mono HB5.out.size)
          have hrb6 : wr.heap.size < w6.heap.size := lt_of_heap HG6.out
          have hb7 : Below wr.heap.size wr W7 := hb56.trans ((Fr.setCell (S := fun _ => False) (p := ⟨wr.heap.size, 3, none⟩) (Fr.refl wr.heap.size _ w6) (fun h => absurd h (by simp)) _).below (fun _ _ => id) |> fun h => hW7 ▸ h)
          have hz7 : W7.heap.size = w6.heap.size := by rw [← hW7]; simp [World.setCell]
          have hat7 := HAT.out.below hb7
          have hr7 : W7.heap[wr.heap.size]? = some (.cells #[str x0, str x1, str x2, .slice a6 x4.length c6] 35 (0, 0)) := by rw [← hW7]; exact Kf.heap_setCell_same HG6.out _
          have ho7 : W7.ownsRow (wr.heap.size + 1) 9 1 (.slice a6 x4.length c6) x4.length (x4.map str) := by
            rw [← hW7]
            refine ownsRow_setCell_other (by simpa using HO6.out) ?_ _
            intro e
            have := (HO6.out.lt _ e).1
            simp at this
            omega
          obtain ⟨esL, clL, hbL, hesL, hbornL, hltL⟩ := hat7.stat.lm
          obtain ⟨esY, clY, hbY, hesY, hbornY, hltY⟩ := hat7.stat.bm
          have hkL : mlook (k : Int) (stepM ⟨z + 2 + 1 + 1, z + 2, z + 2 + 1, z + 1, z, sb, iw, .pointer ca⟩ (P.take j)) = none := by rw [stepM_look, if_neg HKN.out]
          have hkY : mlook x0 (byL (R.map Prod.fst) (P.take j)) = none := by
            rw [mlook_none]
            intro hm
            unfold byL at hm
            rw [List.map_map] at hm
            obtain ⟨q, hq, e⟩ := List.mem_map.1 hm
            have hqP : q ∈ P := List.mem_of_mem_take hq
            have hql : q < (R.map Prod.fst).length := needL_lt (N := N) q (by rw [HPE.out]; exact hqP)
            have hkl : k < (R.map Prod.fst).length := by rw [HML.out]; exact hkR
            have e2 : ((R.map Prod.fst).getD q noR).out = ((R.map Prod.fst).getD k noR).out := by rw [HGD.out]; exact e
            rw [getD_at hql, getD_at hkl] at e2
            have := HRS.out.2.outs hql hkl e2
            subst this
            exact HKN.out hq
          have hlbz : z + 2 < W7.heap.size := by have := hb7.size; rw [← hW7] at this; have h2 := hat7.stat.lm.lt; exact h2
          have hybz : z + 2 + 1 < W7.heap.size := hat7.stat.bm.lt
          obtain ⟨o8, ho8⟩ : ∃ o8, Obj.cells #[str x0, str x1, str x2, .slice a6 x4.length c6, .int .i64 1, .bool false, .string ⟨#[]⟩, .nilIface] 151 (0, 0) = o8 := ⟨_, rfl⟩
          have hd7 : W7.drew.heap = W7.heap := rfl
          have hA0 : ∀ q, q < W7.heap.size → ((W7.alloc o8).drew).heap[q]? = W7.heap[q]? := fun q hq => Below.heap_alloc W7.drew o8 q hq
          have hs0 : ((W7.alloc o8).drew).heap.size = W7.heap.size + 1 := by
            show (W7.alloc o8).heap.size = _
            simp
          have eA1 := run_entry_new (P := Tryz.prog) needKey stepUnd (w := (W7.alloc o8).drew) ((hA0 _ hlbz).trans hbL) hesL (k : Int) hkL (stepZero _)
          have eB1 := run_entry_new (P := Tryz.prog) needKey stepUnd (w := W7.drew) hbL hesL (k : Int) hkL (stepZero _)
          have hBA : (putMap W7.drew (z + 2) (esL.push { key := .int .i64 (k : Int), val := .pointer none, born := clL }) (clL + 1)).alloc o8 = putMap ((W7.alloc o8).drew) (z + 2) (esL.push { key := .int .i64 (k : Int), val := .pointer none, born := clL }) (clL + 1) := putMap_alloc W7.drew (z + 2) (esL.push { key := .int .i64 (k : Int), val := .pointer none, born := clL }) (clL + 1) o8 hlbz
          obtain ⟨WA1, hWA1⟩ : ∃ W, putMap ((W7.alloc o8).drew) (z + 2) (esL.push { key := .int .i64 (k : Int), val := .pointer none, born := clL }) (clL + 1) = W := ⟨_, rfl⟩
          obtain ⟨WB1, hWB1⟩ : ∃ W, putMap W7.drew (z + 2) (esL.push { key := .int .i64 (k : Int), val := .pointer none, born := clL }) (clL + 1) = W := ⟨_, rfl⟩
          have hsB1 : WB1.heap.size = W7.heap.size := by
            rw [← hWB1, putMap_size]
            rfl
          have hA1 : ∀ q, WA1.heap[q]? = if q = z + 2 then some (.map (esL.push { key := .int .i64 (k : Int), val := .pointer none, born := clL }) (clL + 1)) else ((W7.alloc o8).drew).heap[q]? := fun q => by
            rw [← hWA1, putMap_heap]
            by_cases h : q = z + 2
            · rw [if_pos ⟨h, by omega⟩, if_pos h]
            · rw [if_neg (fun e => h e.1), if_neg h]
          have hs1 : WA1.heap.size = W7.heap.size + 1 := by rw [← hWA1, putMap_size, hs0]
          rw [hWA1] at eA1 hBA
          rw [hWB1] at eB1 hBA
          simp only at eB1
          have eA2 := run_entry_store (P := Tryz.prog) (T := 145) (w := WA1) (by rw [hA1, if_pos rfl]) hltL (ptrV W7.heap.size)
          obtain ⟨WA2, hWA2⟩ : ∃ W, putMap WA1 (z + 2) (esL.push { key := .int .i64 (k : Int), val := ptrV W7.heap.size, born := clL }) (clL + 1) = W := ⟨_, rfl⟩
          have hA2 : ∀ q, WA2.heap[q]? = if q = z + 2 then some (.map (esL.push { key := .int .i64 (k : Int), val := ptrV W7.heap.size, born := clL }) (clL + 1)) else ((W7.alloc o8).drew).heap[q]? := fun q => by
            rw [← hWA2, putMap_heap, hA1]
            by_cases h : q = z + 2
            · rw [if_pos ⟨h, by omega⟩, if_pos h]
            · rw [if_neg (fun e => h e.1), if_neg h, if_neg h]
          have hs2 : WA2.heap.size = W7.heap.size + 1 := by rw [← hWA2, putMap_size, hs1]
          rw [hWA2] at eA2
          have eB2 := eA2
          rw [← hBA] at eB2
          have hYne : ¬ z + 2 + 1 = z + 2 := by omega
          have hbY2 : WA2.heap[z + 2 + 1]? = some (.map esY clY) := by rw [hA2, if_neg hYne]; exact (hA0 _ hybz).trans hbY
          have eA3 := run_entry_new (P := Tryz.prog) byKey byUnd (w := WA2) hbY2 hesY x0 hkY (byZero _)
          obtain ⟨WA3, hWA3⟩ : ∃ W, putMap WA2 (z + 2 + 1) (esY.push { key := str x0, val := .int .i64 0, born := clY }) (clY + 1) = W := ⟨_, rfl⟩
          have hA3 : ∀ q, WA3.heap[q]? = if q = z + 2 + 1 then some (.map (esY.push { key := str x0, val := .int .i64 0, born := clY }) (clY + 1)) else WA2.heap[q]? := fun q => by
            rw [← hWA3, putMap_heap]
            by_cases h : q = z + 2 + 1
            · rw [if_pos ⟨h, by omega⟩, if_pos h]
            · rw [if_neg (fun e => h e.1), if_neg h]
          have hs3 : WA3.heap.size = W7.heap.size + 1 := by rw [← hWA3, putMap_size, hs2]
          rw [hWA3] at eA3
          have eA4 := run_entry_store (P := Tryz.prog) (T := 146) (w := WA3) (by rw [hA3, if_pos rfl]) hltY (intE k)
          obtain ⟨WA4, hWA4⟩ : ∃ W, putMap WA3 (z + 2 + 1) (esY.push { key := str x0, val := intE k, born := clY }) (clY + 1) = W := ⟨_, rfl⟩
          have hA4 : ∀ q, WA4.heap[q]? = if q = z + 2 + 1 then some (.map (esY.push { key := str x0, val := intE k, born := clY }) (clY + 1)) else WA2.heap[q]? := fun q => by
            rw [← hWA4, putMap_heap, hA3]
            by_cases h : q = z + 2 + 1
            · rw [if_pos ⟨h, by omega⟩, if_pos h]
            · rw [if_neg (fun e => h e.1), if_neg h, if_neg h]
          rw [hWA4] at eA4
          have HF4 : Hid (Fr W7.heap.size (fun q => q = z + 2 ∨ q = z + 2 + 1) W7 WA4) := Hd (by
            have f0 : Fr W7.heap.size (fun q => q = z + 2 ∨ q = z + 2 + 1) W7 ((W7.alloc o8).drew) := ((Fr.refl _ _ _).alloc (Nat.le_refl _) _).drew
            rw [← hWA4, ← hWA3, ← hWA2, ← hWA1]
            exact (((f0.putMap (fun _ => Or.inl rfl) _ _).putMap (fun _ => Or.inl rfl) _ _).putMap (fun _ => Or.inr rfl) _ _).putMap (fun _ => Or.inr rfl) _ _)
          have HZL := Hd (And.intro hlbz hybz)
          have HSX : Hid (∀ wl : World, (∀ q, q = z + 2 + 1 + 1 ∨ q = wr.heap.size → wl.heap[q]? = W7.heap[q]?) → wl.cell? ⟨z + 2 + 1 + 1, 1, none⟩ = some (.map (some (z + 2))) ∧ wl.cell? ⟨z + 2 + 1 + 1, 2, none⟩ = some (.map (some (z + 2 + 1))) ∧ wl.cell? ⟨wr.heap.size, 0, none⟩ = some (str x0) ∧ wl.cell? ⟨wr.heap.size, 1, none⟩ = some (str x1) ∧ wl.cell? ⟨wr.heap.size, 2, none⟩ = some (str x2) ∧ wl.cell? ⟨wr.heap.size, 3, none⟩ = some (.slice a6 x4.length c6)) := Hd (fun wl h => by
            have h1 := (h _ (Or.inl rfl)).trans hat7.stat.blk
            have h2 := (h _ (Or.inr rfl)).trans hr7
            exact ⟨(cell_of_heap h1 1).trans rfl, (cell_of_heap h1 2).trans rfl, (cell_of_heap h2 0).trans rfl, (cell_of_heap h2 1).trans rfl, (cell_of_heap h2 2).trans rfl, (cell_of_heap h2 3).trans rfl⟩)
          have hzb : z + 2 + 1 + 1 < W7.heap.size := lt_of_heap hat7.stat.blk
          have hzr : wr.heap.size < W7.heap.size := lt_of_heap hr7
          have hnr : ¬ wr.heap.size = z + 2 ∧ ¬ wr.heap.size = z + 2 + 1 := by omega
          have HS0 := HSX.out W7.drew (fun q _ => rfl)
          have HS1 := HSX.out ((W7.alloc o8).drew) (fun q hq => hA0 q (by rcases hq with rfl | rfl <;> omega))
          have HS2 := HSX.out WA1 (fun q hq => by rw [hA1, if_neg (by rcases hq with rfl | rfl <;> omega)]; exact hA0 q (by rcases hq with rfl | rfl <;> omega))
          have HS3 := HSX.out WA2 (fun q hq => by rw [hA2, if_neg (by rcases hq with rfl | rfl <;> omega)]; exact hA0 q (by rcases hq with rfl | rfl <;> omega))
          have HS4 := HSX.out WA3 (fun q hq => by rw [hA3, if_neg (by rcases hq with rfl | rfl <;> omega), hA2, if_neg (by rcases hq with rfl | rfl <;> omega)]; exact hA0 q (by rcases hq with rfl | rfl <;> omega))
          have HS5 := HSX.out WA4 (fun q hq => by rw [hA4, if_neg (by rcases hq with rfl | rfl <;> omega), hA2, if_neg (by rcases hq with rfl | rfl <;> omega)]; exact hA0 q (by rcases hq with rfl | rfl <;> omega))
          have HS6 := HSX.out WB1 (fun q hq => by
            rw [← hWB1, putMap_heap, if_neg (fun e => by have := e.1; rcases hq with rfl | rfl <;> omega)]
            rfl)
          have HS7 := HS2
          rw [← hBA] at HS7
          have HA0 := Hd hA0
          have HA2 := Hd hA2
          have HA4 := Hd hA4
          have HSZ := Hd (show WA4.heap.size = W7.heap.size + 1 by rw [← hWA4, putMap_size, hs3])
          have HAT7 := Hd hat7
          have HB7 := Hd hb7
          have HO7 := Hd ho7
          have HESL := Hd (And.intro hesL (And.intro hbornL hltL))
          have HESY := Hd (And.intro hesY (And.intro hbornY hltY))
          have HKS : Hid ((WB1.alloc o8) = WA1) := Hd hBA
          have HO8 := Hd ho8
          have HZ7 := Hd hz7
          rw [hW7]
          clear hz7 hA0 hA1 hA2 hA3 hA4 hWA1 hWA2 hWA3 hWA4 hWB1 hBA hW7 hr7 ho7 hbL hesL hbornL hltL hbY hesY hbornY hltY hbY2 hkL hkY hat7 hb7 hb56 hrb6 hg6 hcn6 hfr6
          subst ho8
          go_region_held3 (fun w' => w'.cell? ⟨z + 2 + 1 + 1, 1, none⟩ = some (.map (some (z + 2))) ∧ w'.cell? ⟨z + 2 + 1 + 1, 2, none⟩ = some (.map (some (z + 2 + 1))) ∧ w'.cell? ⟨wr.heap.size, 0, none⟩ = some (str x0) ∧ w'.cell? ⟨wr.heap.size, 1, none⟩ = some (str x1) ∧ w'.cell? ⟨wr.heap.size, 2, none⟩ = some (str x2) ∧ w'.cell? ⟨wr.heap.size, 3, none⟩ = some (.slice a6 x4.length c6))
            (first | exact HS0 | exact HS1 | exact HS2 | exact HS3 | exact HS4 | exact HS5 | exact HS6 | exact HS7)
            (first | fail)
          all_goals
            have HNX : Hid (BAt S (R.map Prod.fst) (P.take (j + 1)) m ⟨z + 2 + 1 + 1, z + 2, z + 2 + 1, z + 1, z, fun q => if q = k then W7.heap.size else sb q, fun q => if q = k then .slice a6 x4.length c6 else iw q, .pointer ca⟩ WA4 (fun _ => st0) ∧ Fr W7.heap.size (fun q => q = z + 2 ∨ q = z + 2 + 1) W7 WA4) := Hd (by
              refine ⟨?_, HF4.out⟩
              rw [HTK.out]
              have hl2 : WA4.heap[z + 2]? = some (.map (esL.push { key := .int .i64 (k : Int), val := ptrV W7.heap.size, born := clL }) (clL + 1)) := by
                rw [HA4.out, if_neg (by omega), HA2.out, if_pos rfl]
              have hy2 : WA4.heap[z + 2 + 1]? = some (.map (esY.push { key := str x0, val := intE k, born := clY }) (clY + 1)) := by
                rw [HA4.out, if_pos rfl]
              have hst : WA4.heap[W7.heap.size]? = some (.cells #[str x0, str x1, str x2, .slice a6 x4.length c6, .int .i64 1, .bool false, .string ⟨#[]⟩, .nilIface] 151 (0, 0)) := by
                have h1 := HZL.out.1
                have h2 := HZL.out.2
                rw [HA4.out, if_neg (by omega), HA2.out, if_neg (by omega)]
                exact heap_alloc_here W7 _
              refine bat_add (D := ⟨z + 2 + 1 + 1, z + 2, z + 2 + 1, z + 1, z, sb, iw, .pointer ca⟩) HAT7.out HKN.out ⟨by show z ≠ z + 2; omega, by show z ≠ z + 2 + 1; omega⟩ (mapIs_push hl2 HESL.out.1 HESL.out.2.1 HESL.out.2.2) ?_ HF4.out ?_ (Nat.le_refl _) ?_
              · rw [HGD.out]
                exact mapIs_push hy2 HESY.out.1 HESY.out.2.1 HESY.out.2.2
              · rw [HGD.out]
                exact hst
              · rw [HGD.out]
                exact ownsRow_base HO7.out (Nat.zero_le _))
            have hj1 : j + 1 ≤ P.length := hlt
            have HJ1 := Hd hj1
            have hmz : P.length - (j + 1) < P.length - j := by omega
            have HMZ := Hd hmz
            have hj40 : j ≤ 40 := by have := needL_len (R.map Prod.fst).length N; rw [HPE.out, HML.out] at this; omega
            clear eA1 eA2 eA3 eA4 eB1 eB2 HS0 HS1 HS2 HS3 HS4 HS5 HS6 HS7 hmz hj1
            go_wp2
            go_roundw
            case rel => exact ⟨j + 1, _, _, HJ1.out, by go_num, HNX.out.1, (fun i hi => by
                have h7 := HB7.out.size
                have hz5 := HZ5.out
                rw [HTK.out] at hi
                rcases List.mem_append.1 hi with hi | hi
                · have hne : ¬ i = k := fun e => HKN.out (e ▸ hi)
                  have := HGE.out i hi
                  simp only [if_neg hne]
                  exact this
                · have hik := List.mem_singleton.1 hi
                  simp only [if_pos hik]
                  refine ⟨by omega, fun q hq => ?_⟩
                  have := (HO7.out.lt q hq).1
                  omega), ((Fr.of_below HBJ.out).trans ((Fr.of_below (HB7.out.mono HBJ.out.size)).trans (HNX.out.2.mono (S' := fun q => q = z + 2 ∨ q = z + 2 + 1) (Nat.le_trans HBJ.out.size HB7.out.size) (fun _ _ h => h)))).below (fun q hq e => by have := HZ.out; rcases e with e | e <;> omega), by have h1 := HSZ.out; have h7 := HB7.out.size; have hz5 := HZ5.out; omega⟩
            case measure => have := HMZ.out; simp [intOf]; omega
        · obtain rfl : j = P.length := by omega
          have hlc : ((P.length : Int) < (P.length : Int)) = False := eq_false (by omega)
          rw [List.take_length] at HAT HGE
          clear hat hge hbj
          go_wp2
          go_ret2
          refine ⟨Or.inr ⟨ks, N, o, ⟨z + 2 + 1 + 1, z + 2, z + 2 + 1, z + 1, z, sb, iw, .pointer ca⟩, HPL.out, HN.out, ?_, ?_, rfl, rfl, ?_, ?_⟩, ?_⟩
          · rw [HPE.out]; exact HORD.out
          · exact ord_of HRS.out HPL.out.1 HN.out (by rw [HPE.out]; exact HORD.out)
          · rw [HPE.out]; exact HAT.out
          · rw [HPE.out]
            have h2 := HB2.out.size
            have h3 := HZ.out
            intro q hq
            rcases hq with (h | h | h | h | h | ⟨i, hi, hq⟩) | ⟨i, hi, rfl⟩
            · replace h : q = z + 2 + 1 + 1 := h
              omega
            · replace h : q = z + 2 := h
              omega
            · replace h : q = z + 2 + 1 := h
              omega
            · replace h : q = z + 1 := h
              omega
            · replace h : q = z := h
              omega
            · have := (HGE.out i hi).2 q hq
              omega
            · have := (HGE.out i hi).1
              show w.heap.size ≤ sb i
              omega
          · exact HB2.out.trans (HBJ.out.mono HB2.out.size)
end Go.Proofs.YtgjialbmlhbngaaGreatDoor
