/-
  The walk of asBuild: has a build what its model has?
-/
import Derived.Test.YtgjialbmlhbngaaGreatDoorRbK
import Derived.Test.YtgjialbmlhbngaaGreatDoorPkO

set_option maxRecDepth 100000
namespace Go.Proofs.YtgjialbmlhbngaaGreatDoor
open Go Go.RowKit Go.Kf Go.Sort Go.Proofs
section
variable {P : Program} {ops : Array Oper} {Q : Exit → Act → World → Prop} {md : Region.Mode} {S : World → Prop}
theorem tkH (i : Nat) {oi : Oper} {v : Value} {fuel : Nat} {listed : Array Bool} {a : Act} {w : World} (hi : ops[i]? = some oi) (hs : Region.noSelect ops = true) (hf : Region.free md ops listed i = true) (hr : (Region.ready md ops listed).contains i = true)
    (hQ : ∀ c a w, Q (.panic c) (a.put oi.dst v) w → Q (.panic c) a w) (hw : Region.wanted oi (yielded ops a.tmps) = true) (hS : S w) (hy : ∀ w, S w → (execOp a.eval oi).run P w = .ok (.value v) w) (h : wpAnyH P md ops Q S fuel (listed.setIfInBounds i true) (a.put oi.dst v) w) : wpAnyH P md ops Q S (fuel + 1) listed a w :=
  wpAnyH_take hi hs hf hr hQ (Or.inl ⟨hw, hy⟩) hS h
theorem tkN (i : Nat) {oi : Oper} {fuel : Nat} {listed : Array Bool} {a : Act} {w : World} (hi : ops[i]? = some oi) (hs : Region.noSelect ops = true) (hf : Region.free md ops listed i = true) (hr : (Region.ready md ops listed).contains i = true)
    (hQ : ∀ c a w, Q (.panic c) (a.put oi.dst undef) w → Q (.panic c) a w) (hw : Region.wanted oi (yielded ops a.tmps) = false) (hS : S w) (h : wpAnyH P md ops Q S fuel (listed.setIfInBounds i true) (a.put oi.dst undef) w) : wpAnyH P md ops Q S (fuel + 1) listed a w :=
  wpAnyH_take hi hs hf hr hQ (Or.inr ⟨hw, rfl⟩) hS h
end
def resQ (P : List Nat) (st : Nat → St) (i : Nat) : List UInt8 × Bool := if i ∈ P then resOf (st i) else ([], false)
section
variable {S : Nat → Addr} {l : List RuleL} {P : List Nat} {m : List Ent} {D : BPl} {w : World} {st : Nat → St}
theorem bresQ_any (h : BAt S l P m D w st) (i : Nat) :
    Calls Tryz.prog 74 #[ptrV D.b, .int .i64 (i : Int)] w fun e w' => e = .returned (.tuple #[str (resQ P st i).1, .bool (resQ P st i).2]) ∧ Below w.heap.size w w' := by
  unfold resQ
  by_cases hP : i ∈ P
  · rw [if_pos hP]
    exact bResult_any w h hP
  · rw [if_neg hP]
    exact bResultNo_any w h (i := (i : Int)) (fun k hk e => hP (by
      have : i = k := by omega
      exact this ▸ hk))
theorem bwhyQ_any (h : BAt S l P m D w st) (hre : ∀ j, j ∉ P → st j = st0) (i : Nat) :
    Calls Tryz.prog 108 #[ptrV D.b, .int .i64 (i : Int)] w fun e w' => e = .returned (errN S (st i).why) ∧ Below w.heap.size w w' := by
  by_cases hP : i ∈ P
  · exact bWhy_any w h hP
  · rw [hre i hP]
    exact bWhyNo_any w h (i := (i : Int)) (fun k hk e => hP (by
      have : i = k := by omega
      exact this ▸ hk))
end
theorem resQ_done {P : List Nat} {st : Nat → St} {i : Nat} (h : rSt P st i = stName 2) (hone : ∀ i ∈ P, 1 ≤ (st i).state ∧ (st i).state ≤ 4) : resQ P st i = ((st i).out, true) := by
  obtain ⟨h1, h2⟩ := (rSt_at (by omega) (hone i)).1 h
  simp [resQ, h1, resOf, h2]
theorem resQ_not {P : List Nat} {st : Nat → St} {i : Nat} (h : rSt P st i ≠ stName 2) : resQ P st i = ([], false) := by
  unfold resQ
  by_cases hP : i ∈ P
  · rw [if_pos hP]
    unfold resOf
    rw [if_neg (fun h2 => h (by rw [rSt_in hP, h2]))]
  · rw [if_neg hP]
def wN (P : List Nat) (st : Nat → St) (k : Nat) : Nat := ((List.range k).filter fun i => rSt P st i == [119, 97, 105, 116, 115]).length
theorem wN_succ (P : List Nat) (st : Nat → St) (k : Nat) : wN P st (k + 1) = wN P st k + if rSt P st k = [119, 97, 105, 116, 115] then 1 else 0 := by
  unfold wN
  rw [List.range_succ, List.filter_append, List.length_append]
  congr 1
  by_cases h : rSt P st k = [119, 97, 105, 116, 115]
  · simp [h]
  · simp [h]
theorem wN_le (P : List Nat) (st : Nat → St) (k : Nat) : wN P st k ≤ k := by
  have := List.length_filter_le (fun i => rSt P st i == [119, 97, 105, 116, 115]) (List.range k)
  simpa [wN] using this
theorem wN_over {l : List RuleL} {P : List Nat} {st : Nat → St} (h : PartOk l P) (hone : ∀ i ∈ P, 1 ≤ (st i).state ∧ (st i).state ≤ 4) : (((wN P st l.length : Nat) : Int) == 0) = overB P st := by
  rw [Bool.eq_iff_iff, overB_iff]
  have h1 : (((wN P st l.length : Nat) : Int) == 0) = true ↔ wN P st l.length = 0 := by simp
  rw [h1]
  unfold wN
  rw [List.length_eq_zero_iff, List.filter_eq_nil_iff]
  constructor
  · intro h2 i hi hs
    exact h2 i (List.mem_range.2 (h.lt i hi)) (by rw [rSt_in hi, hs]; rfl)
  · intro h2 i _ hs
    have h3 : rSt P st i = stName 1 := by simpa [stName] using hs
    obtain ⟨h4, h5⟩ := (rSt_at (by omega) (hone i)).1 h3
    exact h2 i h4 h5
set_option maxHeartbeats 4000000 in
theorem asBuild_any {S : Nat → Addr} {R : List RV} {v lvR : Value} {m L : List Ent} {P : List Nat} {D : BPl} {X : RBx} {cv : Value} {base : Nat} {w : World} {st : Nat → St} (hA : BAt S (R.map Prod.fst) P m D w st) (hB : RBAt X R.length v lvR L P cv base w st) (hi : BInv (R.map Prod.fst) P (fun p => mlook p m) st) (hre : ∀ j, j ∉ P → st j = st0) (hP : PartOk (R.map Prod.fst) P)
    (hr : ReadsK 4 w v (R.map rvRow)) (hx : ∀ x ∈ R, Reads w x.2 (x.1.ins.map str)) (hn : R.length ≤ 1000) (hlen : ∀ r ∈ R.map Prod.fst, r.ins.length ≤ 1000) (hcode : ∀ wl, Below w.heap.size w wl → ∀ i, Calls Tryz.prog 30 #[errN S (st i).why, intE (st i).why] wl fun e w' => e = .returned (.bool true) ∧ Below wl.heap.size wl w') :
    Calls Tryz.prog 38 #[ptrV D.b, ptrV X.b] w fun e w' => e = .returned (.bool true) ∧ Below w.heap.size w w' := by
  have hrow : ∀ r ∈ R.map rvRow, r ≠ [] := fun r hr => by obtain ⟨x, -, rfl⟩ := List.mem_map.1 hr; simp [rvRow]
  obtain ⟨a, c, hv, -, -⟩ := id hr
  rw [List.length_map] at hv
  subst hv
  have hml : (R.map Prod.fst).length = R.length := List.length_map _
  have K1 := Hd (bReady_any w hA hP hlen)
  have K2 := Hd (fun w1 (hb : Below w.heap.size w w1) => rReady_any X R (.slice a R.length c) lvR L P cv base w1 st (hB.below hb) ⟨hP.lt, hP.shut, hi.one⟩ (readsK_below0 hr hrow hb) (fun x h => (hx x h).below0 hb) hn hP)
  have KRES := Hd (fun w1 (hb : Below w.heap.size w w1) (i : Nat) => bresQ_any (hA.below hb) i)
  have KRNO := Hd (fun w1 (hb : Below w.heap.size w w1) (i : Int) (h : ∀ (k : Nat), k ∈ P → i ≠ (k : Int)) => bResultNo_any w1 (hA.below hb) h)
  have KST := Hd (fun w1 (hb : Below w.heap.size w w1) (i : Nat) => bstR_any (hA.below hb) hi i)
  have KSNO := Hd (fun w1 (hb : Below w.heap.size w w1) (i : Int) (h : ∀ (k : Nat), k ∈ P → i ≠ (k : Int)) => bStateNo_any w1 (hA.below hb) h)
  have KWHY := Hd (fun w1 (hb : Below w.heap.size w w1) (i : Nat) => bwhyQ_any (hA.below hb) hre i)
  have KWNO := Hd (fun w1 (hb : Below w.heap.size w w1) (i : Int) (h : ∀ (k : Nat), k ∈ P → i ≠ (k : Int)) => bWhyNo_any w1 (hA.below hb) h)
  have KCNT := Hd (fun w1 (hb : Below w.heap.size w w1) => bcount_any w1 (hA.below hb) hP)
  have KOV := Hd (fun w1 (hb : Below w.heap.size w w1) => bOver_any w1 (hA.below hb) hP)
  have KMA := Hd (fun w1 (hb : Below w.heap.size w w1) (s : List UInt8) (b : Bool) => rmany_any X R.length (.slice a R.length c) lvR L P cv base w1 st (hB.below hb) ⟨a, c, rfl⟩ hn s b)
  have HM1 := many_ran hP hi
  have HM2 := many_hit hP hi
  have HM3 := many_failed hP hi
  have HM4 := many_left hP hi
  have HWO := wN_over hP hi.one
  rw [hml] at HM1 HM2 HM3 HM4 HWO
  simp only [stName] at HM1 HM2 HM3 HM4
  have HM := Hd ((⟨HM1, HM2, HM3, HM4⟩ : _ ∧ _ ∧ _ ∧ _))
  have HWV := Hd HWO
  have HCO := Hd hcode
  have HRQ : Hid (∀ i, (rSt P st i = [100, 111, 110, 101] → resQ P st i = ((st i).out, true)) ∧ (rSt P st i ≠ [100, 111, 110, 101] → resQ P st i = ([], false))) := Hd (fun i => ⟨fun h => resQ_done h hi.one, fun h => resQ_not h⟩)
  have HNP : Hid (∀ i : Int, (i < 0 ∨ i = (R.length : Int)) → ∀ (k : Nat), k ∈ P → i ≠ (k : Int)) := Hd (fun i h k hk e => by
    have := hP.lt k hk
    rw [hml] at this
    omega)
  have HBX := Hd (fun w1 (hb : Below w.heap.size w w1) => (hB.below hb).box)
  have HBS := Hd (fun w1 (hb : Below w.heap.size w w1) (k : Nat) (hk : k < R.length) => ((⟨(hB.below hb).state.cell (k := k) (v := str (rSt P st k)) (by rw [List.getElem?_map, List.getElem?_range hk]; rfl), (hB.below hb).out.cell (k := k) (v := str (st k).out) (by rw [List.getElem?_map, List.getElem?_range hk]; rfl), (hB.below hb).why.cell (k := k) (v := intE (st k).why) (by rw [List.getElem?_map, List.getElem?_range hk]; rfl)⟩ : w1.cell? ⟨X.s, k, none⟩ = some (str (rSt P st k)) ∧ w1.cell? ⟨X.o, k, none⟩ = some (str (st k).out) ∧ w1.cell? ⟨X.y, k, none⟩ = some (intE (st k).why))))
  have HIX := Hd (fun g k (hk : k < R.length) => idx_at (P := Tryz.prog) (T := 33) (E := 9) Tryz.underlying33 (by kernel_rfl) g R.length R.length k hk)
  have HIY := Hd (fun g k (hk : k < R.length) => idx_at (P := Tryz.prog) (T := 53) (E := 3) Tryz.underlying53 (by kernel_rfl) g R.length R.length k hk)
  clear hA hB hi hre hP hr hx hlen hcode hrow hml HM1 HM2 HM3 HM4 HWO
  generalize readyL (R.map Prod.fst) P st = rd at *
  go_enter Tryz.func38, Tryz.ntmps38
  go_wp2_with fail
  refine K1.out.mono ?_
  rintro e w1 ⟨u1, rfl, ho1, hb1⟩
  have HB1 := Hd hb1
  have HO1 := Hd ho1
  clear ho1 hb1 K1
  go_wp2_with fail
  refine (K2.out w1 HB1.out).mono ?_
  rintro e w2 ⟨u2, rfl, ho2, hb2⟩
  have HB2 := Hd (HB1.out.trans (hb2.mono HB1.out.size))
  have HO12 := Hd (row_below HO1.out hb2)
  have KSI := Hd (sameInts _ _ (intsB rd) (intsB rd) w2 (ownsRow_reads HO12.out) (ownsRow_reads ho2) (fun k hk => (HO12.out.lt k hk).2) (fun k hk => (ho2.lt k hk).2))
  rw [beq_self_eq_true] at KSI
  clear ho2 hb2 K2
  go_wp2_with fail
  refine KSI.out.mono ?_
  rintro e w3 ⟨rfl, hb3⟩
  have HB3 := Hd (HB2.out.trans (hb3.mono HB2.out.size))
  clear hb3 KSI
  go_wp2_with fail
  go_loopw [5, 6] (fun wv iv wl => ∃ (j : Nat) (z : Int), j ≤ R.length + 2 ∧ z = (j : Int) - 1 ∧ iv = .int .i64 z ∧ wv = intE (wN P st (min (j - 1) R.length)) ∧ Below w.heap.size w wl) (fun _ iv _ => R.length + 2 - (intOf iv + 1).toNat)
  case atStart => exact ⟨0, -1, by omega, by omega, rfl, by simp [wN], HB3.out⟩
  case round =>
    obtain ⟨j, z, hj, hz, rfl, rfl, hbj⟩ := hrel
    have HBJ := Hd hbj
    have HZ : Hid (z = (j : Int) - 1 ∧ j ≤ R.length + 2) := Hd ⟨hz, hj⟩
    have c1 : wr.cell? ⟨X.b, 1, none⟩ = some (.slice a R.length c) := (HBX.out _ hbj).cell rfl
    have hzj := hbj.size
    have hwle := wN_le P st (min (j - 1) R.length)
    by_cases hlt : j = R.length + 2
    · have hlc : (z ≤ (R.length : Int)) = False := eq_false (by omega)
      have hmn : min (j - 1) R.length = R.length := by omega
      rw [hmn] at hwle ⊢
      have KC := Hd (KCNT.out wr hbj)
      have HWV2 := Hd HWV.out
      clear hbj hz hj hlt hmn HZ
      generalize cntP P st isRan = q1 at *
      generalize cntP P st isHit = q2 at *
      generalize cntP P st isFailed = q3 at *
      generalize cntP P st isLeft = q4 at *
      generalize wN P st R.length = nw at *
      go_wp2_with fail
      refine KC.out.mono ?_
      rintro e w4 ⟨rfl, hb4⟩
      have HB4 := Hd (HBJ.out.trans (hb4.mono HBJ.out.size))
      have hz4 := HB4.out.size
      clear hb4 KC
      obtain ⟨W4, hW4⟩ : ∃ W, w4.alloc (.cells #[.int .i64 (q1 : Int), .int .i64 (q2 : Int), .int .i64 (q3 : Int), .int .i64 (q4 : Int)] 45) = W := ⟨_, rfl⟩
      have hA4 : Below w.heap.size w W4 := hW4 ▸ HB4.out.alloc hz4 _
      have hg4 : W4.heap[w4.heap.size]? = some (.cells #[.int .i64 (q1 : Int), .int .i64 (q2 : Int), .int .i64 (q3 : Int), .int .i64 (q4 : Int)] 45 (0, 0)) := hW4 ▸ heap_alloc_here w4 _
      have HA4 := Hd hA4
      have HG4 := Hd (fun wl (h : ∃ n, wl = W4.drewN n) => (by
        obtain ⟨n, rfl⟩ := h
        exact ⟨cell_of_heap hg4 0, cell_of_heap hg4 1, cell_of_heap hg4 2, cell_of_heap hg4 3⟩ : wl.cell? ⟨w4.heap.size, 0, none⟩ = some (.int .i64 (q1 : Int)) ∧ wl.cell? ⟨w4.heap.size, 1, none⟩ = some (.int .i64 (q2 : Int)) ∧ wl.cell? ⟨w4.heap.size, 2, none⟩ = some (.int .i64 (q3 : Int)) ∧ wl.cell? ⟨w4.heap.size, 3, none⟩ = some (.int .i64 (q4 : Int))))
      have KM4 := Hd (fun s b => KMA.out W4.drew (HA4.out.drew) s b)
      have HW4 := Hd hW4
      clear hA4 hg4 hW4
      go_wp2_with fail
      rw [HW4.out]
      go_region_held3 (fun w' => w'.cell? ⟨w4.heap.size, 0, none⟩ = some (.int .i64 (q1 : Int)) ∧ w'.cell? ⟨w4.heap.size, 1, none⟩ = some (.int .i64 (q2 : Int)) ∧ w'.cell? ⟨w4.heap.size, 2, none⟩ = some (.int .i64 (q3 : Int)) ∧ w'.cell? ⟨w4.heap.size, 3, none⟩ = some (.int .i64 (q4 : Int)))
        (first | exact HG4.out _ ⟨1, rfl⟩)
        (first
          | (go_at_call 110
             refine (KM4.out _ _).mono ?_
             rintro e w5 ⟨rfl, rfl⟩
             first | rw [HM.out.1] | rw [HM.out.2.1] | rw [HM.out.2.2.1] | rw [HM.out.2.2.2]))
      have KO := Hd (KOV.out W4.drew HA4.out.drew)
      have HD4 := Hd HA4.out.drew
      have hov := HWV2.out
      generalize overB P st = ob at *
      go_wp2_with fail
      refine KO.out.mono ?_
      rintro e w6 ⟨rfl, hb6⟩
      have HB6 := Hd (HD4.out.trans (hb6.mono HD4.out.size))
      clear hb6
      go_wp2
      go_ret
      exact ⟨by first | rfl | (rw [HWV2.out]; simp), HB6.out⟩
    · have hlc : (z ≤ (R.length : Int)) = True := eq_true (by omega)
      by_cases hend : z < 0 ∨ z = (R.length : Int)
      · have hzn := HNP.out z hend
        have hres : min (j + 1 - 1) R.length = min (j - 1) R.length := by omega
        have hzb : -1 ≤ z ∧ z ≤ 1000 := by omega
        have HRES := Hd hres
        have HJ : Hid (j + 1 ≤ R.length + 2 ∧ z + 1 = ((j + 1 : Nat) : Int) - 1 ∧ R.length + 2 - (z + 1 + 1).toNat < R.length + 2 - (z + 1).toNat) := Hd (by omega)
        generalize min (j - 1) R.length = mj at *
        clear hbj hz hj hres
        rcases hend with hend | hend
        case' inl => have e1 : (z < 0) = True := eq_true hend
        case' inr => have e1 : (z < 0) = False := eq_false (by omega)
        case' inr => have e2 : (z = (R.length : Int)) = True := eq_true hend
        case' inr => have e3 : (z == (R.length : Int)) = true := by simpa using hend
        all_goals
          have HE := Hd hend
          clear hend
          go_wp2_with fail
          refine (KRNO.out wr HBJ.out z hzn).mono ?_
          rintro e w4 ⟨rfl, hb4⟩
          have HB4 := Hd (HBJ.out.trans (hb4.mono HBJ.out.size))
          have c1 : w4.cell? ⟨X.b, 1, none⟩ = some (.slice a R.length c) := (HBX.out _ HB4.out).cell rfl
          clear hb4
          go_wp2_with fail
          refine (KSNO.out w4 HB4.out z hzn).mono ?_
          rintro e w5 ⟨rfl, hb5⟩
          have HB5 := Hd (HB4.out.trans (hb5.mono HB4.out.size))
          clear hb5
          go_wp2_with fail
          refine (KWNO.out w5 HB5.out z hzn).mono ?_
          rintro e w6 ⟨rfl, hb6⟩
          have HB6 := Hd (HB5.out.trans (hb6.mono HB5.out.size))
          clear hb6
          go_wp2
          go_roundw
          case rel => exact ⟨j + 1, z + 1, HJ.out.1, HJ.out.2.1, by go_num, by rw [HRES.out], HB6.out⟩
          case measure => simp only [intOf]; exact HJ.out.2.2
      · obtain ⟨k, rfl⟩ : ∃ k : Nat, z = (k : Int) := ⟨z.toNat, by omega⟩
        obtain rfl : j = k + 1 := by omega
        have hk : k < R.length := by omega
        have hm1 : min (k + 1 - 1) R.length = k := by omega
        have hm2 : min (k + 1 + 1 - 1) R.length = k + 1 := by omega
        have HM2 := Hd hm2
        rw [hm1] at hwle ⊢
        have e1 : ((k : Int) < 0) = False := eq_false (by omega)
        have e2 : ((k : Int) = (R.length : Int)) = False := eq_false (by omega)
        have e3 : ((k : Int) == (R.length : Int)) = false := by simpa using (by omega : ¬ (k : Int) = (R.length : Int))
        have KR := Hd (KRES.out wr hbj k)
        have HWS := Hd (wN_succ P st k)
        have HQ := HRQ.out k
        have KSt := Hd (fun wl (hb : Below w.heap.size w wl) => (KST.out wl hb k).mono (fun e w' h => (⟨h.1, hb.trans (h.2.mono hb.size)⟩ : _ ∧ Below w.heap.size w w')))
        have KWy := Hd (fun wl (hb : Below w.heap.size w wl) => (KWHY.out wl hb k).mono (fun e w' h => (⟨h.1, hb.trans (h.2.mono hb.size)⟩ : _ ∧ Below w.heap.size w w')))
        have HCC := Hd (fun wl (hb : Below w.heap.size w wl) => (HCO.out wl hb k).mono (fun e w' h => (⟨h.1, hb.trans (h.2.mono hb.size)⟩ : _ ∧ Below w.heap.size w w')))
        have HCL := Hd (fun w1 (hb : Below w.heap.size w w1) => (⟨(HBX.out w1 hb).cell rfl, (HBX.out w1 hb).cell rfl, (HBX.out w1 hb).cell rfl, HBS.out w1 hb k hk⟩ : w1.cell? ⟨X.b, 2, none⟩ = some (slN X.s R.length) ∧ w1.cell? ⟨X.b, 3, none⟩ = some (slN X.o R.length) ∧ w1.cell? ⟨X.b, 5, none⟩ = some (slN X.y R.length) ∧ w1.cell? ⟨X.s, k, none⟩ = some (str (rSt P st k)) ∧ w1.cell? ⟨X.o, k, none⟩ = some (str (st k).out) ∧ w1.cell? ⟨X.y, k, none⟩ = some (intE (st k).why)))
        have hixs := HIX.out X.s k hk
        have hixo := HIX.out X.o k hk
        have hixy := HIY.out X.y k hk
        have hz9 := hbj.size
        generalize hrk : rSt P st k = rk at *
        generalize resQ P st k = rq at *
        generalize (st k).out = so at *
        generalize (st k).why = sy at *
        generalize hev : errN S sy = ev at *
        clear hbj hm1 hm2 hend hj hz hlt
        by_cases hd : rk = [100, 111, 110, 101]
        · have HQ1 := HQ.1 hd
          subst HQ1
          subst hd
          clear HQ
          have HWS2 : Hid (wN P st (k + 1) = wN P st k) := Hd (by rw [HWS.out, if_neg (by decide)]; rfl)
          go_wp2_with fail
          refine KR.out.mono ?_
          rintro e w4 ⟨rfl, hb4⟩
          have HB4 := Hd (HBJ.out.trans (hb4.mono HBJ.out.size))
          have c1 : w4.cell? ⟨X.b, 1, none⟩ = some (.slice a R.length c) := (HBX.out _ HB4.out).cell rfl
          obtain ⟨c2, c3, c5, cs, co, cy⟩ := HCL.out _ HB4.out
          clear hb4
          go_wp2_with fail
          refine wp_region_held_drew (S := (fun w' => w'.cell? ⟨X.b, 2, none⟩ = some (slN X.s R.length) ∧ w'.cell? ⟨X.b, 3, none⟩ = some (slN X.o R.length) ∧ w'.cell? ⟨X.b, 5, none⟩ = some (slN X.y R.length) ∧ w'.cell? ⟨X.s, k, none⟩ = some (str [100, 111, 110, 101]) ∧ w'.cell? ⟨X.o, k, none⟩ = some (str so) ∧ w'.cell? ⟨X.y, k, none⟩ = some (intE sy))) (by kernel_rfl) ?_ (fun hHeld => ?_)
          · first | exact HCL.out _ hb7 | exact HCL.out _ hb6 | exact HCL.out _ hb5 | exact HCL.out _ HB4.out.drew
          refine tkH (v := ?_) 0 rfl (by kernel_rfl) (by kernel_rfl) (by kernel_rfl) (fun _ _ _ h => h) (by rfl) (by assumption) ?_ ?_; rotate_left
          · intro w hSw; (try dsimp only at hSw); go_simp <;> with_reducible rfl
          refine tkH (v := ?_) 1 rfl (by kernel_rfl) (by kernel_rfl) (by kernel_rfl) (fun _ _ _ h => h) (by rfl) (by assumption) ?_ ?_; rotate_left
          · intro w hSw; (try dsimp only at hSw); go_simp <;> with_reducible rfl
          refine tkH (v := ?_) 3 rfl (by kernel_rfl) (by kernel_rfl) (by kernel_rfl) (fun _ _ _ h => h) (by rfl) (by assumption) ?_ ?_; rotate_left
          · intro w hSw; (try dsimp only at hSw); go_simp <;> with_reducible rfl
          try simp only [List.getElem_toArray, List.getElem_cons_zero, List.getElem_cons_succ, Act.put, List.setIfInBounds_toArray, List.set_cons_zero, List.set_cons_succ]
          refine tkH (v := ?_) 4 rfl (by kernel_rfl) (by kernel_rfl) (by kernel_rfl) (fun _ _ _ h => h) (by rfl) (by assumption) ?_ ?_; rotate_left
          · intro w hSw; (try dsimp only at hSw); go_simp <;> with_reducible rfl
          refine tkH (v := ?_) 5 rfl (by kernel_rfl) (by kernel_rfl) (by kernel_rfl) (fun _ _ _ h => h) (by rfl) (by assumption) ?_ ?_; rotate_left
          · intro w hSw; (try dsimp only at hSw); go_simp <;> with_reducible rfl
          refine tkH (v := ?_) 6 rfl (by kernel_rfl) (by kernel_rfl) (by kernel_rfl) (fun _ _ _ h => h) (by rfl) (by assumption) ?_ ?_; rotate_left
          · intro w hSw; (try dsimp only at hSw); go_simp <;> with_reducible rfl
          try simp only [List.getElem_toArray, List.getElem_cons_zero, List.getElem_cons_succ, Act.put, List.setIfInBounds_toArray, List.set_cons_zero, List.set_cons_succ]
          refine tkH (v := ?_) 7 rfl (by kernel_rfl) (by kernel_rfl) (by kernel_rfl) (fun _ _ _ h => h) (by rfl) (by assumption) ?_ ?_; rotate_left
          · intro w hSw; (try dsimp only at hSw); go_simp <;> with_reducible rfl
          refine tkH (v := ?_) 8 rfl (by kernel_rfl) (by kernel_rfl) (by kernel_rfl) (fun _ _ _ h => h) (by rfl) (by assumption) ?_ ?_; rotate_left
          · intro w hSw; (try dsimp only at hSw); go_simp <;> with_reducible rfl
          refine tkH (v := ?_) 9 rfl (by kernel_rfl) (by kernel_rfl) (by kernel_rfl) (fun _ _ _ h => h) (by rfl) (by assumption) ?_ ?_; rotate_left
          · intro w hSw; (try dsimp only at hSw); go_simp <;> with_reducible rfl
          try simp only [List.getElem_toArray, List.getElem_cons_zero, List.getElem_cons_succ, Act.put, List.setIfInBounds_toArray, List.set_cons_zero, List.set_cons_succ]
          refine wpAnyH_ready (rs := [2]) (by kernel_rfl) (by simp) ?_
          refine AllReadyH.cons rfl (fun K hK => ?_) AllReadyH.nil
          go_simp
          go_at_call 73
          refine (KSt.out _ ?_).mono ?_
          · first | exact HB4.out.drew | exact HB4.out
          rintro e w5 ⟨rfl, hb5⟩
          refine hK.out _ _ ?_ (fun hHeld => ?_)
          · first | exact HCL.out _ hb7 | exact HCL.out _ hb6 | exact HCL.out _ hb5 | exact HCL.out _ HB4.out.drew
          clear hK K
          try simp only [List.getElem_toArray, List.getElem_cons_zero, List.getElem_cons_succ, Act.put, List.setIfInBounds_toArray, List.set_cons_zero, List.set_cons_succ]
          refine tkH (v := ?_) 10 rfl (by kernel_rfl) (by kernel_rfl) (by kernel_rfl) (fun _ _ _ h => h) (by rfl) (by assumption) ?_ ?_; rotate_left
          · intro w hSw; (try dsimp only at hSw); go_simp <;> with_reducible rfl
          refine tkH (v := ?_) 11 rfl (by kernel_rfl) (by kernel_rfl) (by kernel_rfl) (fun _ _ _ h => h) (by rfl) (by assumption) ?_ ?_; rotate_left
          · intro w hSw; (try dsimp only at hSw); go_simp <;> with_reducible rfl
          refine tkH (v := ?_) 12 rfl (by kernel_rfl) (by kernel_rfl) (by kernel_rfl) (fun _ _ _ h => h) (by rfl) (by assumption) ?_ ?_; rotate_left
          · intro w hSw; (try dsimp only at hSw); go_simp <;> with_reducible rfl
          try simp only [List.getElem_toArray, List.getElem_cons_zero, List.getElem_cons_succ, Act.put, List.setIfInBounds_toArray, List.set_cons_zero, List.set_cons_succ]
          refine tkH (v := ?_) 13 rfl (by kernel_rfl) (by kernel_rfl) (by kernel_rfl) (fun _ _ _ h => h) (by rfl) (by assumption) ?_ ?_; rotate_left
          · intro w hSw; (try dsimp only at hSw); go_simp <;> with_reducible rfl
          refine tkH (v := ?_) 14 rfl (by kernel_rfl) (by kernel_rfl) (by kernel_rfl) (fun _ _ _ h => h) (by rfl) (by assumption) ?_ ?_; rotate_left
          · intro w hSw; (try dsimp only at hSw); go_simp <;> with_reducible rfl
          refine tkH (v := ?_) 15 rfl (by kernel_rfl) (by kernel_rfl) (by kernel_rfl) (fun _ _ _ h => h) (by rfl) (by assumption) ?_ ?_; rotate_left
          · intro w hSw; (try dsimp only at hSw); go_simp <;> with_reducible rfl
          try simp only [List.getElem_toArray, List.getElem_cons_zero, List.getElem_cons_succ, Act.put, List.setIfInBounds_toArray, List.set_cons_zero, List.set_cons_succ]
          refine tkH (v := ?_) 16 rfl (by kernel_rfl) (by kernel_rfl) (by kernel_rfl) (fun _ _ _ h => h) (by rfl) (by assumption) ?_ ?_; rotate_left
          · intro w hSw; (try dsimp only at hSw); go_simp <;> with_reducible rfl
          refine tkH (v := ?_) 17 rfl (by kernel_rfl) (by kernel_rfl) (by kernel_rfl) (fun _ _ _ h => h) (by rfl) (by assumption) ?_ ?_; rotate_left
          · intro w hSw; (try dsimp only at hSw); go_simp <;> with_reducible rfl
          refine tkH (v := ?_) 18 rfl (by kernel_rfl) (by kernel_rfl) (by kernel_rfl) (fun _ _ _ h => h) (by rfl) (by assumption) ?_ ?_; rotate_left
          · intro w hSw; (try dsimp only at hSw); go_simp <;> with_reducible rfl
          try simp only [List.getElem_toArray, List.getElem_cons_zero, List.getElem_cons_succ, Act.put, List.setIfInBounds_toArray, List.set_cons_zero, List.set_cons_succ]
          refine tkH (v := ?_) 19 rfl (by kernel_rfl) (by kernel_rfl) (by kernel_rfl) (fun _ _ _ h => h) (by rfl) (by assumption) ?_ ?_; rotate_left
          · intro w hSw; (try dsimp only at hSw); go_simp <;> with_reducible rfl
          refine tkH (v := ?_) 20 rfl (by kernel_rfl) (by kernel_rfl) (by kernel_rfl) (fun _ _ _ h => h) (by rfl) (by assumption) ?_ ?_; rotate_left
          · intro w hSw; (try dsimp only at hSw); go_simp <;> with_reducible rfl
          refine tkH (v := ?_) 21 rfl (by kernel_rfl) (by kernel_rfl) (by kernel_rfl) (fun _ _ _ h => h) (by rfl) (by assumption) ?_ ?_; rotate_left
          · intro w hSw; (try dsimp only at hSw); go_simp <;> with_reducible rfl
          try simp only [List.getElem_toArray, List.getElem_cons_zero, List.getElem_cons_succ, Act.put, List.setIfInBounds_toArray, List.set_cons_zero, List.set_cons_succ]
          refine tkH (v := ?_) 22 rfl (by kernel_rfl) (by kernel_rfl) (by kernel_rfl) (fun _ _ _ h => h) (by rfl) (by assumption) ?_ ?_; rotate_left
          · intro w hSw; (try dsimp only at hSw); go_simp <;> with_reducible rfl
          refine tkH (v := ?_) 23 rfl (by kernel_rfl) (by kernel_rfl) (by kernel_rfl) (fun _ _ _ h => h) (by rfl) (by assumption) ?_ ?_; rotate_left
          · intro w hSw; (try dsimp only at hSw); go_simp <;> with_reducible rfl
          refine tkH (v := ?_) 24 rfl (by kernel_rfl) (by kernel_rfl) (by kernel_rfl) (fun _ _ _ h => h) (by rfl) (by assumption) ?_ ?_; rotate_left
          · intro w hSw; (try dsimp only at hSw); go_simp <;> with_reducible rfl
          try simp only [List.getElem_toArray, List.getElem_cons_zero, List.getElem_cons_succ, Act.put, List.setIfInBounds_toArray, List.set_cons_zero, List.set_cons_succ]
          refine tkH (v := ?_) 25 rfl (by kernel_rfl) (by kernel_rfl) (by kernel_rfl) (fun _ _ _ h => h) (by rfl) (by assumption) ?_ ?_; rotate_left
          · intro w hSw; (try dsimp only at hSw); go_simp <;> with_reducible rfl
          refine tkH (v := ?_) 26 rfl (by kernel_rfl) (by kernel_rfl) (by kernel_rfl) (fun _ _ _ h => h) (by rfl) (by assumption) ?_ ?_; rotate_left
          · intro w hSw; (try dsimp only at hSw); go_simp <;> with_reducible rfl
          refine tkH (v := ?_) 27 rfl (by kernel_rfl) (by kernel_rfl) (by kernel_rfl) (fun _ _ _ h => h) (by rfl) (by assumption) ?_ ?_; rotate_left
          · intro w hSw; (try dsimp only at hSw); go_simp <;> with_reducible rfl
          try simp only [List.getElem_toArray, List.getElem_cons_zero, List.getElem_cons_succ, Act.put, List.setIfInBounds_toArray, List.set_cons_zero, List.set_cons_succ]
          refine tkH (v := ?_) 28 rfl (by kernel_rfl) (by kernel_rfl) (by kernel_rfl) (fun _ _ _ h => h) (by rfl) (by assumption) ?_ ?_; rotate_left
          · intro w hSw; (try dsimp only at hSw); go_simp <;> with_reducible rfl
          refine tkH (v := ?_) 29 rfl (by kernel_rfl) (by kernel_rfl) (by kernel_rfl) (fun _ _ _ h => h) (by rfl) (by assumption) ?_ ?_; rotate_left
          · intro w hSw; (try dsimp only at hSw); go_simp <;> with_reducible rfl
          refine tkH (v := ?_) 30 rfl (by kernel_rfl) (by kernel_rfl) (by kernel_rfl) (fun _ _ _ h => h) (by rfl) (by assumption) ?_ ?_; rotate_left
          · intro w hSw; (try dsimp only at hSw); go_simp <;> with_reducible rfl
          try simp only [List.getElem_toArray, List.getElem_cons_zero, List.getElem_cons_succ, Act.put, List.setIfInBounds_toArray, List.set_cons_zero, List.set_cons_succ]
          refine tkH (v := ?_) 31 rfl (by kernel_rfl) (by kernel_rfl) (by kernel_rfl) (fun _ _ _ h => h) (by rfl) (by assumption) ?_ ?_; rotate_left
          · intro w hSw; (try dsimp only at hSw); go_simp <;> with_reducible rfl
          refine tkH (v := ?_) 32 rfl (by kernel_rfl) (by kernel_rfl) (by kernel_rfl) (fun _ _ _ h => h) (by rfl) (by assumption) ?_ ?_; rotate_left
          · intro w hSw; (try dsimp only at hSw); go_simp <;> with_reducible rfl
          refine tkH (v := ?_) 33 rfl (by kernel_rfl) (by kernel_rfl) (by kernel_rfl) (fun _ _ _ h => h) (by rfl) (by assumption) ?_ ?_; rotate_left
          · intro w hSw; (try dsimp only at hSw); go_simp <;> with_reducible rfl
          try simp only [List.getElem_toArray, List.getElem_cons_zero, List.getElem_cons_succ, Act.put, List.setIfInBounds_toArray, List.set_cons_zero, List.set_cons_succ]
          refine tkN 34 rfl (by kernel_rfl) (by kernel_rfl) (by kernel_rfl) (fun _ _ _ h => h) (by rfl) (by assumption) ?_
          refine tkN 35 rfl (by kernel_rfl) (by kernel_rfl) (by kernel_rfl) (fun _ _ _ h => h) (by rfl) (by assumption) ?_
          refine tkH (v := ?_) 36 rfl (by kernel_rfl) (by kernel_rfl) (by kernel_rfl) (fun _ _ _ h => h) (by rfl) (by assumption) ?_ ?_; rotate_left
          · intro w hSw; (try dsimp only at hSw); go_simp <;> with_reducible rfl
          try simp only [List.getElem_toArray, List.getElem_cons_zero, List.getElem_cons_succ, Act.put, List.setIfInBounds_toArray, List.set_cons_zero, List.set_cons_succ]
          refine tkH (v := ?_) 37 rfl (by kernel_rfl) (by kernel_rfl) (by kernel_rfl) (fun _ _ _ h => h) (by rfl) (by assumption) ?_ ?_; rotate_left
          · intro w hSw; (try dsimp only at hSw); go_simp <;> with_reducible rfl
          refine tkH (v := ?_) 38 rfl (by kernel_rfl) (by kernel_rfl) (by kernel_rfl) (fun _ _ _ h => h) (by rfl) (by assumption) ?_ ?_; rotate_left
          · intro w hSw; (try dsimp only at hSw); go_simp <;> with_reducible rfl
          refine tkH (v := ?_) 39 rfl (by kernel_rfl) (by kernel_rfl) (by kernel_rfl) (fun _ _ _ h => h) (by rfl) (by assumption) ?_ ?_; rotate_left
          · intro w hSw; (try dsimp only at hSw); go_simp <;> with_reducible rfl
          try simp only [List.getElem_toArray, List.getElem_cons_zero, List.getElem_cons_succ, Act.put, List.setIfInBounds_toArray, List.set_cons_zero, List.set_cons_succ]
          refine tkH (v := ?_) 40 rfl (by kernel_rfl) (by kernel_rfl) (by kernel_rfl) (fun _ _ _ h => h) (by rfl) (by assumption) ?_ ?_; rotate_left
          · intro w hSw; (try dsimp only at hSw); go_simp <;> with_reducible rfl
          refine tkH (v := ?_) 42 rfl (by kernel_rfl) (by kernel_rfl) (by kernel_rfl) (fun _ _ _ h => h) (by rfl) (by assumption) ?_ ?_; rotate_left
          · intro w hSw; (try dsimp only at hSw); go_simp <;> with_reducible rfl
          refine tkH (v := ?_) 43 rfl (by kernel_rfl) (by kernel_rfl) (by kernel_rfl) (fun _ _ _ h => h) (by rfl) (by assumption) ?_ ?_; rotate_left
          · intro w hSw; (try dsimp only at hSw); go_simp <;> with_reducible rfl
          try simp only [List.getElem_toArray, List.getElem_cons_zero, List.getElem_cons_succ, Act.put, List.setIfInBounds_toArray, List.set_cons_zero, List.set_cons_succ]
          refine tkH (v := ?_) 44 rfl (by kernel_rfl) (by kernel_rfl) (by kernel_rfl) (fun _ _ _ h => h) (by rfl) (by assumption) ?_ ?_; rotate_left
          · intro w hSw; (try dsimp only at hSw); go_simp <;> with_reducible rfl
          refine tkH (v := ?_) 45 rfl (by kernel_rfl) (by kernel_rfl) (by kernel_rfl) (fun _ _ _ h => h) (by rfl) (by assumption) ?_ ?_; rotate_left
          · intro w hSw; (try dsimp only at hSw); go_simp <;> with_reducible rfl
          refine tkH (v := ?_) 46 rfl (by kernel_rfl) (by kernel_rfl) (by kernel_rfl) (fun _ _ _ h => h) (by rfl) (by assumption) ?_ ?_; rotate_left
          · intro w hSw; (try dsimp only at hSw); go_simp <;> with_reducible rfl
          try simp only [List.getElem_toArray, List.getElem_cons_zero, List.getElem_cons_succ, Act.put, List.setIfInBounds_toArray, List.set_cons_zero, List.set_cons_succ]
          refine tkH (v := ?_) 47 rfl (by kernel_rfl) (by kernel_rfl) (by kernel_rfl) (fun _ _ _ h => h) (by rfl) (by assumption) ?_ ?_; rotate_left
          · intro w hSw; (try dsimp only at hSw); go_simp <;> with_reducible rfl
          refine tkH (v := ?_) 48 rfl (by kernel_rfl) (by kernel_rfl) (by kernel_rfl) (fun _ _ _ h => h) (by rfl) (by assumption) ?_ ?_; rotate_left
          · intro w hSw; (try dsimp only at hSw); go_simp <;> with_reducible rfl
          try simp only [List.getElem_toArray, List.getElem_cons_zero, List.getElem_cons_succ, Act.put, List.setIfInBounds_toArray, List.set_cons_zero, List.set_cons_succ]
          refine wpAnyH_ready (rs := [41]) (by kernel_rfl) (by simp) ?_
          refine AllReadyH.cons rfl (fun K hK => ?_) AllReadyH.nil
          go_simp
          go_at_call 108
          refine (KWy.out _ ?_).mono ?_
          · exact hb5
          rintro e w6 ⟨rfl, hb6⟩
          refine hK.out _ _ ?_ (fun hHeld => ?_)
          · first | exact HCL.out _ hb7 | exact HCL.out _ hb6 | exact HCL.out _ hb5 | exact HCL.out _ HB4.out.drew
          clear hK K
          try simp only [List.getElem_toArray, List.getElem_cons_zero, List.getElem_cons_succ, Act.put, List.setIfInBounds_toArray, List.set_cons_zero, List.set_cons_succ]
          refine wpAnyH_ready (rs := [49]) (by kernel_rfl) (by simp) ?_
          refine AllReadyH.cons rfl (fun K hK => ?_) AllReadyH.nil
          go_simp
          go_at_call 30
          refine (HCC.out _ ?_).mono ?_
          · exact hb6
          rintro e w7 ⟨rfl, hb7⟩
          refine hK.out _ _ ?_ (fun hHeld => ?_)
          · first | exact HCL.out _ hb7 | exact HCL.out _ hb6 | exact HCL.out _ hb5 | exact HCL.out _ HB4.out.drew
          clear hK K
          try simp only [List.getElem_toArray, List.getElem_cons_zero, List.getElem_cons_succ, Act.put, List.setIfInBounds_toArray, List.set_cons_zero, List.set_cons_succ]
          refine tkH (v := ?_) 50 rfl (by kernel_rfl) (by kernel_rfl) (by kernel_rfl) (fun _ _ _ h => h) (by rfl) (by assumption) ?_ ?_; rotate_left
          · intro w hSw; (try dsimp only at hSw); go_simp <;> with_reducible rfl
          refine tkH (v := ?_) 51 rfl (by kernel_rfl) (by kernel_rfl) (by kernel_rfl) (fun _ _ _ h => h) (by rfl) (by assumption) ?_ ?_; rotate_left
          · intro w hSw; (try dsimp only at hSw); go_simp <;> with_reducible rfl
          refine wpAnyH_done (by kernel_rfl) ?_ _
          obtain ⟨d2, d3, d5, ds, do_, dy⟩ := HCL.out _ hb7
          have HB7 := Hd hb7
          clear hb5 hb6 hb7 hHeld
          go_wp2
          go_roundw
          case rel => exact ⟨k + 1 + 1, ((k + 1 : Nat) : Int), by omega, by omega, by go_num, by rw [HM2.out, HWS2.out], HB7.out⟩
          case measure => simp [intOf]; omega
        · have HQ1 := HQ.2 hd
          subst HQ1
          clear HQ
          have f1 : (rk == [100, 111, 110, 101]) = false := by simpa using hd
          have f2 : (rk = [100, 111, 110, 101]) = False := eq_false hd
          have HD := Hd hd
          clear hd
          go_wp2_with fail
          refine KR.out.mono ?_
          rintro e w4 ⟨rfl, hb4⟩
          have HB4 := Hd (HBJ.out.trans (hb4.mono HBJ.out.size))
          have c1 : w4.cell? ⟨X.b, 1, none⟩ = some (.slice a R.length c) := (HBX.out _ HB4.out).cell rfl
          obtain ⟨c2, c3, c5, cs, co, cy⟩ := HCL.out _ HB4.out
          clear hb4
          go_wp2_with fail
          refine wp_region_held_drew (S := (fun w' => w'.cell? ⟨X.b, 2, none⟩ = some (slN X.s R.length) ∧ w'.cell? ⟨X.b, 3, none⟩ = some (slN X.o R.length) ∧ w'.cell? ⟨X.b, 5, none⟩ = some (slN X.y R.length) ∧ w'.cell? ⟨X.s, k, none⟩ = some (str rk) ∧ w'.cell? ⟨X.o, k, none⟩ = some (str so) ∧ w'.cell? ⟨X.y, k, none⟩ = some (intE sy))) (by kernel_rfl) ?_ (fun hHeld => ?_)
          · first | exact HCL.out _ hb7 | exact HCL.out _ hb6 | exact HCL.out _ hb5 | exact HCL.out _ HB4.out.drew
          refine tkH (v := ?_) 0 rfl (by kernel_rfl) (by kernel_rfl) (by kernel_rfl) (fun _ _ _ h => h) (by rfl) (by assumption) ?_ ?_; rotate_left
          · intro w hSw; (try dsimp only at hSw); go_simp <;> with_reducible rfl
          refine tkH (v := ?_) 1 rfl (by kernel_rfl) (by kernel_rfl) (by kernel_rfl) (fun _ _ _ h => h) (by rfl) (by assumption) ?_ ?_; rotate_left
          · intro w hSw; (try dsimp only at hSw); go_simp <;> with_reducible rfl
          refine tkH (v := ?_) 3 rfl (by kernel_rfl) (by kernel_rfl) (by kernel_rfl) (fun _ _ _ h => h) (by rfl) (by assumption) ?_ ?_; rotate_left
          · intro w hSw; (try dsimp only at hSw); go_simp <;> with_reducible rfl
          try simp only [List.getElem_toArray, List.getElem_cons_zero, List.getElem_cons_succ, Act.put, List.setIfInBounds_toArray, List.set_cons_zero, List.set_cons_succ]
          refine tkH (v := ?_) 4 rfl (by kernel_rfl) (by kernel_rfl) (by kernel_rfl) (fun _ _ _ h => h) (by rfl) (by assumption) ?_ ?_; rotate_left
          · intro w hSw; (try dsimp only at hSw); go_simp <;> with_reducible rfl
          refine tkH (v := ?_) 5 rfl (by kernel_rfl) (by kernel_rfl) (by kernel_rfl) (fun _ _ _ h => h) (by rfl) (by assumption) ?_ ?_; rotate_left
          · intro w hSw; (try dsimp only at hSw); go_simp <;> with_reducible rfl
          refine tkH (v := ?_) 6 rfl (by kernel_rfl) (by kernel_rfl) (by kernel_rfl) (fun _ _ _ h => h) (by rfl) (by assumption) ?_ ?_; rotate_left
          · intro w hSw; (try dsimp only at hSw); go_simp <;> with_reducible rfl
          try simp only [List.getElem_toArray, List.getElem_cons_zero, List.getElem_cons_succ, Act.put, List.setIfInBounds_toArray, List.set_cons_zero, List.set_cons_succ]
          refine tkH (v := ?_) 7 rfl (by kernel_rfl) (by kernel_rfl) (by kernel_rfl) (fun _ _ _ h => h) (by rfl) (by assumption) ?_ ?_; rotate_left
          · intro w hSw; (try dsimp only at hSw); go_simp <;> with_reducible rfl
          refine tkH (v := ?_) 8 rfl (by kernel_rfl) (by kernel_rfl) (by kernel_rfl) (fun _ _ _ h => h) (by rfl) (by assumption) ?_ ?_; rotate_left
          · intro w hSw; (try dsimp only at hSw); go_simp <;> with_reducible rfl
          refine tkH (v := ?_) 9 rfl (by kernel_rfl) (by kernel_rfl) (by kernel_rfl) (fun _ _ _ h => h) (by rfl) (by assumption) ?_ ?_; rotate_left
          · intro w hSw; (try dsimp only at hSw); go_simp <;> with_reducible rfl
          try simp only [List.getElem_toArray, List.getElem_cons_zero, List.getElem_cons_succ, Act.put, List.setIfInBounds_toArray, List.set_cons_zero, List.set_cons_succ]
          refine wpAnyH_ready (rs := [2]) (by kernel_rfl) (by simp) ?_
          refine AllReadyH.cons rfl (fun K hK => ?_) AllReadyH.nil
          go_simp
          go_at_call 73
          refine (KSt.out _ ?_).mono ?_
          · first | exact HB4.out.drew | exact HB4.out
          rintro e w5 ⟨rfl, hb5⟩
          refine hK.out _ _ ?_ (fun hHeld => ?_)
          · first | exact HCL.out _ hb7 | exact HCL.out _ hb6 | exact HCL.out _ hb5 | exact HCL.out _ HB4.out.drew
          clear hK K
          try simp only [List.getElem_toArray, List.getElem_cons_zero, List.getElem_cons_succ, Act.put, List.setIfInBounds_toArray, List.set_cons_zero, List.set_cons_succ]
          refine tkH (v := ?_) 10 rfl (by kernel_rfl) (by kernel_rfl) (by kernel_rfl) (fun _ _ _ h => h) (by rfl) (by assumption) ?_ ?_; rotate_left
          · intro w hSw; (try dsimp only at hSw); go_simp <;> with_reducible rfl
          refine tkH (v := ?_) 11 rfl (by kernel_rfl) (by kernel_rfl) (by kernel_rfl) (fun _ _ _ h => h) (by rfl) (by assumption) ?_ ?_; rotate_left
          · intro w hSw; (try dsimp only at hSw); go_simp <;> with_reducible rfl
          refine tkH (v := ?_) 12 rfl (by kernel_rfl) (by kernel_rfl) (by kernel_rfl) (fun _ _ _ h => h) (by rfl) (by assumption) ?_ ?_; rotate_left
          · intro w hSw; (try dsimp only at hSw); go_simp <;> with_reducible rfl
          try simp only [List.getElem_toArray, List.getElem_cons_zero, List.getElem_cons_succ, Act.put, List.setIfInBounds_toArray, List.set_cons_zero, List.set_cons_succ]
          refine tkH (v := ?_) 13 rfl (by kernel_rfl) (by kernel_rfl) (by kernel_rfl) (fun _ _ _ h => h) (by rfl) (by assumption) ?_ ?_; rotate_left
          · intro w hSw; (try dsimp only at hSw); go_simp <;> with_reducible rfl
          refine tkH (v := ?_) 14 rfl (by kernel_rfl) (by kernel_rfl) (by kernel_rfl) (fun _ _ _ h => h) (by rfl) (by assumption) ?_ ?_; rotate_left
          · intro w hSw; (try dsimp only at hSw); go_simp <;> with_reducible rfl
          refine tkH (v := ?_) 15 rfl (by kernel_rfl) (by kernel_rfl) (by kernel_rfl) (fun _ _ _ h => h) (by rfl) (by assumption) ?_ ?_; rotate_left
          · intro w hSw; (try dsimp only at hSw); go_simp <;> with_reducible rfl
          try simp only [List.getElem_toArray, List.getElem_cons_zero, List.getElem_cons_succ, Act.put, List.setIfInBounds_toArray, List.set_cons_zero, List.set_cons_succ]
          refine tkH (v := ?_) 16 rfl (by kernel_rfl) (by kernel_rfl) (by kernel_rfl) (fun _ _ _ h => h) (by rfl) (by assumption) ?_ ?_; rotate_left
          · intro w hSw; (try dsimp only at hSw); go_simp <;> with_reducible rfl
          refine tkH (v := ?_) 17 rfl (by kernel_rfl) (by kernel_rfl) (by kernel_rfl) (fun _ _ _ h => h) (by rfl) (by assumption) ?_ ?_; rotate_left
          · intro w hSw; (try dsimp only at hSw); go_simp <;> with_reducible rfl
          refine tkH (v := ?_) 18 rfl (by kernel_rfl) (by kernel_rfl) (by kernel_rfl) (fun _ _ _ h => h) (by rfl) (by assumption) ?_ ?_; rotate_left
          · intro w hSw; (try dsimp only at hSw); go_simp <;> with_reducible rfl
          try simp only [List.getElem_toArray, List.getElem_cons_zero, List.getElem_cons_succ, Act.put, List.setIfInBounds_toArray, List.set_cons_zero, List.set_cons_succ]
          refine tkN 19 rfl (by kernel_rfl) (by kernel_rfl) (by kernel_rfl) (fun _ _ _ h => h) (by rfl) (by assumption) ?_
          refine tkN 20 rfl (by kernel_rfl) (by kernel_rfl) (by kernel_rfl) (fun _ _ _ h => h) (by rfl) (by assumption) ?_
          refine tkN 21 rfl (by kernel_rfl) (by kernel_rfl) (by kernel_rfl) (fun _ _ _ h => h) (by rfl) (by assumption) ?_
          try simp only [List.getElem_toArray, List.getElem_cons_zero, List.getElem_cons_succ, Act.put, List.setIfInBounds_toArray, List.set_cons_zero, List.set_cons_succ]
          refine tkN 22 rfl (by kernel_rfl) (by kernel_rfl) (by kernel_rfl) (fun _ _ _ h => h) (by rfl) (by assumption) ?_
          refine tkN 23 rfl (by kernel_rfl) (by kernel_rfl) (by kernel_rfl) (fun _ _ _ h => h) (by rfl) (by assumption) ?_
          refine tkN 24 rfl (by kernel_rfl) (by kernel_rfl) (by kernel_rfl) (fun _ _ _ h => h) (by rfl) (by assumption) ?_
          try simp only [List.getElem_toArray, List.getElem_cons_zero, List.getElem_cons_succ, Act.put, List.setIfInBounds_toArray, List.set_cons_zero, List.set_cons_succ]
          refine tkN 25 rfl (by kernel_rfl) (by kernel_rfl) (by kernel_rfl) (fun _ _ _ h => h) (by rfl) (by assumption) ?_
          refine tkN 26 rfl (by kernel_rfl) (by kernel_rfl) (by kernel_rfl) (fun _ _ _ h => h) (by rfl) (by assumption) ?_
          refine tkN 27 rfl (by kernel_rfl) (by kernel_rfl) (by kernel_rfl) (fun _ _ _ h => h) (by rfl) (by assumption) ?_
          try simp only [List.getElem_toArray, List.getElem_cons_zero, List.getElem_cons_succ, Act.put, List.setIfInBounds_toArray, List.set_cons_zero, List.set_cons_succ]
          refine tkH (v := ?_) 28 rfl (by kernel_rfl) (by kernel_rfl) (by kernel_rfl) (fun _ _ _ h => h) (by rfl) (by assumption) ?_ ?_; rotate_left
          · intro w hSw; (try dsimp only at hSw); go_simp <;> with_reducible rfl
          refine tkH (v := ?_) 29 rfl (by kernel_rfl) (by kernel_rfl) (by kernel_rfl) (fun _ _ _ h => h) (by rfl) (by assumption) ?_ ?_; rotate_left
          · intro w hSw; (try dsimp only at hSw); go_simp <;> with_reducible rfl
          refine tkH (v := ?_) 30 rfl (by kernel_rfl) (by kernel_rfl) (by kernel_rfl) (fun _ _ _ h => h) (by rfl) (by assumption) ?_ ?_; rotate_left
          · intro w hSw; (try dsimp only at hSw); go_simp <;> with_reducible rfl
          try simp only [List.getElem_toArray, List.getElem_cons_zero, List.getElem_cons_succ, Act.put, List.setIfInBounds_toArray, List.set_cons_zero, List.set_cons_succ]
          refine tkH (v := ?_) 31 rfl (by kernel_rfl) (by kernel_rfl) (by kernel_rfl) (fun _ _ _ h => h) (by rfl) (by assumption) ?_ ?_; rotate_left
          · intro w hSw; (try dsimp only at hSw); go_simp <;> with_reducible rfl
          refine tkH (v := ?_) 32 rfl (by kernel_rfl) (by kernel_rfl) (by kernel_rfl) (fun _ _ _ h => h) (by rfl) (by assumption) ?_ ?_; rotate_left
          · intro w hSw; (try dsimp only at hSw); go_simp <;> with_reducible rfl
          refine tkH (v := ?_) 33 rfl (by kernel_rfl) (by kernel_rfl) (by kernel_rfl) (fun _ _ _ h => h) (by rfl) (by assumption) ?_ ?_; rotate_left
          · intro w hSw; (try dsimp only at hSw); go_simp <;> with_reducible rfl
          try simp only [List.getElem_toArray, List.getElem_cons_zero, List.getElem_cons_succ, Act.put, List.setIfInBounds_toArray, List.set_cons_zero, List.set_cons_succ]
          refine tkH (v := ?_) 34 rfl (by kernel_rfl) (by kernel_rfl) (by kernel_rfl) (fun _ _ _ h => h) (by rfl) (by assumption) ?_ ?_; rotate_left
          · intro w hSw; (try dsimp only at hSw); go_simp <;> with_reducible rfl
          refine tkH (v := ?_) 35 rfl (by kernel_rfl) (by kernel_rfl) (by kernel_rfl) (fun _ _ _ h => h) (by rfl) (by assumption) ?_ ?_; rotate_left
          · intro w hSw; (try dsimp only at hSw); go_simp <;> with_reducible rfl
          refine tkH (v := ?_) 36 rfl (by kernel_rfl) (by kernel_rfl) (by kernel_rfl) (fun _ _ _ h => h) (by rfl) (by assumption) ?_ ?_; rotate_left
          · intro w hSw; (try dsimp only at hSw); go_simp <;> with_reducible rfl
          try simp only [List.getElem_toArray, List.getElem_cons_zero, List.getElem_cons_succ, Act.put, List.setIfInBounds_toArray, List.set_cons_zero, List.set_cons_succ]
          refine tkH (v := ?_) 37 rfl (by kernel_rfl) (by kernel_rfl) (by kernel_rfl) (fun _ _ _ h => h) (by rfl) (by assumption) ?_ ?_; rotate_left
          · intro w hSw; (try dsimp only at hSw); go_simp <;> with_reducible rfl
          refine tkH (v := ?_) 38 rfl (by kernel_rfl) (by kernel_rfl) (by kernel_rfl) (fun _ _ _ h => h) (by rfl) (by assumption) ?_ ?_; rotate_left
          · intro w hSw; (try dsimp only at hSw); go_simp <;> with_reducible rfl
          refine tkH (v := ?_) 39 rfl (by kernel_rfl) (by kernel_rfl) (by kernel_rfl) (fun _ _ _ h => h) (by rfl) (by assumption) ?_ ?_; rotate_left
          · intro w hSw; (try dsimp only at hSw); go_simp <;> with_reducible rfl
          try simp only [List.getElem_toArray, List.getElem_cons_zero, List.getElem_cons_succ, Act.put, List.setIfInBounds_toArray, List.set_cons_zero, List.set_cons_succ]
          refine tkH (v := ?_) 40 rfl (by kernel_rfl) (by kernel_rfl) (by kernel_rfl) (fun _ _ _ h => h) (by rfl) (by assumption) ?_ ?_; rotate_left
          · intro w hSw; (try dsimp only at hSw); go_simp <;> with_reducible rfl
          refine tkH (v := ?_) 42 rfl (by kernel_rfl) (by kernel_rfl) (by kernel_rfl) (fun _ _ _ h => h) (by rfl) (by assumption) ?_ ?_; rotate_left
          · intro w hSw; (try dsimp only at hSw); go_simp <;> with_reducible rfl
          refine tkH (v := ?_) 43 rfl (by kernel_rfl) (by kernel_rfl) (by kernel_rfl) (fun _ _ _ h => h) (by rfl) (by assumption) ?_ ?_; rotate_left
          · intro w hSw; (try dsimp only at hSw); go_simp <;> with_reducible rfl
          try simp only [List.getElem_toArray, List.getElem_cons_zero, List.getElem_cons_succ, Act.put, List.setIfInBounds_toArray, List.set_cons_zero, List.set_cons_succ]
          refine tkH (v := ?_) 44 rfl (by kernel_rfl) (by kernel_rfl) (by kernel_rfl) (fun _ _ _ h => h) (by rfl) (by assumption) ?_ ?_; rotate_left
          · intro w hSw; (try dsimp only at hSw); go_simp <;> with_reducible rfl
          refine tkH (v := ?_) 45 rfl (by kernel_rfl) (by kernel_rfl) (by kernel_rfl) (fun _ _ _ h => h) (by rfl) (by assumption) ?_ ?_; rotate_left
          · intro w hSw; (try dsimp only at hSw); go_simp <;> with_reducible rfl
          refine tkH (v := ?_) 46 rfl (by kernel_rfl) (by kernel_rfl) (by kernel_rfl) (fun _ _ _ h => h) (by rfl) (by assumption) ?_ ?_; rotate_left
          · intro w hSw; (try dsimp only at hSw); go_simp <;> with_reducible rfl
          try simp only [List.getElem_toArray, List.getElem_cons_zero, List.getElem_cons_succ, Act.put, List.setIfInBounds_toArray, List.set_cons_zero, List.set_cons_succ]
          refine tkH (v := ?_) 47 rfl (by kernel_rfl) (by kernel_rfl) (by kernel_rfl) (fun _ _ _ h => h) (by rfl) (by assumption) ?_ ?_; rotate_left
          · intro w hSw; (try dsimp only at hSw); go_simp <;> with_reducible rfl
          refine tkH (v := ?_) 48 rfl (by kernel_rfl) (by kernel_rfl) (by kernel_rfl) (fun _ _ _ h => h) (by rfl) (by assumption) ?_ ?_; rotate_left
          · intro w hSw; (try dsimp only at hSw); go_simp <;> with_reducible rfl
          try simp only [List.getElem_toArray, List.getElem_cons_zero, List.getElem_cons_succ, Act.put, List.setIfInBounds_toArray, List.set_cons_zero, List.set_cons_succ]
          refine wpAnyH_ready (rs := [41]) (by kernel_rfl) (by simp) ?_
          refine AllReadyH.cons rfl (fun K hK => ?_) AllReadyH.nil
          go_simp
          go_at_call 108
          refine (KWy.out _ ?_).mono ?_
          · exact hb5
          rintro e w6 ⟨rfl, hb6⟩
          refine hK.out _ _ ?_ (fun hHeld => ?_)
          · first | exact HCL.out _ hb7 | exact HCL.out _ hb6 | exact HCL.out _ hb5 | exact HCL.out _ HB4.out.drew
          clear hK K
          try simp only [List.getElem_toArray, List.getElem_cons_zero, List.getElem_cons_succ, Act.put, List.setIfInBounds_toArray, List.set_cons_zero, List.set_cons_succ]
          refine wpAnyH_ready (rs := [49]) (by kernel_rfl) (by simp) ?_
          refine AllReadyH.cons rfl (fun K hK => ?_) AllReadyH.nil
          go_simp
          go_at_call 30
          refine (HCC.out _ ?_).mono ?_
          · exact hb6
          rintro e w7 ⟨rfl, hb7⟩
          refine hK.out _ _ ?_ (fun hHeld => ?_)
          · first | exact HCL.out _ hb7 | exact HCL.out _ hb6 | exact HCL.out _ hb5 | exact HCL.out _ HB4.out.drew
          clear hK K
          try simp only [List.getElem_toArray, List.getElem_cons_zero, List.getElem_cons_succ, Act.put, List.setIfInBounds_toArray, List.set_cons_zero, List.set_cons_succ]
          refine tkH (v := ?_) 50 rfl (by kernel_rfl) (by kernel_rfl) (by kernel_rfl) (fun _ _ _ h => h) (by rfl) (by assumption) ?_ ?_; rotate_left
          · intro w hSw; (try dsimp only at hSw); go_simp <;> with_reducible rfl
          refine tkH (v := ?_) 51 rfl (by kernel_rfl) (by kernel_rfl) (by kernel_rfl) (fun _ _ _ h => h) (by rfl) (by assumption) ?_ ?_; rotate_left
          · intro w hSw; (try dsimp only at hSw); go_simp <;> with_reducible rfl
          refine wpAnyH_done (by kernel_rfl) ?_ _
          obtain ⟨d2, d3, d5, ds, do_, dy⟩ := HCL.out _ hb7
          have HB7 := Hd hb7
          clear hb5 hb6 hb7 hHeld
          by_cases hw : rk = [119, 97, 105, 116, 115]
          · have HWS2 : Hid (wN P st (k + 1) = wN P st k + 1) := Hd (by rw [HWS.out, if_pos hw])
            subst hw
            clear f1 f2
            go_wp2
            go_roundw
            case rel => exact ⟨k + 1 + 1, ((k + 1 : Nat) : Int), by omega, by omega, by go_num, by rw [HM2.out, HWS2.out]; go_num, HB7.out⟩
            case measure => simp [intOf]; omega
          · have HWS2 : Hid (wN P st (k + 1) = wN P st k) := Hd (by rw [HWS.out, if_neg hw]; rfl)
            have g1 : (rk == [119, 97, 105, 116, 115]) = false := by simpa using hw
            have g2 : (rk = [119, 97, 105, 116, 115]) = False := eq_false hw
            clear hw
            go_wp2
            go_roundw
            case rel => exact ⟨k + 1 + 1, ((k + 1 : Nat) : Int), by omega, by omega, by go_num, by rw [HM2.out, HWS2.out], HB7.out⟩
            case measure => simp [intOf]; omega
end Go.Proofs.YtgjialbmlhbngaaGreatDoor
