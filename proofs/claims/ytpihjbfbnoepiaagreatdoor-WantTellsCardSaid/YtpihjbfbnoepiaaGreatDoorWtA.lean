/-
  The walk of the law WantTells, at any files, rules and out.   Steps: wanted, longFiles, LongRules, len(out); fileTree; OwnRules, want.Of; WantFault; (faulted | WantOf, coded); OwnRules, want.All; SheetFault, (AllOf, OrderOf, Bare); (faulted); CopyTree, loop (WantOf, Put); Text, Text, Text, Text.
-/
import Derived.Test.YtpihjbfbnoepiaaGreatDoorPkO
import Derived.Test.YtpihjbfbnoepiaaGreatDoorPkQ
import Derived.Test.YtpihjbfbnoepiaaGreatDoorPkR
import Derived.Test.YtpihjbfbnoepiaaGreatDoorPkS
import Derived.Test.YtpihjbfbnoepiaaGreatDoorPkT

namespace Go.Proofs.YtpihjbfbnoepiaaGreatDoor
open Go Go.RowKit Go.Kf Go.Sort Go.Proofs

theorem tw_bound {m L : List Ent} (h : Tw m L) : ∀ p b, mlook p m = some b → b.length ≤ 2000 := fun q b hq => by
  rw [h.look] at hq
  exact (h.path _ ((mlook_iff h.nodup).1 hq)).2.2
theorem fn_needs {n : Nat} {N M : List Nat} (h : ∀ k, k ∈ N ↔ k ∈ M) (hl : ∀ k ∈ N, k < n) : (fun k => (needL n N).contains k) = fun k => M.contains k := by
  funext k
  rw [Bool.eq_iff_iff, List.contains_iff_mem, List.contains_iff_mem, mem_needL hl]
  exact h k
/-- want.Of and WantFault, side by side. -/
theorem wof_fault {S : Nat → Addr} {l : List RuleL} {T : Look} {out : List UInt8} {B : Nat} {e : Ending} {w' : World} {c : Nat} {p : Int} (h : WOfAns S l T out B e w') (hf : WFaultIs l out c p) (hr : RightS l) :
    (∃ k, k < 12 ∧ c = k + 1 ∧ p = -1 ∧ e = .returned (.tuple #[str [], errI (S k)])) ∨
    (c = 0 ∧ p = -1 ∧ e = .returned (.tuple #[str (wantV l T out).2, errN S (wantV l T out).1]) ∧ ∃ (isB : Nat → Bool) (o : List Nat) (t : Nat) (ht : t < o.length) (hn : o[t] < l.length), Outs (edgesB l) isB l.length o ∧ l[o[t]].out = out) := by
  rcases h with ⟨-, ⟨i, N, hpl, hN, hq⟩ | ⟨hno, rfl⟩⟩ | ⟨T, x, -, hbad⟩
  · rcases hf with ⟨h, -⟩ | ⟨-, hno, -⟩ | ⟨-, j, M, hpl', hM, hq'⟩
    · exact absurd hr h
    · exact absurd (places_made hpl out (List.mem_singleton_self _)) hno
    · have hlt : ∀ k ∈ N, k < l.length := fun k hk => ((hN k).1 hk).lt (fun a b hb => edges_lt _ a b hb) hpl.1
      have hNM : ∀ k, k ∈ N ↔ k ∈ M := fun k => ((hN k).trans (reach_congr (places_same hr.2 hpl hpl') k)).trans (hM k).symm
      rw [fn_needs hNM hlt] at hq
      rcases hq with ⟨o, ho, rfl⟩ | ⟨ho, rfl⟩
      · rcases hq' with ⟨h, -⟩ | ⟨o', ho', rfl, rfl⟩
        · rw [ho] at h; cases h
        · right
          have hq1 := order_mem ho
          have hi : i < l.length := hpl.1 i (List.mem_singleton_self i)
          have hio : i ∈ o := hq1.2 i hi (by
            rw [List.contains_iff_mem]
            exact (hNM i).1 ((hN i).2 (Reach.base (List.mem_singleton_self i))))
          obtain ⟨t, htl, hti⟩ := List.mem_iff_getElem.1 hio
          have hout : l[i].out = out := by
            have h := hpl.2
            rw [List.map_singleton, List.getD_eq_getElem?_getD, List.getElem?_eq_getElem hi, Option.getD_some] at h
            exact List.singleton_inj.1 h
          refine ⟨rfl, rfl, rfl, _, o, t, htl, by rw [hti]; exact hi, hq1.1, ?_⟩
          simp only [hti]
          exact hout
      · rcases hq' with ⟨-, rfl, rfl⟩ | ⟨o', ho', -⟩
        · exact Or.inl ⟨8, by decide, rfl, rfl, rfl⟩
        · rw [ho] at ho'; cases ho'
  · rcases hf with ⟨h, -⟩ | ⟨-, -, rfl, rfl⟩ | ⟨-, j, M, hpl', -, -⟩
    · exact absurd hr h
    · exact Or.inl ⟨5, by decide, rfl, rfl, rfl⟩
    · exact absurd (places_made hpl' out (List.mem_singleton_self _)) hno
  · exact absurd hr hbad.wrong

set_option maxRecDepth 100000 in
set_option maxHeartbeats 8000000 in
theorem wantTells_all (fs : List Ent) (vf : Value) (R : List RV) (v : Value) (out : List UInt8) (w : World) (S : Nat → Addr) (hfr : ReadsK 2 w vf (fs.map fileRow)) (hr : ReadsK 4 w v (R.map rvRow)) (hi : ∀ x ∈ R, Reads w x.2 (x.1.ins.map str) ∧ NilOr x.2) (hm : Ml w) (hE : ErrW w S) (hN : NErr w) (ht : Tab w) :
    Calls Tryz.prog 7 #[vf, v, str out] w fun e w' => e = .returned (.bool true) ∧ Below w.heap.size w w' := by
  have hTE := tErr_of_errW hE
  have hrow : ∀ r ∈ R.map rvRow, r ≠ [] := fun r hr => by obtain ⟨x, -, rfl⟩ := List.mem_map.1 hr; simp [rvRow]
  have hrowf : ∀ r ∈ fs.map fileRow, r ≠ [] := fun r hr => by obtain ⟨x, -, rfl⟩ := List.mem_map.1 hr; simp [fileRow]
  obtain ⟨a, c, hv, hle, -⟩ := id hr
  rw [List.length_map] at hv hle
  subst hv
  have KW := Lib.hid (wanted_any w S hm (kErr_of_errW hE) (lErr_of_errW hE) hTE hN ht)
  have KLF := Lib.hid (fun w1 (hb : Below w.heap.size w w1) => longFiles2_any vf fs w1 (readsK_below0 hfr hrowf hb))
  have KL := Lib.hid (fun w1 (hb : Below w.heap.size w w1) => longRules_any R (.slice a R.length c) 12 w1 (readsK_below0 hr hrow hb) (fun x hx => (hi x hx).1.below0 hb) (by decide))
  have KT := Lib.hid (fun w1 (hb : Below w.heap.size w w1) (hF : FewFiles fs) => fileTree2_any vf fs w1 S (readsK_below0 hfr hrowf hb) hF (hm.below hb (Nat.le_refl _)) (hTE.below hb (Nat.le_refl _)))
  have KO := Lib.hid (fun w1 (hb : Below w.heap.size w w1) (hs : ∀ x ∈ R, ShortR x.1) (hn : R.length ≤ 1000) => ownRules_any R (.slice a R.length c) w1 (readsK_below0 hr hrow hb) (fun x hx => ⟨(hi x hx).1.below0 hb, (hi x hx).2, by have := (hs x hx).2.2.2.1; omega⟩) hn)
  have KOF := Lib.hid (fun w1 (hb : Below w.heap.size w w1) (tb mb : Nat) (m : List Ent) (R' : List RV) (v' : Value) (h : ∃ B, OwnAt B w1 v' R') (hs : ∀ x ∈ R', ShortR x.1) (h2 : R'.length ≤ 1000) (hT : TAt w1 tb mb m) (hf : ∀ p b, mlook p m = some b → b.length ≤ 2000) =>
    wof_any (S := S) w1 out (own_rulesT h).1 (own_rulesT h).2 hT (hm.below hb (Nat.le_refl _)) (kErr_of_errW (hE.below hb (Nat.le_refl _))) (lErr_of_errW (hE.below hb (Nat.le_refl _))) (hN.below hb (Nat.le_refl _)) (tab_below ht hb (Nat.le_refl _)) (short_bounds hs) hf h2)
  have KAL := Lib.hid (fun w1 (hb : Below w.heap.size w w1) (tb mb : Nat) (m : List Ent) (R' : List RV) (v' : Value) (h : ∃ B, OwnAt B w1 v' R') (hs : ∀ x ∈ R', ShortR x.1) (h2 : R'.length ≤ 1000) (hT : TAt w1 tb mb m) (hf : ∀ p b, mlook p m = some b → b.length ≤ 2000) (hl : m.length ≤ 60) (hk : ∀ y ∈ m, y.1.length ≤ 1000000) =>
    wall_any (S := S) w1 (own_rulesT h).1 (own_rulesT h).2 hT (hm.below hb (Nat.le_refl _)) (kErr_of_errW (hE.below hb (Nat.le_refl _))) (lErr_of_errW (hE.below hb (Nat.le_refl _))) (hN.below hb (Nat.le_refl _)) (tab_below ht hb (Nat.le_refl _)) (hTE.below hb (Nat.le_refl _)) (short_bounds hs) hf h2 hl hk)
  have KWF := Lib.hid (fun w1 (hb : Below w.heap.size w w1) (hs : ∀ x ∈ R, ShortR x.1) (hn : R.length ≤ 1000) => wfault_any R (.slice a R.length c) out w1 (readsK_below0 hr hrow hb) (fun x hx => (hi x hx).1.below0 hb) (short_bounds hs) hn)
  have KSF := Lib.hid (fun w1 (hb : Below w.heap.size w w1) (hs : ∀ x ∈ R, ShortR x.1) => sheetFault_any R (.slice a R.length c) w1 (readsK_below0 hr hrow hb) (fun x hx => (hi x hx).1.below0 hb) (short_bounds hs))
  have KOR := Lib.hid (fun w1 (hb : Below w.heap.size w w1) (gs : Nat) (hs : Bits w1 gs (List.replicate R.length true)) (hn : R.length ≤ 1000) => orderOf_any R (.slice a R.length c) gs w1 (readsK_below0 hr hrow hb) (fun x hx => (hi x hx).1.below0 hb) hs hn)
  have HRC := Lib.hid (fun w1 (hb : Below w.heap.size w w1) => (⟨readsK_below0 hr hrow hb, fun x hx => (hi x hx).1.below0 hb⟩ : ReadsK 4 w1 (.slice a R.length c) (R.map rvRow) ∧ ∀ x ∈ R, Reads w1 x.2 (x.1.ins.map str)))
  have HE := Lib.hid (fun w1 (hb : Below w.heap.size w w1) => hE.below hb (Nat.le_refl _))
  have HT := Lib.hid (fun w1 (hb : Below w.heap.size w w1) => tab_below ht hb (Nat.le_refl _))
  have hml : (R.map Prod.fst).length = R.length := List.length_map _
  have HML := Lib.hid hml
  clear hfr hr hi hm hE hTE hN ht hrow hrowf hml
  go_enter Tryz.func7, Tryz.ntmps7
  go_wp2_with fail
  refine KW.out.mono ?_
  rintro e w1 ⟨rfl, hb1⟩
  have HB1 := Lib.hid hb1
  clear hb1
  go_wp2_with fail
  refine (KLF.out w1 HB1.out).mono ?_
  rintro e w2 ⟨rfl, rfl | ⟨rfl, hff⟩⟩
  · go_wp2
    go_ret
    exact ⟨rfl, HB1.out⟩
  have HFF := Lib.hid hff
  clear hff
  go_wp2_with fail
  refine (KL.out w1 HB1.out).mono ?_
  rintro e w2 ⟨rfl, rfl | ⟨rfl, hn, hs⟩⟩
  · go_wp2
    go_ret
    exact ⟨rfl, HB1.out⟩
  have HS := Lib.hid hs
  have hn41 : R.length ≤ 41 := by omega
  clear hn hs
  by_cases hol : 100 < out.length
  · have hol2 : (100 < (out.length : Int)) = True := eq_true (by omega)
    go_wp2
    go_ret
    exact ⟨rfl, HB1.out⟩
  have hol2 : (100 < (out.length : Int)) = False := eq_false (by omega)
  have KT1 := Lib.hid (KT.out w1 HB1.out HFF.out)
  go_wp2_with fail
  refine KT1.out.mono ?_
  rintro e w2 ⟨tb, mb, rb, lv, rfl, htc⟩
  have HTW := Lib.hid (files_tw' HFF.out)
  have HB2 := Lib.hid (HB1.out.trans (htc.b.mono HB1.out.size))
  have HTC := Lib.hid htc
  generalize hfm : filesM fs = m at *
  generalize hfl : filesL fs = L at *
  have KO2 := Lib.hid (KO.out w2 HB2.out HS.out (by omega))
  clear htc hfm hfl KT1
  go_wp2_with fail
  refine KO2.out.mono ?_
  rintro e w3 ⟨v3, R3, rfl, he3, ho3, hb3⟩
  have HE3 := Lib.hid he3
  have HP3 := Lib.hid hb3
  have HB3 := Lib.hid (HB2.out.trans (hb3.mono HB2.out.size))
  have hl3 : R3.length = R.length := by have := congrArg List.length he3; simpa using this
  have KOF3 := Lib.hid (KOF.out w3 HB3.out tb mb m R3 v3 ⟨_, ho3⟩ (short_other HS.out he3) (by omega) ((HTC.out.below hb3).t) (tw_bound HTW.out))
  clear he3 ho3 hb3 KO2
  go_wp2_with fail
  refine KOF3.out.mono ?_
  rintro e w4 ⟨ha4, hb4⟩
  rw [HE3.out] at ha4
  have HP4 := Lib.hid (HP3.out.trans (hb4.mono HP3.out.size))
  have HB4 := Lib.hid (HB3.out.trans (hb4.mono HB3.out.size))
  have KWF4 := Lib.hid (KWF.out w4 HB4.out HS.out (by omega))
  clear hb4 KOF3
  by_cases hrs : RightS (R.map Prod.fst)
  case neg =>
    rcases ha4 with ⟨h, -⟩ | ⟨T4, x4, rfl, hbad4⟩
    · exact absurd h hrs
    have HBAD4 := Lib.hid hbad4
    have HRS := Lib.hid hrs
    clear hbad4
    go_wp2_with fail
    refine KWF4.out.mono ?_
    rintro e w5 ⟨⟨c5, p5, hf5, rfl⟩, hb5⟩
    have hfi : 0 < c5 ∧ FaultIs (R.map Prod.fst) c5 p5 := by
      rcases hf5 with ⟨-, h1, h2⟩ | ⟨h, -⟩ | ⟨h, -⟩
      · exact ⟨h1, h2⟩
      · exact absurd h hrs
      · exact absurd h hrs
    have HFI := Lib.hid hfi
    have HP5 := Lib.hid (HP4.out.trans (hb5.mono HP4.out.size))
    have HQ5 := Lib.hid hb5
    have HB5 := Lib.hid (HB4.out.trans (hb5.mono HB4.out.size))
    have hcf : 0 < c5 := hfi.1
    obtain ⟨W5, hW5⟩ : ∃ W, w5.alloc (.cells #[.int .i64 (c5 : Int), .int .i64 p5] 71) = W := ⟨_, rfl⟩
    have hA5 : Below w5.heap.size w5 W5 := hW5 ▸ (Below.refl _ w5).alloc (Nat.le_refl _) _
    have hg5 : W5.heap[w5.heap.size]? = some (.cells #[.int .i64 (c5 : Int), .int .i64 p5] 71 (0, 0)) := hW5 ▸ heap_alloc_here w5 _
    have KFA := Lib.hid (fun wl (hb : Below w5.heap.size w5 wl) => faulted2_any (.iface T4 x4) c5 p5 wl (fun w1 hb1 => (bad_code ((HBAD4.out.below HQ5.out).below (hb.trans (hb1.mono hb.size))) HFI.out.2 (HE.out w1 (HB5.out.trans ((hb.trans (hb1.mono hb.size)).mono HB5.out.size)))).2))
    have HCL := Lib.hid (fun wl (hb : Below W5.heap.size W5 wl) => (⟨(cell_of_heap ((hb.block _ (lt_of_heap hg5)).trans hg5) 0).trans rfl, (cell_of_heap ((hb.block _ (lt_of_heap hg5)).trans hg5) 1).trans rfl⟩ : wl.cell? ⟨w5.heap.size, 0, none⟩ = some (.int .i64 (c5 : Int)) ∧ wl.cell? ⟨w5.heap.size, 1, none⟩ = some (.int .i64 p5)))
    have HUP : Hid (∀ wl, Below W5.heap.size W5 wl → Below w5.heap.size w5 wl) := Lib.hid (fun wl hb => hA5.trans (hb.mono hA5.size))
    obtain ⟨hc0, hc1⟩ := HCL.out W5 (Below.refl _ _)
    clear hf5 hb5 hfi hA5 hg5 hrs
    go_wp2_with fail
    refine (KFA.out W5 (HUP.out _ (Below.refl _ _))).mono ?_
    rintro e w6 ⟨rfl, hb6⟩
    have HP6 := Lib.hid ((HP5.out.trans ((HUP.out _ hb6).mono HP5.out.size)))
    have hb6' := HB5.out.trans ((HUP.out _ hb6).mono HB5.out.size)
    have HB6 := Lib.hid hb6'
    have KO6 := Lib.hid (KO.out w6 hb6' HS.out (by omega))
    clear hc0 hc1 hb6 hb6'
    go_wp2_with fail
    refine KO6.out.mono ?_
    rintro e w7 ⟨v7, R7, rfl, he7, ho7, hb7⟩
    have HE7 := Lib.hid he7
    have HP7 := Lib.hid (HP6.out.trans (hb7.mono HP6.out.size))
    have HB7 := Lib.hid (HB6.out.trans (hb7.mono HB6.out.size))
    have hl7 : R7.length = R.length := by have := congrArg List.length he7; simpa using this
    have KA7 := Lib.hid (KAL.out w7 HB7.out tb mb m R7 v7 ⟨_, ho7⟩ (short_other HS.out he7) (by omega) ((HTC.out.below HP7.out).t) (tw_bound HTW.out) HTW.out.many (fun y hy => by have := HTW.out.keyLen hy; omega))
    clear he7 ho7 hb7
    go_wp2_with fail
    refine KA7.out.mono ?_
    rintro e w8 ⟨ha8, hb8⟩
    rw [HE7.out] at ha8
    have HB8 := Lib.hid (HB7.out.trans (hb8.mono HB7.out.size))
    rcases ha8 with ⟨h, -⟩ | ⟨T8, x8, rfl, hbad8⟩
    · exact absurd h HRS.out
    have HBAD8 := Lib.hid hbad8
    have KS8 := Lib.hid (KSF.out w8 HB8.out HS.out)
    clear hb8 hbad8
    go_wp2_with fail
    refine KS8.out.mono ?_
    rintro e w9 ⟨⟨c9, p9, hf9, rfl⟩, hb9⟩
    have HB9 := Lib.hid (HB8.out.trans (hb9.mono HB8.out.size))
    have hc9 : 0 < c9 := by
      cases c9 with
      | zero => exact absurd (fault_zero hf9).1 HRS.out
      | succ n => exact Nat.succ_pos n
    have hn9 : ((c9 : Int) == 0) = false := by simpa using (by omega : ¬ (c9 : Int) = 0)
    have KF9 := Lib.hid (fun wl (hb : Below w9.heap.size w9 wl) => faulted2_any (.iface T8 x8) c9 p9 wl (fun w1 hb1 => (bad_code ((HBAD8.out.below hb9).below (hb.trans (hb1.mono hb.size))) hf9 (HE.out w1 (HB9.out.trans ((hb.trans (hb1.mono hb.size)).mono HB9.out.size)))).2))
    clear hb9 hf9
    go_wp2_with fail
    refine (KF9.out _ (((Below.refl _ w9).alloc (Nat.le_refl _) _).alloc (by simp) _)).mono ?_
    rintro e w10 ⟨rfl, hb10⟩
    have HB10 := Lib.hid (HB9.out.trans ((((Below.refl _ w9).alloc (Nat.le_refl _) (.cells #[.int .i64 (c9 : Int), .int .i64 p9] 71)).alloc (by simp) (.cells #[] 3)).trans (hb10.mono (by simp; omega)) |>.mono HB9.out.size))
    clear hb10
    go_wp2
    go_ret
    exact ⟨rfl, HB10.out⟩
  case pos =>
    have HRS := Lib.hid hrs
    have HA4 := Lib.hid ha4
    obtain ⟨s4, e4, rfl⟩ : ∃ s4 e4, e = .returned (.tuple #[str s4, e4]) := by
      rcases ha4 with ⟨-, ⟨i, N, -, -, ⟨o, -, h⟩ | ⟨-, h⟩⟩ | ⟨-, h⟩⟩ | ⟨T, x, h, -⟩
      · exact ⟨_, _, h⟩
      · exact ⟨_, _, h⟩
      · exact ⟨_, _, h⟩
      · exact ⟨_, _, h⟩
    clear ha4 hrs
    go_wp2_with fail
    refine KWF4.out.mono ?_
    rintro e w5 ⟨⟨c5, p5, hf5, rfl⟩, hb5⟩
    have hwf := wof_fault HA4.out hf5 HRS.out
    have HP5 := Lib.hid (HP4.out.trans (hb5.mono HP4.out.size))
    have HB5 := Lib.hid (HB4.out.trans (hb5.mono HB4.out.size))
    clear hf5 hb5
    rcases hwf with ⟨k, hk, rfl, rfl, he⟩ | ⟨rfl, rfl, he, isB, o, t, hot, hon, hou, hoo⟩
    case' inl =>
      obtain ⟨rfl, rfl⟩ : s4 = [] ∧ e4 = errI (S k) := by
        have h := Ending.returned.inj he
        simp at h
        exact ⟨h.1, h.2⟩
      obtain ⟨W5, hW5⟩ : ∃ W, w5.alloc (.cells #[.int .i64 ((k + 1 : Nat) : Int), .int .i64 (-1)] 71) = W := ⟨_, rfl⟩
      have hA5 : Below w5.heap.size w5 W5 := hW5 ▸ (Below.refl _ w5).alloc (Nat.le_refl _) _
      have hg5 : W5.heap[w5.heap.size]? = some (.cells #[.int .i64 ((k + 1 : Nat) : Int), .int .i64 (-1)] 71 (0, 0)) := hW5 ▸ heap_alloc_here w5 _
      have KFA := Lib.hid (fun wl (hb : Below w5.heap.size w5 wl) => faulted2_any (errI (S k)) (k + 1) (-1) wl (fun w1 hb1 => code_at w1 S (HE.out w1 (HB5.out.trans ((hb.trans (hb1.mono hb.size)).mono HB5.out.size))) k hk))
      have hc0 := (cell_of_heap hg5 0).trans (show _ = some (Value.int .i64 ((k : Int) + 1)) from rfl)
      have hc1 := (cell_of_heap hg5 1).trans (show _ = some (Value.int .i64 (-1)) from rfl)
      have HW5 : Hid (w5.alloc (.cells #[.int .i64 ((k : Int) + 1), .int .i64 (-1)] 71) = W5) := Lib.hid hW5
      have HAA5 := Lib.hid hA5
      rw [← hW5] at hc0 hc1
      clear he hA5 hg5 hW5
      go_wp2_with fail
      rw [HW5.out]
      refine (KFA.out W5 HAA5.out).mono ?_
      rintro e w6 ⟨rfl, hb6⟩
      have hp6 := HAA5.out.trans (hb6.mono HAA5.out.size)
      have HP6 := Lib.hid (HP5.out.trans (hp6.mono HP5.out.size))
      have HB6 := Lib.hid (HB5.out.trans (hp6.mono HB5.out.size))
      have KO6 := Lib.hid (KO.out w6 HB6.out HS.out (by omega))
      clear hb6 hp6 hc0 hc1
      go_wp2_with fail
    case' inr =>
      obtain ⟨rfl, rfl⟩ : s4 = (wantV (R.map Prod.fst) (fun p => mlook p m) out).2 ∧ e4 = errN S (wantV (R.map Prod.fst) (fun p => mlook p m) out).1 := by
        have h := Ending.returned.inj he
        simp at h
        exact ⟨h.1, h.2⟩
      have C2 : RCtx R (.slice a R.length c) w1.heap.size rb lv m L w2 := ⟨(HRC.out w2 HB2.out).1, (HRC.out w2 HB2.out).2, HTC.out.r, HTW.out, HRS.out.2, fun x hx => by have := HS.out x hx; exact ⟨by have := this.2.2.1; omega, by have := this.2.2.2.1; omega⟩, by omega⟩
      have hP5 : ∀ ob, Below w2.heap.size w2 (w5.alloc ob) := fun ob => HP5.out.alloc HP5.out.size ob
      have KR := Lib.hid (fun ob => rwant_rule C2 hou t hot hon (w5.alloc ob) (hP5 ob))
      rw [hoo] at KR
      have HTO := Lib.hid (toldOk_want (l := R.map Prod.fst) (T := fun p => mlook p m) (tw_bound HTW.out) out)
      generalize wantV (R.map Prod.fst) (fun p => mlook p m) out = x at *
      obtain ⟨xc, xb⟩ := x
      have KC : Hid (∀ wl, Below w5.heap.size w5 wl → Calls Tryz.prog 43 #[errN S xc, .int .i64 (xc : Int)] wl fun e w' => e = .returned (.bool true) ∧ Below wl.heap.size wl w') := Lib.hid (fun wl hb => coded2_any _ _ wl (by
        have hx := HTO.out.code
        simp only at hx
        have hEl := HE.out wl (HB5.out.trans (hb.mono HB5.out.size))
        cases xc with
        | zero => exact (code_nil wl).mono (fun e w' h => ⟨h.1, h.2 ▸ Below.refl _ _⟩)
        | succ n => exact code_at wl S hEl n (by omega)))
      have HP5A := Lib.hid hP5
      clear he hou hoo C2 hP5
      rcases errN_cases S xc with hxe | ⟨ad, hxe⟩
      all_goals
        simp only [hxe] at KC ⊢
        clear hxe
        go_wp2_with fail
        refine (KR.out _).mono ?_
        rintro e w55 ⟨rfl, hb55⟩
        have hp55 := ((Below.refl _ w5).alloc (Nat.le_refl _) (.cells #[.int .i64 0, .int .i64 (-1)] 71)).trans (hb55.mono (by simp))
        have HP55 := Lib.hid hp55
        clear hb55 hp55
        go_wp2_with fail
        refine (KC.out _ HP55.out).mono ?_
        rintro e w6 ⟨rfl, hb6⟩
        have hp6 := HP55.out.trans (hb6.mono HP55.out.size)
        have HP6 := Lib.hid (HP5.out.trans (hp6.mono HP5.out.size))
        have HB6 := Lib.hid (HB5.out.trans (hp6.mono HB5.out.size))
        have KO6 := Lib.hid (KO.out w6 HB6.out HS.out (by omega))
        clear hb6 hp6
        go_wp2_with fail
    all_goals
      have KALF := Lib.hid (fun w1 (hb : Below w.heap.size w w1) => allOf_any R.length w1 (by omega))
      refine KO6.out.mono ?_
      rintro e w7 ⟨v7, R7, rfl, he7, ho7, hb7⟩
      have HE7 := Lib.hid he7
      have HP7 := Lib.hid (HP6.out.trans (hb7.mono HP6.out.size))
      have HB7 := Lib.hid (HB6.out.trans (hb7.mono HB6.out.size))
      have hl7 : R7.length = R.length := by have := congrArg List.length he7; simpa using this
      have KA7 := Lib.hid (KAL.out w7 HB7.out tb mb m R7 v7 ⟨_, ho7⟩ (short_other HS.out he7) (by omega) ((HTC.out.below HP7.out).t) (tw_bound HTW.out) HTW.out.many (fun y hy => by have := HTW.out.keyLen hy; omega))
      clear he7 ho7 hb7
      go_wp2_with fail
      refine KA7.out.mono ?_
      rintro e w8 ⟨ha8, hb8⟩
      rw [HE7.out] at ha8
      have HP8 := Lib.hid (HP7.out.trans (hb8.mono HP7.out.size))
      have HB8 := Lib.hid (HB7.out.trans (hb8.mono HB7.out.size))
      have HQ8 := Lib.hid hb8
      rcases ha8 with ⟨-, ⟨o8, tb8, mb8, ho8, rfl, htb8, hmb8, hT8⟩ | ⟨ho8, rfl⟩⟩ | ⟨T8, x8, -, hbad8⟩
      case inr => exact absurd HRS.out hbad8.wrong
      case' inl.inl => have HT8 := Lib.hid hT8
      all_goals
        have HO8 := Lib.hid ho8
        have KS8 := Lib.hid (KSF.out w8 HB8.out HS.out)
        clear hb8 ho8
        go_wp2_with fail
        refine KS8.out.mono ?_
        rintro e w9 ⟨⟨c9, p9, hf9, rfl⟩, hb9⟩
        obtain ⟨rfl, rfl⟩ := right_fault HRS.out hf9
        have HP9 := Lib.hid (HP8.out.trans (hb9.mono HP8.out.size))
        have HB9 := Lib.hid (HB8.out.trans (hb9.mono HB8.out.size))
        have HQ9 := Lib.hid hb9
        clear hf9 hb9
        go_wp2_with fail
        obtain ⟨W9, hW9⟩ : ∃ W, (w9.alloc (.cells #[.int .i64 0, .int .i64 (-1)] 71)).alloc (.cells #[] 3) = W := ⟨_, rfl⟩
        have hA9 : Below w9.heap.size w9 W9 := hW9 ▸ ((Below.refl _ w9).alloc (Nat.le_refl _) _).alloc (by simp) _
        have hg9 : W9.heap[w9.heap.size]? = some (.cells #[.int .i64 0, .int .i64 (-1)] 71 (0, 0)) := hW9 ▸ Kf.heap_alloc_old (heap_alloc_here w9 _) _
        have HG9 := Lib.hid (fun wl (hb : Below W9.heap.size W9 wl) => (hb.block _ (lt_of_heap hg9)).trans hg9)
        have HA9 := Lib.hid hA9
        have HBW9 := Lib.hid (HB9.out.trans (hA9.mono HB9.out.size))
        have KAL9 := Lib.hid (KALF.out W9 HBW9.out)
        rw [hW9]
        clear hA9 hg9 hW9
        refine KAL9.out.mono ?_
        rintro e w10 ⟨rfl, hbi10, hb10⟩
        have HB10 := Lib.hid (HBW9.out.trans (hb10.mono HBW9.out.size))
        have HQ10 := Lib.hid hb10
        have KOR10 := Lib.hid (KOR.out w10 HB10.out W9.heap.size hbi10 (by omega))
        clear hbi10 hb10
        go_wp2_with fail
        refine KOR10.out.mono ?_
        rintro e w11 ⟨⟨o, u, ho, rfl, how⟩ | ⟨ho, rfl⟩, hb11⟩
        · first
          | (exfalso; rw [HO8.out] at ho; cases ho; done)
          | (have HQ11 := Lib.hid (HQ10.out.trans (hb11.mono HQ10.out.size))
             have HB11 := Lib.hid (HB10.out.trans (hb11.mono HB10.out.size))
             obtain rfl : o8 = o := Option.some.inj (HO8.out.symm.trans ho)
             have hp911 : Below w9.heap.size w9 w11 := HA9.out.trans (HQ11.out.mono HA9.out.size)
             have HP911 := Lib.hid hp911
             have HP11 := Lib.hid (HP9.out.trans (hp911.mono HP9.out.size))
             have HOW := Lib.hid how
             have KCP := Lib.hid (rcopy_any w1.heap.size rb lv L w11 (HTC.out.r.below HP11.out) (by have := HTW.out.len; have := HTW.out.many; omega))
             have hg11 := HG9.out w11 HQ11.out
             obtain ⟨hcs, hf0, hf1⟩ := two_free hg11
             clear hb11 how ho hp911 hg11
             go_wp2_with fail
             refine KCP.out.mono ?_
             rintro e w12 ⟨lv12, rfl, hx12, hb12⟩
             have HX12 := Lib.hid hx12
             have HQ12 := Lib.hid hb12
             have HRO := Lib.hid (reads_ints HOW.out)
             have HOM := Lib.hid (order_mem HO8.out).1
             have C2 : RCtx R (.slice a R.length c) w1.heap.size rb lv m L w2 := ⟨(HRC.out w2 HB2.out).1, (HRC.out w2 HB2.out).2, HTC.out.r, HTW.out, HRS.out.2, fun x hx => by have := HS.out x hx; exact ⟨by have := this.2.2.1; omega, by have := this.2.2.2.1; omega⟩, by omega⟩
             have HC2 := Lib.hid C2
             have ho8l : o8.length ≤ 41 := by have := outs_len HOM.out; rw [HML.out] at this; omega
             obtain ⟨au, cu, hu, hole, -⟩ := id HRO.out
             rw [List.length_map] at hu hole
             subst hu
             clear hcs hf0 hf1 hx12 hb12 C2 hole
             go_wp2_with fail
             go_loopw [20] (fun iv wl => ∃ (j : Nat) (lvj : Value) (L2 : List Ent), j ≤ o8.length ∧ iv = .int .i64 j ∧ RTAt w11.heap.size wl w11.heap.size lvj L2 ∧ Tw (allM (R.map Prod.fst) (fun p => mlook p m) (o8.take j) m) L2 ∧ Below w11.heap.size w11 wl) (fun iv _ => o8.length - (intOf iv).toNat)
             case atStart => exact ⟨0, lv12, L, by omega, rfl, HX12.out, by simpa [allM] using HTW.out, HQ12.out⟩
             case round =>
               obtain ⟨j, lvj, L2, hj, rfl, hxj, htw2, hbj⟩ := hrel
               have HXJ := Lib.hid hxj
               have HT2 := Lib.hid htw2
               have HBJ := Lib.hid hbj
               by_cases hlj : j < o8.length
               · have hlc : ((j : Int) < (o8.length : Int)) = True := eq_true (by omega)
                 have HLJ := Lib.hid hlj
                 have h211 : Below w2.heap.size w2 wr := HP11.out.trans (hbj.mono HP11.out.size)
                 have hbw : Below w.heap.size w wr := HB11.out.trans (hbj.mono HB11.out.size)
                 obtain ⟨b, ofs, hix, hce⟩ := (HRO.out.below0 hbj).at (P := Tryz.prog) Tryz.underlying31 (by kernel_rfl) j (by simpa using hlj)
                 simp only [List.getElem_map] at hce
                 have HTK : Hid (o8.take (j + 1) = o8.take j ++ [o8[j]]) := Lib.hid (List.take_succ_eq_append_getElem hlj)
                 have hit := (HOM.out.lt o8[j] (List.getElem_mem hlj)).1
                 have KA := Lib.hid (rwant_rule HC2.out HOM.out j hlj hit wr h211)
                 generalize hi : o8[j] = i at *
                 have hi2 : i < R.length := by rw [HML.out] at hit; exact hit
                 obtain ⟨b2, o2, hix2, -, hce2⟩ := (HRC.out w (Below.refl _ _)).1.at (P := Tryz.prog) Tryz.underlying23 (by kernel_rfl) i (by simpa using hi2)
                 simp only [List.getElem_map] at hce2
                 have hr00 := hce2 0 _ rfl
                 simp only [Nat.add_zero] at hr00
                 have HSH := Lib.hid (HS.out _ (List.getElem_mem hi2))
                 have HGD : Hid (((R.map Prod.fst).getD i noR).out = (R.map Prod.fst)[i].out) := Lib.hid (by rw [List.getD_eq_getElem?_getD, List.getElem?_eq_getElem hit]; rfl)
                 have HRE : Hid ((R.map Prod.fst)[i].out = R[i].1.out) := Lib.hid (by rw [List.getElem_map])
                 rw [HRE.out] at KA HGD
                 generalize R[i] = x at *
                 obtain ⟨⟨x0, x1, x2, x4⟩, x3⟩ := x
                 simp only at KA HGD hr00 HSH
                 have HR0 := Lib.hid (fun wl (hb : Below wr.heap.size wr wl) => ((hbw.trans (hb.mono hbw.size)).cell (lt_of_cell hr00)).trans hr00)
                 have HCI := Lib.hid (fun wl (hb : Below wr.heap.size wr wl) => (hb.cell (lt_of_cell hce)).trans hce)
                 have hr0 := HR0.out wr (Below.refl _ _)
                 obtain ⟨yc, yb, hx⟩ : ∃ yc yb, wantV (R.map Prod.fst) (fun p => mlook p m) x0 = (yc, yb) := ⟨_, _, rfl⟩
                 have HSN := Lib.hid (allM_snoc (R.map Prod.fst) (fun p => mlook p m) (o8.take j) i m)
                 rw [HGD.out, hx, ← HTK.out] at HSN
                 rw [hx] at KA
                 simp only at HSN
                 clear hx hce2 hi hxj htw2 hbj HRE hit h211 hbw hr00
                 cases yc with
                 | succ ec =>
                   rw [if_neg (Nat.succ_ne_zero _)] at HSN
                   have hnz : (((ec : Int) + 1) == 0) = false := by simpa using (by omega : ¬ ((ec : Int) + 1) = 0)
                   go_wp2_with fail
                   refine KA.out.mono ?_
                   rintro e w13 ⟨rfl, hb13⟩
                   have HB13 := Lib.hid (HBJ.out.trans (hb13.mono HBJ.out.size))
                   have HX13 := Lib.hid (HXJ.out.below hb13)
                   clear hb13
                   go_wp2
                   go_roundw
                   case rel => exact ⟨j + 1, lvj, L2, HLJ.out, by go_num, HX13.out, by rw [HSN.out]; exact HT2.out, HB13.out⟩
                   case measure => have := HLJ.out; simp [intOf]; omega
                 | zero =>
                   rw [if_pos rfl] at HSN
                   go_wp2_with fail
                   refine KA.out.mono ?_
                   rintro e w13 ⟨rfl, hb13⟩
                   have HB13 := Lib.hid (HBJ.out.trans (hb13.mono HBJ.out.size))
                   have HX13 := Lib.hid (HXJ.out.below hb13)
                   have HQ13 := Lib.hid hb13
                   have hr1 := HR0.out w13 hb13
                   have hc1 := HCI.out w13 hb13
                   have KP := Lib.hid (rput_any w11.heap.size w11.heap.size lvj L2 x0 yb w13 HX13.out (HBJ.out.trans (hb13.mono HBJ.out.size)).size (by have := HT2.out.many; have := HT2.out.len; omega) (Nat.le_trans HSH.out.1 (by decide)))
                   clear hb13 hr0 hce
                   go_wp2_with fail
                   refine KP.out.mono ?_
                   rintro e w14 ⟨rfl, lv14, hx14, hf14, -⟩
                   have HX14 := Lib.hid hx14
                   have HB14 := Lib.hid (HB13.out.trans ((hf14.mono (S' := fun k => k = w11.heap.size ∨ lvj.ownBlock = some k) HB13.out.size (fun _ _ h => h)).below (fun k hk e => by
                     rcases e with e | e
                     · omega
                     · have := (HX13.out.row.lt k e).1; omega)))
                   clear hx14 hf14
                   go_wp2
                   go_roundw
                   case rel => exact ⟨j + 1, lv14, _, HLJ.out, by go_num, HX14.out, by rw [HSN.out]; exact HT2.out.put HSH.out.1, HB14.out⟩
                   case measure => have := HLJ.out; simp [intOf]; omega
               · obtain rfl : j = o8.length := by omega
                 have hlc : ((o8.length : Int) < (o8.length : Int)) = False := eq_false (by omega)
                 rw [List.take_length] at HT2
                 have h811 : Below w8.heap.size w8 wr := HQ9.out.trans ((HP911.out.trans (hbj.mono HP911.out.size)).mono HQ9.out.size)
                 have h211 : Below w2.heap.size w2 wr := HP11.out.trans (hbj.mono HP11.out.size)
                 have hbw : Below w.heap.size w wr := HB11.out.trans (hbj.mono HB11.out.size)
                 have KX1 := Lib.hid (fun wl (hb : Below wr.heap.size wr wl) => text_tree tb8 mb8 _ wl (HT8.out.below (h811.trans (hb.mono h811.size))) (HT.out wl (hbw.trans (hb.mono hbw.size))) HT2.out.nodup' (by have := HT2.out.many; omega) (fun y hy => by have := HT2.out.keyLen hy; omega) (fun q => by have := HT2.out.getLen q; omega))
                 have KX2 := Lib.hid (fun wl (hb : Below wr.heap.size wr wl) => rtext_any w11.heap.size w11.heap.size lvj L2 wl (HXJ.out.below hb) (by have := HT2.out.many; have := HT2.out.len; omega) (fun y hy => by have := HT2.out.path y hy; exact ⟨by omega, by omega⟩))
                 have KX3 := Lib.hid (fun wl (hb : Below wr.heap.size wr wl) => text_tree tb mb m wl ((HTC.out.t).below (h211.trans (hb.mono h211.size))) (HT.out wl (hbw.trans (hb.mono hbw.size))) HTW.out.nodup' (by have := HTW.out.many; omega) (fun y hy => by have := HTW.out.keyLen hy; omega) (fun q => by have := HTW.out.getLen q; omega))
                 have KX4 := Lib.hid (fun wl (hb : Below wr.heap.size wr wl) => rtext_any w1.heap.size rb lv L wl (HTC.out.r.below (h211.trans (hb.mono h211.size))) (by have := HTW.out.many; have := HTW.out.len; omega) (fun y hy => by have := HTW.out.path y hy; exact ⟨by omega, by omega⟩))
                 rw [HT2.out.lines] at KX1
                 rw [HTW.out.lines] at KX3
                 have HBW := Lib.hid hbw
                 clear hxj htw2 hbj h811 h211 hbw
                 go_wp2_with fail
                 refine (KX1.out wr (Below.refl _ _)).mono ?_
                 rintro e w21 ⟨rfl, hb21⟩
                 have HB21 := Lib.hid hb21
                 clear hb21
                 go_wp2_with fail
                 refine (KX2.out w21 HB21.out).mono ?_
                 rintro e w22 ⟨rfl, hb22⟩
                 have HB22 := Lib.hid (HB21.out.trans (hb22.mono HB21.out.size))
                 clear hb22
                 go_wp2_with fail
                 refine (KX3.out w22 HB22.out).mono ?_
                 rintro e w23 ⟨rfl, hb23⟩
                 have HB23 := Lib.hid (HB22.out.trans (hb23.mono HB22.out.size))
                 clear hb23
                 go_wp2_with fail
                 refine (KX4.out w23 HB23.out).mono ?_
                 rintro e w24 ⟨rfl, hb24⟩
                 have HB24 := Lib.hid (HBW.out.trans ((HB23.out.trans (hb24.mono HB23.out.size)).mono HBW.out.size))
                 clear hb24
                 go_wp2
                 go_ret
                 exact ⟨rfl, HB24.out⟩)
        · first
          | (exfalso; have hx := HO8.out; rw [ho] at hx; cases hx; done)
          | (have HQ11 := Lib.hid (HQ10.out.trans (hb11.mono HQ10.out.size))
             have HB11 := Lib.hid (HB10.out.trans (hb11.mono HB10.out.size))
             have KB11 := Lib.hid (bare_any 9 w11)
             clear ho hb11
             go_wp2_with fail
             refine KB11.out.mono ?_
             rintro e w12 ⟨rfl, hb12⟩
             have hq12 := HQ11.out.trans (hb12.mono HQ11.out.size)
             have hg12 := HG9.out w12 hq12
             have HG12 := Lib.hid hg12
             have HQ12 := Lib.hid hq12
             have HB12 := Lib.hid (HBW9.out.trans (hq12.mono HBW9.out.size))
             obtain ⟨hcs, hf0, hf1⟩ := two_free hg12
             clear hb12 hq12 hg12
             go_wp2_with fail
             have hz9 := HA9.out.size
             have hz12 := HQ12.out.size
             have hbp : Below w9.heap.size w9 ((w12.setCell ⟨w9.heap.size, 0, none⟩ (.int .i64 9)).setCell ⟨w9.heap.size, 1, none⟩ (.int .i64 (-1))) := below_put (HA9.out.trans (HQ12.out.mono hz9)) (Nat.le_refl _) _ _
             have KF := Lib.hid (fun wl (hb : Below w9.heap.size w9 wl) => faulted2_any (errI (S 8)) 9 (-1) wl (fun w1 hb1 => code_at w1 S (HE.out w1 (HB9.out.trans ((hb.trans (hb1.mono hb.size)).mono HB9.out.size))) 8 (by decide)))
             refine (KF.out _ hbp).mono ?_
             rintro e w13 ⟨rfl, hb13⟩
             have HB13 := Lib.hid (HB9.out.trans ((hbp.trans (hb13.mono hbp.size)).mono HB9.out.size))
             clear hb13 hbp
             go_wp2
             go_ret
             exact ⟨rfl, HB13.out⟩)
end Go.Proofs.YtpihjbfbnoepiaaGreatDoor
