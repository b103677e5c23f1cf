/-
  Scripts: commands about paths; rules; a line. Scripts: a line. Scripts: a whole script.
-/
import Derived.Test.YtgjialbmlhbngaaGreatDoorScD
import Derived.Test.YtgjialbmlhbngaaGreatDoorScE
import Derived.Test.YtgjialbmlhbngaaGreatDoorScB

set_option maxRecDepth 100000
namespace Go.Proofs.YtgjialbmlhbngaaGreatDoor
open Go Go.RowKit Go.Kf Go.Sort Go.Proofs
theorem SAns.pre {S : Nat → Addr} {w1 w wr w' : World} {pb : Nat} {Y : YPl} {vl lv : Value} {R : List RV} {a : SS} {k : Cmd} {e : Ending} (h : SAns S w1 pb Y vl lv R a k wr e w') (hb : Below w.heap.size w wr) : SAns S w1 pb Y vl lv R a k w e w' := by
  obtain ⟨t, err, c, x, b, vl', lv', R', h1, h2, h3, h4, h5, h6⟩ := h
  exact ⟨t, err, c, x, b, vl', lv', R', h1, h2, h3, h4, h5, (STurn.of_below hb).trans h6⟩
set_option maxHeartbeats 1000000 in
theorem sabout_any {S : Nat → Addr} {w1 w : World} {pb : Nat} {Y : YPl} {vl lv : Value} {R : List RV} {a : SS} (wd : List UInt8) (l : List (List UInt8)) (g c : Nat) (hr : Reads w (.slice (some ⟨g, 0, none⟩) l.length c) (l.map str)) (hn : l.length ≤ 1000) (hx : ∀ s ∈ l, s.length ≤ 1000) (hg : ∀ i q, ysec Y lv vl R i q → q ≠ g) (h : PAt S w1 pb Y vl lv R a w) :
    Calls Tryz.prog 184 #[ptrV pb, str wd, .slice (some ⟨g, 0, none⟩) l.length c] w (SAns S w1 pb Y vl lv R a (aboutC wd l) w) := by
  have H := Hd h
  have HR := Hd hr
  have HG := Hd hg
  have KP := Hd (fun wl (hb : Below w.heap.size w wl) (p : List UInt8) (hp : p.length ≤ 1000) => pcheck_any p wl S (H.out.below hb).here.ml (H.out.below hb).here.err.k (by omega))
  have HX := Hd hx
  clear h hr hx hg
  go_enter Tryz.func184, Tryz.ntmps184
  go_wp2_with fail
  go_loopw [14] (fun iv wl => ∃ j : Nat, j ≤ l.length ∧ iv = .int .i64 j ∧ (∀ s ∈ l.take j, isPathB s = true) ∧ Below w.heap.size w wl) (fun iv _ => l.length - (intOf iv).toNat)
  case atStart => exact ⟨0, by omega, rfl, fun s hs => by simp at hs, Below.refl _ _⟩
  case round =>
    obtain ⟨j, hj, rfl, hall, hb⟩ := hrel
    have HA := Hd hall
    have HB := Hd hb
    clear hall
    by_cases hlt : j < l.length
    · have hlc : ((j : Int) < (l.length : Int)) = True := eq_true (by omega)
      have hrd := HR.out.below0 hb
      obtain ⟨bx, ox, hix, hce⟩ := hrd.at (P := Tryz.prog) Tryz.underlying33 (by kernel_rfl) j (by simpa using hlt)
      simp only [List.getElem_map] at hce
      have HTK : Hid (l.take (j + 1) = l.take j ++ [l[j]]) := Hd (List.take_succ_eq_append_getElem hlt)
      have HM := Hd (List.getElem_mem hlt)
      have K := KP.out wr hb l[j] (HX.out _ (List.getElem_mem hlt))
      generalize l[j] = s at *
      by_cases hp : isPathB s = true
      · rw [if_pos hp] at K
        have e0 : errN S 0 = .nilIface := rfl
        rw [e0] at K
        have K := Hd K
        have HP := Hd hp
        clear hrd hp hb
        go_wp2_with fail
        refine K.out.mono ?_
        rintro e w2 ⟨rfl, hb2⟩
        have HB2 := Hd (HB.out.trans (hb2.mono HB.out.size))
        clear hb2 hix hce
        go_wp2
        go_roundw
        case rel => exact ⟨j + 1, by omega, by go_num, by
          rw [HTK.out]
          intro x hx
          rcases List.mem_append.1 hx with hx | hx
          · exact HA.out x hx
          · rw [List.mem_singleton.1 hx]; exact HP.out, HB2.out⟩
        case measure => simp [intOf]; omega
      · rw [if_neg hp] at K
        have e4 : errN S 4 = errV (S 3) := rfl
        rw [e4] at K
        have K := Hd K
        have HAC : Hid (aboutC wd l = .bad) := Hd (by
          unfold aboutC
          rw [if_neg (fun e => hp (List.all_eq_true.1 e s HM.out))])
        clear hrd hp hb
        go_wp2_with fail
        refine K.out.mono ?_
        rintro e w2 ⟨rfl, hb2⟩
        have HB2 := Hd (HB.out.trans (hb2.mono HB.out.size))
        have c0 := (H.out.below HB2.out).here.text
        clear hb2 hix hce
        go_wp2_with fail
        go_quiet (fail)
        go_wp2
        go_ret2
        rw [HAC.out]
        exact SAns.same H.out (below_drewN HB2.out nq) (ErrIs.some (k := 0) (by omega)) .bad (fun h => by cases h)
    · obtain rfl : j = l.length := by omega
      have hall := HA.out
      rw [List.take_length] at hall
      have HALL : Hid (l.all isPathB = true) := Hd (List.all_eq_true.2 hall)
      clear hall
      have hlc : ((l.length : Int) < (l.length : Int)) = False := eq_false (by omega)
      have HP := Hd (H.out.below hb)
      have hpl := HP.out.pl
      by_cases hmk : wd = [109, 97, 107, 101]
      · have HC : Hid (aboutC wd l = .make l) := Hd (by unfold aboutC; rw [if_pos HALL.out, if_pos hmk])
        have KM := Hd (smake_any l _ (HR.out.below0 hb) hn HP.out)
        subst hmk
        clear hb
        go_wp2_with fail
        refine KM.out.mono ?_
        intro e w2 hans
        obtain ⟨t, err, c, x, b, vl', lv', R', rfl, hrest⟩ := hans.pre HB.out
        have HRS := Hd hrest
        clear hrest hans
        go_wp2
        go_ret2
        rw [HC.out]
        exact ⟨t, err, c, x, b, vl', lv', R', rfl, HRS.out⟩
      have m1 : (wd == [109, 97, 107, 101]) = false := by simpa using hmk
      have m2 : (wd = [109, 97, 107, 101]) = False := eq_false hmk
      by_cases h1 : l.length = 1
      case neg =>
        have HC : Hid (aboutC wd l = .bad) := Hd (by
          unfold aboutC
          rw [if_pos HALL.out, if_neg hmk]
          match l, h1 with
          | [], _ => rfl
          | [p], h1 => exact absurd rfl h1
          | p :: q :: l, _ => rfl)
        have n1 : ((l.length : Int) != 1) = true := by simp; omega
        have n2 : ((l.length : Int) = 1) = False := eq_false (by omega)
        have c0 := HP.out.here.text
        clear hb hmk
        go_wp2_with fail
        go_quiet (fail)
        go_wp2
        go_ret2
        rw [HC.out]
        exact SAns.same H.out (below_drewN HB.out nq) (ErrIs.some (k := 0) (by omega)) .bad (fun h => by cases h)
      obtain ⟨p, rfl⟩ := List.length_eq_one_iff.1 h1
      have hrd := HR.out.below0 hb
      have hce0 : wr.cell? ⟨g, 0, none⟩ = some (str p) := by
        obtain ⟨a', c', e', -, hc⟩ := hrd
        obtain ⟨b0, o0, ha, hcell⟩ := hc 0 (str p) rfl
        simp only [Value.slice.injEq] at e'
        rw [← e'.1] at ha
        simp only [Option.some.injEq, Addr.mk.injEq] at ha
        rw [← ha.1, ← ha.2.1] at hcell
        exact hcell
      have hix0 := idx_at (P := Tryz.prog) (T := 33) (E := 9) Tryz.underlying33 (by kernel_rfl) g 1 c 0 (by omega)
      have HPL : Hid (p.length ≤ 1000) := Hd (HX.out p List.mem_cons_self)
      have KTR := Hd (fun wl (hb : Below wr.heap.size wr wl) => ytree_any wl (HP.out.below hb).yard)
      have HCE := Hd (fun wl (hb : Below wr.heap.size wr wl) => ((hb.cell (lt_of_cell hce0)).trans hce0 : wl.cell? ⟨g, 0, none⟩ = some (str p)))
      by_cases hd : wd = [100, 114, 111, 112]
      · have HC : Hid (aboutC wd [p] = .drop p) := Hd (by unfold aboutC; rw [if_pos HALL.out, if_neg hmk]; simp only; rw [if_pos hd])
        have KRM := Hd (fun wl (hb : Below wr.heap.size wr wl) => (remove_tree Y.tb Y.mb a.m p wl S (HP.out.below hb).yard.tree (HP.out.below hb).here.err.t).mono (fun e w' h => (by
          obtain ⟨h1, hT, hf⟩ := h
          obtain ⟨h2, h3⟩ := (HP.out.below hb).tstep hT hf (HP.out.good.del p)
          refine ⟨_, h1, ⟨okT, _, removeC p a.m, okT, _, vl, lv, R, rfl, ErrIs.code (by unfold removeC; split <;> omega), .drop, fun _ => rfl, h2, (STurn.of_below (HB.out.trans (hb.mono HB.out.size))).trans h3⟩, h2.pl, (hf.cell (p := ⟨g, 0, none⟩) (lt_of_cell (HCE.out wl hb)) (fun e => HG.out 1 Y.mb (Or.inr rfl) e.symm)).trans (HCE.out wl hb)⟩ : ∃ err, e = .returned err ∧ SAns S w1 pb Y vl lv R a (.drop p) w (.returned (.tuple #[str okT, err])) w' ∧ w'.cell? ⟨pb, 0, none⟩ = some (ptrV Y.yb) ∧ w'.cell? ⟨g, 0, none⟩ = some (str p))))
        subst hd
        clear hb hmk hrd
        go_wp2_with fail
        go_region_held3 (fun w' => w'.cell? ⟨pb, 0, none⟩ = some (ptrV Y.yb) ∧ w'.cell? ⟨g, 0, none⟩ = some (str p))
          (first | exact ⟨hp6, hg6⟩ | exact ⟨hpl, hce0⟩ | exact ⟨HP.out.pl, hce0⟩)
          (first
            | (go_at_call 17
               refine (KTR.out _ ?_).mono ?_
               · first | exact Below.refl _ _ | exact (Below.refl _ _).drew
               rintro e w4 ⟨rfl, rfl⟩)
            | (go_at_call 18
               refine (KRM.out _ ?_).mono ?_
               · first | exact Below.refl _ _ | exact (Below.refl _ _).drew
               rintro e w6 ⟨err, rfl, hans, hp6, hg6⟩))
        go_wp2
        go_ret2
        rw [HC.out]
        exact hans
      have d1 : (wd == [100, 114, 111, 112]) = false := by simpa using hd
      have d2 : (wd = [100, 114, 111, 112]) = False := eq_false hd
      by_cases hsw : wd = [115, 104, 111, 119]
      · have HC : Hid (aboutC wd [p] = .show p) := Hd (by unfold aboutC; rw [if_pos HALL.out, if_neg hmk]; simp only; rw [if_neg hd, if_pos hsw])
        have KSW := Hd (sshow_any p HP.out)
        subst hsw
        clear hb hmk hrd hd
        go_wp2_with fail
        refine KSW.out.mono ?_
        intro e w2 hans
        obtain ⟨t, err, c', x, b, vl', lv', R', rfl, hrest⟩ := hans.pre HB.out
        have HRS := Hd hrest
        clear hrest hans
        go_wp2
        go_ret2
        rw [HC.out]
        exact ⟨t, err, c', x, b, vl', lv', R', rfl, HRS.out⟩
      have s1 : (wd == [115, 104, 111, 119]) = false := by simpa using hsw
      have s2 : (wd = [115, 104, 111, 119]) = False := eq_false hsw
      by_cases hwt : wd = [119, 97, 110, 116]
      · have HC : Hid (aboutC wd [p] = .want p) := Hd (by unfold aboutC; rw [if_pos HALL.out, if_neg hmk]; simp only; rw [if_neg hd, if_neg hsw, if_pos hwt])
        have KSY := Hd (fun wl (hb : Below wr.heap.size wr wl) => (HP.out.below hb).sheetY)
        have KWT := Hd (fun wl (hb : Below wr.heap.size wr wl) (R' : List RV) (v : Value) (B : Nat) (e : R'.map Prod.fst = R.map Prod.fst) (ho : OwnAt B wl v R') => pwant_any (HP.out.below hb) e v B ho p)
        subst hwt
        clear hb hmk hrd hd hsw
        go_wp2_with fail
        go_region_held3 (fun w' => w'.cell? ⟨pb, 0, none⟩ = some (ptrV Y.yb) ∧ w'.cell? ⟨g, 0, none⟩ = some (str p))
          (first | exact ⟨(HP.out.below hq8).pl, HCE.out _ hq8⟩ | exact ⟨(HP.out.below hq6).pl, HCE.out _ hq6⟩ | exact ⟨hpl, hce0⟩ | exact ⟨HP.out.pl, hce0⟩)
          (first
            | (go_at_call 17
               refine (KTR.out _ ?_).mono ?_
               · first | exact Below.refl _ _ | exact (Below.refl _ _).drew
               rintro e w4 ⟨rfl, rfl⟩)
            | (go_at_call 179
               refine (KSY.out _ ?_).mono ?_
               · first | exact Below.refl _ _ | exact (Below.refl _ _).drew
               rintro e w6 ⟨v6, R6, rfl, he6, ho6, hb6⟩
               have hq6 : Below wr.heap.size wr w6 := by first | exact hb6 | exact (Below.refl _ _).drew.trans hb6)
            | (go_at_call 75
               refine (KWT.out w6 hq6 R6 v6 _ he6 ho6).mono ?_
               rintro e w8 ⟨tx, err, cc, yy, rfl, herr, hdo, htx, hln, hb8⟩
               have hq8 : Below wr.heap.size wr w8 := hq6.trans (hb8.mono hq6.size)))
        have HQ8 := Hd (HB.out.trans (hq8.mono HB.out.size))
        have HER := Hd herr
        have HDO := Hd hdo
        have HTX := Hd htx
        have KSH := Hd (shown_any tx w8 ((H.out.below HQ8.out).here).ml hln)
        clear hq8 hb8 hq6 hb6 ho6 he6 herr hdo htx hce0 hpl
        go_wp2_with fail
        refine KSH.out.mono ?_
        rintro e w9 ⟨rfl, hb9⟩
        have HB9 := Hd (HQ8.out.trans (hb9.mono HQ8.out.size))
        have HE9 := Hd (HER.out.below hb9)
        clear hb9
        go_wp2
        go_ret2
        rw [HC.out]
        exact SAns.same H.out HB9.out HE9.out HDO.out HTX.out
      · have HC : Hid (aboutC wd [p] = .bad) := Hd (by unfold aboutC; rw [if_pos HALL.out, if_neg hmk]; simp only; rw [if_neg hd, if_neg hsw, if_neg hwt])
        have w1' : (wd == [119, 97, 110, 116]) = false := by simpa using hwt
        have w2' : (wd = [119, 97, 110, 116]) = False := eq_false hwt
        have c0 := HP.out.here.text
        clear hb hmk hrd hd hsw hwt
        go_wp2_with fail
        go_quiet (fail)
        go_wp2
        go_ret2
        rw [HC.out]
        exact SAns.same H.out (below_drewN HB.out nq) (ErrIs.some (k := 0) (by omega)) .bad (fun h => by cases h)
theorem leaf_short {l : List RuleL} (h : ∀ r ∈ l, RuleIn 999 r) : ∀ s ∈ leavesB l, s.length ≤ 10000 := fun s hs => by
  have h1 := (sortB_perm _).mem_iff.1 (compact_mem hs)
  unfold looseAll at h1
  obtain ⟨q, hq, hs⟩ := List.mem_flatten.1 h1
  obtain ⟨r, hr, rfl⟩ := List.mem_map.1 hq
  have h2 := (h r hr).2.2.2.1 s (List.mem_filter.1 hs).1
  omega
theorem str_ne {s t : List UInt8} (h : s ≠ t) : (s == t) = false ∧ (s = t) = False := ⟨by simpa using h, eq_false h⟩
set_option maxHeartbeats 1000000 in
theorem splay_any {S : Nat → Addr} {w1 w : World} {pb : Nat} {Y : YPl} {vl lv : Value} {R : List RV} {a : SS} (s : List UInt8) (h : PAt S w1 pb Y vl lv R a w) (hs : s.length ≤ 990) :
    Calls Tryz.prog 125 #[ptrV pb, str s] w (SAns S w1 pb Y vl lv R a (cmdOf s) w) := by
  have H := Hd h
  have hpl := h.pl
  by_cases h1 : s = [99, 108, 101, 97, 114]
  · have HC : Hid (cmdOf s = .clear) := Hd (by unfold cmdOf; rw [if_pos h1])
    have KR := Hd (prules_any h [] (.slice none 0 0) w.heap.size (ownAt_nil _ _) (h.yard.lt 0 Y.yb rfl) (fun x hx => by cases hx) (by simp))
    rw [HC.out]
    subst h1
    clear h
    go_enter Tryz.func125, Tryz.ntmps125
    go_wp2_with fail
    refine KR.out.mono ?_
    rintro e w2 (⟨T, x, c, p, rfl, hf, hc, he, hb⟩ | ⟨hr, hno, rfl, hb⟩ | ⟨hr, ⟨o, ho⟩, rfl, vl', R2, hp, ht⟩)
    · exact absurd (⟨by decide, fun i r h => by simp at h⟩ : RightS []) (fault_wrong hf hc)
    · exact absurd hno (by decide +kernel)
    · have HP := Hd hp
      have HT := Hd ht
      clear hp ht hr ho hpl
      go_wp2
      go_ret2
      exact ⟨okT, _, 0, okT, _, vl', lv, R2, rfl, .nil, .clear, fun _ => rfl, HP.out, HT.out⟩
  obtain ⟨a1, b1⟩ := str_ne h1
  by_cases h2 : s = [115, 116, 97, 108, 101]
  · have HC : Hid (cmdOf s = .stale) := Hd (by unfold cmdOf; rw [if_neg h1, if_pos h2])
    have KT := Hd (ystale_any (S := S) w1 w h.yard h.benv h.low (by rw [h.sheet]; exact h.right) (by rw [h.sheet]; exact h.ord))
    rw [h.sheet] at KT
    have HSL : Hid ((sortB (staleL a.l (fun p => mlook p a.m) a.mo)).length ≤ 100000 ∧ ∀ s ∈ sortB (staleL a.l (fun p => mlook p a.m) a.mo), s.length ≤ 10000) := Hd (by
      have hp := sortB_perm (staleL a.l (fun p => mlook p a.m) a.mo)
      refine ⟨?_, fun s hs => ?_⟩
      · rw [hp.length_eq]
        refine Nat.le_trans (List.length_filter_le _ _) ?_
        rw [List.length_map]
        have := h.right.1
        omega
      · have h1 := (List.mem_filter.1 (hp.mem_iff.1 hs)).1
        obtain ⟨r, hr, rfl⟩ := List.mem_map.1 h1
        have := (h.short r hr).1
        omega)
    rw [HC.out]
    subst h2
    clear h h1
    go_enter Tryz.func125, Tryz.ntmps125
    go_wp2_with fail
    refine KT.out.mono ?_
    rintro e w2 ⟨u, rfl, hown, hb2⟩
    have KJ := Hd (sjoined_any _ u w2 (ownsRow_reads hown) (ownsRow_roomy hown) (own_lt hown) HSL.out.1 HSL.out.2)
    have HB2 := Hd hb2
    clear hown hb2 hpl KT
    go_wp2_with fail
    refine KJ.out.mono ?_
    rintro e w3 ⟨rfl, hb3⟩
    have HB3 := Hd (HB2.out.trans (hb3.mono HB2.out.size))
    clear hb3
    go_wp2
    go_ret2
    exact SAns.same H.out HB3.out .nil .stale (fun _ => rfl)
  obtain ⟨a2, b2⟩ := str_ne h2
  by_cases h3 : s = [111, 114, 100, 101, 114]
  · have HC : Hid (cmdOf s = .order) := Hd (by unfold cmdOf; rw [if_neg h1, if_neg h2, if_pos h3])
    have KO := Hd (sorder_any h)
    rw [HC.out]
    subst h3
    clear h h1 h2
    go_enter Tryz.func125, Tryz.ntmps125
    go_wp2_with fail
    refine KO.out.mono ?_
    rintro e w2 ⟨t, err, c', x, b, vl', lv', R', rfl, hrest⟩
    have HRS := Hd hrest
    clear hrest
    go_wp2
    go_ret2
    exact ⟨t, err, c', x, b, vl', lv', R', rfl, HRS.out⟩
  obtain ⟨a3, b3⟩ := str_ne h3
  by_cases h4 : s = [108, 101, 97, 118, 101, 115]
  · have HC : Hid (cmdOf s = .leaves) := Hd (by unfold cmdOf; rw [if_neg h1, if_neg h2, if_neg h3, if_pos h4])
    have KS := Hd h.sheetY
    have KL := Hd (fun wl (hb : Below w.heap.size w wl) (R' : List RV) (v : Value) (B : Nat) (e : R'.map Prod.fst = R.map Prod.fst) (ho : OwnAt B wl v R') => pleaves_any (h.below hb) e v B ho)
    have HLV : Hid ((leavesB a.l).length ≤ 100000 ∧ ∀ s ∈ leavesB a.l, s.length ≤ 10000) := Hd ⟨by
      have h1 := leaves_len (l := a.l) (fun r hr => by have := (h.short r hr).2.2.2.2; omega)
      have h2 := h.right.1
      have := Nat.mul_le_mul_left 1000 h2
      omega, leaf_short h.short⟩
    rw [HC.out]
    subst h4
    clear h h1 h2 h3
    go_enter Tryz.func125, Tryz.ntmps125
    go_wp2_with fail
    refine KS.out.mono ?_
    rintro e w2 ⟨v, R', rfl, he, hown, hb2⟩
    have K2 := Hd (KL.out w2 hb2 R' v _ he hown)
    have HB2 := Hd hb2
    clear he hown hb2 hpl KS
    go_wp2_with fail
    refine K2.out.mono ?_
    rintro e w3 ⟨u, rfl, hown, hb3⟩
    have KJ := Hd (sjoined_any _ u w3 (ownsRow_reads hown) (ownsRow_roomy hown) (own_lt hown) HLV.out.1 HLV.out.2)
    have HB3 := Hd (HB2.out.trans (hb3.mono HB2.out.size))
    clear hown hb3 K2
    go_wp2_with fail
    refine KJ.out.mono ?_
    rintro e w4 ⟨rfl, hb4⟩
    have HB4 := Hd (HB3.out.trans (hb4.mono HB3.out.size))
    clear hb4
    go_wp2
    go_ret2
    exact SAns.same H.out HB4.out .nil .leaves (fun _ => rfl)
  obtain ⟨a4, b4⟩ := str_ne h4
  by_cases h5 : s = [102, 105, 108, 101, 115]
  · have HC : Hid (cmdOf s = .files) := Hd (by unfold cmdOf; rw [if_neg h1, if_neg h2, if_neg h3, if_neg h4, if_pos h5])
    have KT := Hd (ytree_any w h.yard)
    have KP := Hd (paths_tree Y.tb Y.mb a.m w h.yard.tree h.good.nd (by have := h.good.len; omega) (fun x hx => by have := h.good.klen x hx; omega))
    have HLV : Hid ((sortK a.m).length ≤ 100000 ∧ ∀ s ∈ sortK a.m, s.length ≤ 10000) := Hd ⟨by
      rw [sortK_len]
      have := h.good.len
      omega, fun s hs => by
      obtain ⟨x, hx, rfl⟩ := List.mem_map.1 ((sortK_perm a.m).mem_iff.1 hs)
      have := h.good.klen x hx
      omega⟩
    rw [← sortK_len a.m] at KP
    rw [HC.out]
    subst h5
    clear h h1 h2 h3 h4
    go_enter Tryz.func125, Tryz.ntmps125
    go_wp2_with fail
    refine KT.out.mono ?_
    rintro e w2 ⟨rfl, e2⟩
    have e3 := e2.symm
    subst e3
    clear e2
    go_wp2_with fail
    refine KP.out.mono ?_
    rintro e w3 ⟨u, rfl, hown, hb3⟩
    have KJ := Hd (sjoined_any _ u w3 (ownsRow_reads hown) (ownsRow_roomy hown) (own_lt hown) HLV.out.1 HLV.out.2)
    have HB3 := Hd hb3
    clear hown hb3 hpl KP
    go_wp2_with fail
    refine KJ.out.mono ?_
    rintro e w4 ⟨rfl, hb4⟩
    have HB4 := Hd (HB3.out.trans (hb4.mono HB3.out.size))
    clear hb4
    go_wp2
    go_ret2
    exact SAns.same H.out HB4.out .nil .files (fun _ => rfl)
  obtain ⟨a5, b5⟩ := str_ne h5
  by_cases h6 : s = [109, 97, 107, 101]
  · have HC : Hid (cmdOf s = .make []) := Hd (by unfold cmdOf; rw [if_neg h1, if_neg h2, if_neg h3, if_neg h4, if_neg h5, if_pos h6])
    have KM := Hd (smake_any [] (.slice none 0 0) ⟨none, 0, rfl, by simp, fun i u h => by cases h⟩ (by simp) h)
    rw [HC.out]
    subst h6
    clear h h1 h2 h3 h4 h5
    go_enter Tryz.func125, Tryz.ntmps125
    go_wp2_with fail
    refine KM.out.mono ?_
    rintro e w2 ⟨t, err, c', x, b, vl', lv', R', rfl, hrest⟩
    have HRS := Hd hrest
    clear hrest
    go_wp2
    go_ret2
    exact ⟨t, err, c', x, b, vl', lv', R', rfl, HRS.out⟩
  obtain ⟨a6, b6⟩ := str_ne h6
  have hcm : cmdOf s = if (Lib.cut s [32]).2.2 = false then .bad else if (Lib.cut s [32]).1 = [112, 117, 116] then putCmd (Lib.cut s [32]).2.1 else if (Lib.cut s [32]).1 = [114, 117, 108, 101] then .rule ((Lib.cut s [32]).2.1 ++ [10]) else aboutC (Lib.cut s [32]).1 (spl 32 (Lib.cut s [32]).2.1) := by
    unfold cmdOf
    rw [if_neg h1, if_neg h2, if_neg h3, if_neg h4, if_neg h5, if_neg h6]
  have KC := Hd (gcut_any s [32] w (by omega) h.here.ml)
  obtain ⟨n1, n2⟩ := cut_len s [32]
  generalize Lib.cut s [32] = q at *
  obtain ⟨wd, rest, is⟩ := q
  simp only at n1 n2 KC hcm
  clear h1 h2 h3 h4 h5 h6
  cases is with
  | false =>
    rw [if_pos rfl] at hcm
    have HC := Hd hcm
    rw [HC.out]
    clear hcm h
    go_enter Tryz.func125, Tryz.ntmps125
    go_wp2_with fail
    refine KC.out.mono ?_
    rintro e w2 ⟨rfl, hb2⟩
    have HB2 := Hd hb2
    have c0 := (H.out.below hb2).here.text
    clear hb2 hpl
    go_wp2_with fail
    go_quiet (fail)
    go_wp2
    go_ret2
    exact SAns.same H.out (below_drewN HB2.out nq) (ErrIs.some (k := 0) (by omega)) .bad (fun h => by cases h)
  | true =>
    rw [if_neg (by decide)] at hcm
    by_cases hp : wd = [112, 117, 116]
    · rw [if_pos hp] at hcm
      have HC := Hd hcm
      have KP := Hd (fun wl (hb : Below w.heap.size w wl) => sput_any rest (h.below hb) (by omega))
      rw [HC.out]
      subst hp
      clear hcm h
      go_enter Tryz.func125, Tryz.ntmps125
      go_wp2_with fail
      refine KC.out.mono ?_
      rintro e w2 ⟨rfl, hb2⟩
      have K2 := Hd (KP.out w2 hb2)
      have HB2 := Hd hb2
      clear hb2 hpl
      go_wp2_with fail
      refine K2.out.mono ?_
      intro e w3 hans
      obtain ⟨t, err, c', x, b, vl', lv', R', rfl, hrest⟩ := hans.pre HB2.out
      have HRS := Hd hrest
      clear hrest hans
      go_wp2
      go_ret2
      exact ⟨t, err, c', x, b, vl', lv', R', rfl, HRS.out⟩
    obtain ⟨p1, p2⟩ := str_ne hp
    rw [if_neg hp] at hcm
    by_cases hr : wd = [114, 117, 108, 101]
    · rw [if_pos hr] at hcm
      have HC := Hd hcm
      have KP := Hd (fun wl (hb : Below w.heap.size w wl) => srule_any rest (h.below hb) (by omega))
      rw [HC.out]
      subst hr
      clear hcm h hp
      go_enter Tryz.func125, Tryz.ntmps125
      go_wp2_with fail
      refine KC.out.mono ?_
      rintro e w2 ⟨rfl, hb2⟩
      have K2 := Hd (KP.out w2 hb2)
      have HB2 := Hd hb2
      clear hb2 hpl
      go_wp2_with fail
      refine K2.out.mono ?_
      intro e w3 hans
      obtain ⟨t, err, c', x, b, vl', lv', R', rfl, hrest⟩ := hans.pre HB2.out
      have HRS := Hd hrest
      clear hrest hans
      go_wp2
      go_ret2
      exact ⟨t, err, c', x, b, vl', lv', R', rfl, HRS.out⟩
    obtain ⟨r1, r2⟩ := str_ne hr
    rw [if_neg hr] at hcm
    have HC := Hd hcm
    have KSP := Hd (fun wl (hb : Below w.heap.size w wl) => gsplit_any rest 32 wl (h.below hb).here.ml (by omega))
    have KA := Hd (fun wl (hb : Below w.heap.size w wl) => (sabout_any wd (spl 32 rest) wl.heap.size (spl 32 rest).length (w := wl.alloc (.cells ((spl 32 rest).map str).toArray 9)) ⟨_, _, by rw [List.length_map], by rw [List.length_map]; have := spl_length_le 32 rest; omega, fun i u hi => ⟨_, _, rfl, by rw [Nat.zero_add, cell_of_heap (heap_alloc_here wl _)]; simpa using hi⟩⟩ (by have := spl_length_le 32 rest; omega) (fun s hs => by have := spl_mem_len 32 rest s hs; omega) (fun i q hq e => by have := (h.below hb).yard.lt i q hq; omega) ((h.below hb).below ((Below.refl _ wl).alloc (Nat.le_refl _) _))))
    rw [HC.out]
    clear hcm h hp hr
    go_enter Tryz.func125, Tryz.ntmps125
    go_wp2_with fail
    refine KC.out.mono ?_
    rintro e w2 ⟨rfl, hb2⟩
    have K2 := Hd (KSP.out w2 hb2)
    have K3 := Hd (KA.out w2 hb2)
    have HB2 := Hd hb2
    have HB3 : Hid (Below w.heap.size w (w2.alloc (.cells ((spl 32 rest).map str).toArray 9))) := Hd (hb2.alloc hb2.size _)
    clear hb2 hpl
    go_wp2_with fail
    refine K2.out.mono ?_
    rintro e w3 ⟨rfl, rfl⟩
    go_wp2_with fail
    refine K3.out.mono ?_
    intro e w4 hans
    obtain ⟨t, err, c', x, b, vl', lv', R', rfl, hrest⟩ := hans.pre HB3.out
    have HRS := Hd hrest
    clear hrest hans
    go_wp2
    go_ret2
    exact ⟨t, err, c', x, b, vl', lv', R', rfl, HRS.out⟩
theorem orderB_nil : orderB (edgesB []) (fun _ => true) 0 = some [] := by decide +kernel
theorem right_nil : RightS [] := ⟨by decide, fun i r h => by simp at h⟩
theorem pat_new {S : Nat → Addr} {w w2 w3 : World} {Y : YPl} (hE : SEnv S w) (hY : YAt w.heap.size Y (.slice none 0 0) (.slice none 0 0) [] [] [] ⟨8, [], []⟩ w2) (hb : Below w.heap.size w w2) (h3 : w2.alloc (.cells #[ptrV Y.yb] 192) = w3) :
    PAt S w w2.heap.size Y (.slice none 0 0) (.slice none 0 0) [] SS.new w3 := by
  have hA : Below w2.heap.size w2 w3 := h3 ▸ (Below.refl _ w2).alloc (Nat.le_refl _) _
  exact ⟨hY.below hA, rfl, Good.nil, Good.nil, (fun c0 e => by cases e; exact ⟨CSt.zero (by decide) (by decide), CInv.zero _⟩), right_nil, ⟨[], orderB_nil⟩, (fun r hr => by cases hr), hE, hb.trans (hA.mono hb.size), by rw [← h3, cell_of_heap (heap_alloc_here w2 _)]; rfl, fun i q hq e => by have := hY.lt i q hq; omega⟩
theorem sapp_step {S : Nat → Addr} {w1 w4 w6 : World} {pb : Nat} {Y : YPl} {vl lv : Value} {R : List RV} {a : SS} {u v6 : Value} {e : TypeId} {z n : Nat} {xs : List Value} {ob : Obj} (h : PAt S w1 pb Y vl lv R a w4) (ho : w4.ownsRow w1.heap.size e z u n xs) (hof : ∀ i q, ysec Y lv vl R i q → u.ownBlock ≠ some q) (hpb : u.ownBlock ≠ some pb)
    (hg : (w4.alloc ob).grownBy w6 u.ownBlock) (hloc : v6.ownBlock = u.ownBlock ∨ v6.ownBlock = some (w4.alloc ob).heap.size) :
    PAt S w1 pb Y vl lv R a w6 ∧ (∀ i q, ysec Y lv vl R i q → v6.ownBlock ≠ some q) ∧ v6.ownBlock ≠ some pb := by
  have hA : Below w4.heap.size w4 (w4.alloc ob) := (Below.refl _ w4).alloc (Nat.le_refl _) _
  have h' := h.below hA
  have hgf := Fr.of_grown hg
  have hz : (w4.alloc ob).heap.size = w4.heap.size + 1 := by simp
  have hpl := lt_of_cell h.pl
  refine ⟨⟨h'.yard.fr hgf (fun i q hq e => hof i q hq e), h.sheet, h.good, h.gout, h.cok, h.right, h.ord, h.short, h.env, h'.low.trans ((hgf.mono h'.low.size (fun _ _ h => h)).below (fun k hk e => by have := (ho.lt k e).1; omega)), (hgf.cell (lt_of_cell h'.pl) (fun e => hpb e)).trans h'.pl, h.far⟩, fun i q hq e => ?_, fun e => ?_⟩
  · rcases hloc with h1 | h1
    · rw [h1] at e; exact hof i q hq e
    · rw [h1] at e
      have h2 := Option.some.inj e
      have := h.yard.lt i q hq
      omega
  · rcases hloc with h1 | h1
    · rw [h1] at e; exact hpb e
    · rw [h1] at e
      have h2 := Option.some.inj e
      have : pb < w4.heap.size := hpl
      omega
theorem errorA_any (w : World) (a : Addr) (s : List UInt8) (h : w.cell? a = some (str s)) :
    Calls Tryz.prog 380 #[.pointer (some a)] w fun e w' => e = .returned (str s) ∧ w' = w := by
  obtain ⟨b, o, p⟩ := a
  go_enter Tryz.func380, Tryz.ntmps380
  go_wp2
  go_ret
  exact ⟨rfl, rfl⟩
set_option maxHeartbeats 1000000 in
theorem srun_any {S : Nat → Addr} (l : List (List UInt8)) (v : Value) (w : World) (hl : Reads w v (l.map str)) (hx : ∀ s ∈ l, s.length ≤ 990) (hE : SEnv S w) :
    Calls Tryz.prog 60 #[v] w fun e w' => (100 < l.length ∧ e = .returned (.tuple #[.slice none 0 0, errI (S 1)]) ∧ Below w.heap.size w w') ∨
      (l.length ≤ 100 ∧ ∃ u r b, e = .returned (.tuple #[u, .nilIface]) ∧ Script SS.new l r b ∧ w'.ownsRow w.heap.size 9 1 u r.length (r.map str) ∧ Below w.heap.size w w') := by
  have hbd := hE.err.k.bound
  obtain ⟨av, cv, hv, hle, -⟩ := id hl
  rw [List.length_map] at hv hle
  subst hv
  have HL := Hd (fun wl (hb : Below w.heap.size w wl) => hl.below0 hb)
  have HX := Hd hx
  have HE := Hd hE
  have KN := Hd (ynew_any 8 w (by omega) (by omega))
  clear hl hx hE
  by_cases h100 : 100 < l.length
  · have hc1 : ((l.length : Int) > 100) = True := eq_true (by omega)
    have hc2 : (100 < (l.length : Int)) = True := eq_true (by omega)
    go_enter Tryz.func60, Tryz.ntmps60
    go_wp2_with fail
    go_quiet (fail)
    go_wp2
    go_ret2
    exact Or.inl ⟨h100, rfl, below_drewN (Below.refl _ _) nq⟩
  have hc1 : ((l.length : Int) > 100) = False := eq_false (by omega)
  have hc2 : (100 < (l.length : Int)) = False := eq_false (by omega)
  go_enter Tryz.func60, Tryz.ntmps60
  go_wp2_with fail
  refine KN.out.mono ?_
  rintro e w2 ⟨Y, rfl, hY, hb2⟩
  obtain ⟨W3, hW3⟩ : ∃ W, w2.alloc (.cells #[ptrV Y.yb] 192) = W := ⟨_, rfl⟩
  have HP3 := Hd (pat_new HE.out hY hb2 hW3)
  have HW3 := Hd hW3
  clear hY hb2 hW3 hbd KN
  obtain ⟨pb, hpb⟩ : ∃ p, w2.heap.size = p := ⟨_, rfl⟩
  rw [hpb] at HP3
  go_wp2_with fail
  rw [HW3.out]
  go_loopw [7, 28] (fun ov iv wl => ∃ (i : Nat) (r : List (List UInt8)) (b : SS) (vl lv : Value) (R : List RV), i ≤ l.length ∧ r.length = i ∧ iv = .int .i64 i ∧ wl.ownsRow w.heap.size 9 1 ov r.length (r.map str) ∧ (∀ j q, ysec Y lv vl R j q → ov.ownBlock ≠ some q) ∧ ov.ownBlock ≠ some pb ∧ Script SS.new (l.take i) r b ∧ PAt S w pb Y vl lv R b wl) (fun _ iv _ => l.length - (intOf iv).toNat)
  case atStart => exact ⟨0, [], SS.new, _, _, [], by omega, rfl, rfl, World.ownsRow_nil _ _ _ _, fun _ _ _ e => (by cases e), (fun e => by cases e), .nil, HP3.out⟩
  case round =>
    obtain ⟨i, r, b, vl, lv, R, hi, hrl, rfl, hown, hfar, hpbn, hscr, hpat⟩ := hrel
    have HSC := Hd hscr
    have HRL := Hd hrl
    have HOW := Hd hown
    have HFR := Hd hfar
    have HPB := Hd hpbn
    have HPT := Hd hpat
    have hlow := hpat.low
    clear hown hfar hpbn hpat hscr
    by_cases hlt : i < l.length
    · have hlc : ((i : Int) < (l.length : Int)) = True := eq_true (by omega)
      obtain ⟨bx, ox, hix, hce⟩ := (HL.out wr hlow).at (P := Tryz.prog) Tryz.underlying33 (by kernel_rfl) i (by simpa using hlt)
      simp only [List.getElem_map] at hce
      have HTK : Hid (l.take (i + 1) = l.take i ++ [l[i]]) := Hd (List.take_succ_eq_append_getElem hlt)
      have hsl := HX.out _ (List.getElem_mem hlt)
      generalize l[i] = s at *
      have KP := Hd (splay_any s HPT.out hsl)
      clear hlow hsl
      go_wp2_with fail
      refine KP.out.mono ?_
      rintro e w4 ⟨t, err, c, x, b', vl', lv', R', rfl, herr, hdo, htx, hp4, ht4⟩
      have HO4 : Hid (w4.ownsRow w.heap.size 9 1 _ r.length (r.map str)) := Hd (ownsRow_fr HOW.out ht4.1 (fun k hk => ⟨(HOW.out.lt k hk).2, fun e => by obtain ⟨j, e⟩ := e; exact HFR.out j k e hk⟩))
      have HF4 : Hid (∀ j q, ysec Y lv' vl' R' j q → Value.ownBlock _ ≠ some q) := Hd (fun j q hq e => by
        rcases ht4.2 j q hq with h | h
        · exact HFR.out j q h e
        · have := (HOW.out.lt q e).2; omega)
      have HP4 := Hd hp4
      have HZ4 : Hid (w.heap.size ≤ w4.heap.size) := Hd hp4.low.size
      clear hix hce KP ht4
      rcases Nat.eq_zero_or_pos c with h0 | h0
      · subst h0
        have HLD : Hid (LineDoes b s t b') := Hd ⟨0, x, hdo, by rw [if_pos rfl, htx rfl]⟩
        obtain rfl : err = .nilIface := by
          rcases herr with ⟨-, h⟩ | ⟨h, -⟩
          · exact h
          · omega
        clear hdo htx hp4 herr
        go_wp2_with (first
          | (at_builtin
             refine wpList_app _ rfl _ _ 33 rfl tyStrsK w.heap.size _ _ _ rfl (HO4.out.alloc _) ⟨w4.heap.size, 0, none⟩ 1 1 [str t] rfl rfl (news_one ?_) ?_ (by decide) ?_ ?_ ?_
             · rw [cell_of_heap (heap_alloc_here w4 _)]; rfl
             · intro u hu; simp at hu; subst hu; rfl
             · omega
             · have := HZ4.out; simp; omega
             intro v6 w6 ho6 hg6 hloc6))
        have HQ := Hd (sapp_step HP4.out HO4.out HF4.out HPB.out hg6 hloc6)
        have HO6 := Hd ho6
        clear ho6 hg6 hloc6
        go_wp2
        go_roundw
        case rel => exact ⟨i + 1, r ++ [t], b', vl', lv', R', by omega, by rw [List.length_append, HRL.out]; rfl, by go_num, by rw [List.length_append, List.map_append]; exact HO6.out, HQ.out.2.1, HQ.out.2.2, by rw [HTK.out]; exact .snoc HSC.out HLD.out, HQ.out.1⟩
        case measure => simp [intOf]; omega
      · have HLD : Hid (LineDoes b s (errTx c) b') := Hd ⟨c, x, hdo, by rw [if_neg (by omega)]⟩
        have h12 : c ≤ 12 := by
          rcases herr with ⟨h, -⟩ | ⟨-, h, -⟩ <;> omega
        have KB := Hd (sbare_any (S := S) w4 c err hp4.here.all herr h0)
        have HTT := Hd (hp4.here.txt)
        obtain ⟨T, x', rfl⟩ : ∃ T x', err = .iface T x' := by
          rcases herr with ⟨h, -⟩ | ⟨-, -, h | ⟨g, i, h, -⟩⟩
          · omega
          · exact ⟨_, _, h⟩
          · exact ⟨_, _, h⟩
        clear hdo htx hp4 herr
        go_wp2_with fail
        refine KB.out.mono ?_
        rintro e w5 ⟨rfl, hb5⟩
        have hct := (HTT.out.below hb5) (c - 1) (by omega)
        rw [show c - 1 + 1 = c by omega] at hct
        have HO4 := Hd (row_below HO4.out hb5)
        have HP4 := Hd (HP4.out.below hb5)
        have HZ4 := Hd (Nat.le_trans HZ4.out hb5.size)
        clear hb5
        have KE := Hd (errorA_any w5 _ _ hct)
        clear hct
        go_wp2_with fail
        refine KE.out.mono ?_
        rintro e w6 ⟨rfl, e6⟩
        have e7 := e6.symm
        subst e7
        clear e6
        go_wp2_with (first
          | (at_builtin
             refine wpList_app _ rfl _ _ 33 rfl tyStrsK w.heap.size _ _ _ rfl (HO4.out.alloc _) ⟨w5.heap.size, 0, none⟩ 1 1 [str (errTx c)] rfl rfl (news_one ?_) ?_ (by decide) ?_ ?_ ?_
             · rw [cell_of_heap (heap_alloc_here w5 _)]; rfl
             · intro u hu; simp at hu; subst hu; rfl
             · omega
             · have := HZ4.out; simp; omega
             intro v6 w6 ho6 hg6 hloc6))
        have HQ := Hd (sapp_step HP4.out HO4.out HF4.out HPB.out hg6 hloc6)
        have HO6 := Hd ho6
        clear ho6 hg6 hloc6
        go_wp2
        go_roundw
        case rel => exact ⟨i + 1, r ++ [errTx c], b', vl', lv', R', by omega, by rw [List.length_append, HRL.out]; rfl, by go_num, by rw [List.length_append, List.map_append]; exact HO6.out, HQ.out.2.1, HQ.out.2.2, by rw [HTK.out]; exact .snoc HSC.out HLD.out, HQ.out.1⟩
        case measure => simp [intOf]; omega
    · obtain rfl : i = l.length := by omega
      have hlc : ((l.length : Int) < (l.length : Int)) = False := eq_false (by omega)
      have hscr := HSC.out
      rw [List.take_length] at hscr
      have HSC2 := Hd hscr
      clear hscr
      go_wp2
      go_ret2
      exact Or.inr ⟨by omega, _, r, b, rfl, HSC2.out, HOW.out, hlow⟩
end Go.Proofs.YtgjialbmlhbngaaGreatDoor
