/-
  Scripts: a player as he stands in memory; what a command answers; joined, shown, put, show, make. Scripts: make, show.
-/
import Derived.Test.YtgjialbmlhbngaaGreatDoorScB
import Derived.Test.YtgjialbmlhbngaaGreatDoorScA

set_option maxRecDepth 100000
namespace Go.Proofs.YtgjialbmlhbngaaGreatDoor
open Go Go.RowKit Go.Kf Go.Sort Go.Proofs
structure SEnv (S : Nat → Addr) (w : World) : Prop where
  ml : Ml w
  err : BErr w S
  num : NErr w
  tab : Tab w
  all : ErrW w S
  txt : ErrTxt w S
theorem SEnv.below {S : Nat → Addr} {w w' : World} (h : SEnv S w) (hb : Below w.heap.size w w') : SEnv S w' :=
  ⟨h.ml.below hb (Nat.le_refl _), h.err.below hb, h.num.below hb (Nat.le_refl _), tab_below h.tab hb (Nat.le_refl _), h.all.below hb (Nat.le_refl _), h.txt.below hb⟩
theorem SEnv.text {S : Nat → Addr} {w : World} (h : SEnv S w) : w.cell? ⟨9, 0, none⟩ = some (errV (S 0)) := by simpa only [sentG] using h.all.var 0 (by decide)
theorem SEnv.none {S : Nat → Addr} {w : World} (h : SEnv S w) : w.cell? ⟨0, 0, none⟩ = some (errV (S 5)) := by simpa only [sentG] using h.all.var 5 (by decide)
structure PAt (S : Nat → Addr) (w1 : World) (pb : Nat) (Y : YPl) (vl lv : Value) (R : List RV) (a : SS) (w : World) : Prop where
  yard : YAt w1.heap.size Y vl lv R a.m a.mo a.c w
  sheet : R.map Prod.fst = a.l
  good : Good a.m
  gout : Good a.mo
  cok : COk (some a.c)
  right : RightS a.l
  ord : ∃ o, orderB (edgesB a.l) (fun _ => true) a.l.length = some o
  short : ∀ r ∈ a.l, RuleIn 999 r
  env : SEnv S w1
  low : Below w1.heap.size w1 w
  pl : w.cell? ⟨pb, 0, none⟩ = some (ptrV Y.yb)
  far : ∀ i q, ysec Y lv vl R i q → q ≠ pb
def STurn (Y : YPl) (vl lv : Value) (R : List RV) (vl' lv' : Value) (R' : List RV) (w w' : World) : Prop := Fr w.heap.size (fun q => ∃ i, ysec Y lv vl R i q) w w' ∧ ∀ i q, ysec Y lv' vl' R' i q → ysec Y lv vl R i q ∨ w.heap.size ≤ q
section
variable {S : Nat → Addr} {w1 w w' w2 : World} {pb : Nat} {Y : YPl} {vl lv vl' lv' vl2 lv2 : Value} {R R' R2 : List RV} {a b : SS}
theorem STurn.of_below (h : Below w.heap.size w w') : STurn Y vl lv R vl lv R w w' := ⟨Fr.of_below h, fun _ _ hq => Or.inl hq⟩
theorem STurn.trans (h : STurn Y vl lv R vl' lv' R' w w') (k : STurn Y vl' lv' R' vl2 lv2 R2 w' w2) : STurn Y vl lv R vl2 lv2 R2 w w2 := by
  refine ⟨h.1.trans (k.1.mono h.1.size (fun q hq e => ?_)), fun i q hq => ?_⟩
  · obtain ⟨i, e⟩ := e
    rcases h.2 i q e with e | e
    · exact ⟨i, e⟩
    · omega
  · rcases k.2 i q hq with e | e
    · exact h.2 i q e
    · exact Or.inr (Nat.le_trans h.1.size e)
theorem PAt.below (h : PAt S w1 pb Y vl lv R a w) (hb : Below w.heap.size w w') : PAt S w1 pb Y vl lv R a w' :=
  ⟨h.yard.below hb, h.sheet, h.good, h.gout, h.cok, h.right, h.ord, h.short, h.env, h.low.trans (hb.mono h.low.size), (hb.cell (lt_of_cell h.pl)).trans h.pl, h.far⟩
theorem PAt.here (h : PAt S w1 pb Y vl lv R a w) : SEnv S w := h.env.below h.low
theorem PAt.benv (h : PAt S w1 pb Y vl lv R a w) : BEnv S (R.map Prod.fst) a.m w1 :=
  ⟨h.env.ml, h.env.err, h.env.num, h.env.tab, fun r hr => by
    rw [h.sheet] at hr
    obtain ⟨h1, h2, h3, h4, h5⟩ := h.short r hr
    exact ⟨by omega, by omega, by omega, fun s hs => by have := h4 s hs; omega, by omega⟩, h.good.byt⟩
theorem PAt.bnd (h : PAt S w1 pb Y vl lv R a w) : ∀ x ∈ R, x.1.out.length ≤ 1000000 ∧ x.1.word.length ≤ 100000 ∧ (∀ s ∈ x.1.ins, s.length ≤ 1000000) ∧ x.1.ins.length ≤ 1000 := fun x hx => by
  obtain ⟨h1, h2, h3, h4, h5⟩ := h.short x.1 (by rw [← h.sheet]; exact List.mem_map.2 ⟨x, hx, rfl⟩)
  exact ⟨by omega, by omega, fun s hs => by have := h4 s hs; omega, by omega⟩
theorem PAt.lenR (h : PAt S w1 pb Y vl lv R a w) : R.length ≤ 40 := by
  have := h.right.1
  rw [← h.sheet, List.length_map] at this
  exact this
theorem PAt.turned (h : PAt S w1 pb Y vl lv R a w) (ht : STurn Y vl lv R vl' lv' R' w w') : Below w1.heap.size w1 w' ∧ w'.cell? ⟨pb, 0, none⟩ = some (ptrV Y.yb) ∧ ∀ i q, ysec Y lv' vl' R' i q → q ≠ pb := by
  have hlt := lt_of_cell h.pl
  refine ⟨h.low.trans ((ht.1.mono h.low.size (fun _ _ h => h)).below (fun k hk e => by obtain ⟨i, e⟩ := e; have := h.yard.low i k e; omega)), (ht.1.cell hlt (fun e => by obtain ⟨i, e⟩ := e; exact h.far i pb e rfl)).trans h.pl, fun i q hq e => ?_⟩
  rcases ht.2 i q hq with e' | e'
  · exact h.far i q e' e
  · have : pb < w.heap.size := hlt
    omega
theorem PAt.tstep (h : PAt S w1 pb Y vl lv R a w) {m' : List Ent} (hT : TAt w' Y.tb Y.mb m') (hf : Fr w.heap.size (fun k => k = Y.mb) w w') (hg : Good m') : PAt S w1 pb Y vl lv R { a with m := m' } w' ∧ STurn Y vl lv R vl lv R w w' := by
  have ht : STurn Y vl lv R vl lv R w w' := ⟨hf.mono (Nat.le_refl _) (fun q hq e => ⟨1, Or.inr e⟩), fun _ _ hq => Or.inl hq⟩
  obtain ⟨h1, h2, h3⟩ := h.turned ht
  exact ⟨⟨h.yard.tstep hT hf, h.sheet, hg, h.gout, h.cok, h.right, h.ord, h.short, h.env, h1, h2, h3⟩, ht⟩
end
def SAns (S : Nat → Addr) (w1 : World) (pb : Nat) (Y : YPl) (vl lv : Value) (R : List RV) (a : SS) (k : Cmd) (w : World) (e : Ending) (w' : World) : Prop :=
  ∃ t err c x b vl' lv' R', e = .returned (.tuple #[str t, err]) ∧ ErrIs S c err w' ∧ Does a k c x b ∧ (c = 0 → t = x) ∧ PAt S w1 pb Y vl' lv' R' b w' ∧ STurn Y vl lv R vl' lv' R' w w'
section
variable {S : Nat → Addr} {w1 w w' : World} {pb : Nat} {Y : YPl} {vl lv vl' lv' : Value} {R R' : List RV} {a b : SS} {k : Cmd}
theorem SAns.same {t x : List UInt8} {err : Value} {c : Nat} (h : PAt S w1 pb Y vl lv R a w) (hb : Below w.heap.size w w') (he : ErrIs S c err w') (hd : Does a k c x a) (ht : c = 0 → t = x) : SAns S w1 pb Y vl lv R a k w (.returned (.tuple #[str t, err])) w' :=
  ⟨t, err, c, x, a, vl, lv, R, rfl, he, hd, ht, h.below hb, STurn.of_below hb⟩
end
theorem sjoined_any (l : List (List UInt8)) (v : Value) (w : World) (hr : Reads w v (l.map str)) (hcap : Roomy v) (hlt : ∀ k, v.ownBlock = some k → k < w.heap.size) (hn : l.length ≤ 100000) (hk : ∀ s ∈ l, s.length ≤ 10000) :
    Calls Tryz.prog 176 #[v] w fun e w' => e = .returned (str (joinedB l)) ∧ Below w.heap.size w w' := by
  obtain ⟨ad, cap, rfl, hle, hc⟩ := hr
  rw [List.length_map] at hle
  cases l with
  | nil =>
    clear hc hlt hcap hk
    go_enter Tryz.func176, Tryz.ntmps176
    go_wp2
    go_ret
    exact ⟨rfl, Below.refl _ _⟩
  | cons x r =>
    obtain ⟨b, o, rfl, -⟩ := hc 0 (str x) rfl
    have hb := hlt b rfl
    have hce : ∀ (j : Nat) s, (x :: r)[j]? = some s → w.cell? ⟨b, o + j, none⟩ = some (str s) := fun j s hj => by
      obtain ⟨b', o', e, h⟩ := hc j (str s) (by rw [List.getElem?_map, hj]; rfl)
      cases e
      exact h
    have hcp : (x :: r).length ≤ cap := by
      have := hcap _ _ _ rfl
      rwa [List.length_map] at this
    have hl := joinTop [32] hk
    have hm : ((x :: r).map fun s => (⟨s.toArray⟩ : ByteArray)).map (·.data.toList) = x :: r := by
      rw [List.map_map]
      conv => rhs; rw [← List.map_id (x :: r)]
      exact List.map_congr_left (fun s _ => rfl)
    have K := Tryz.strings_Join b o cap ((x :: r).map fun s => (⟨s.toArray⟩ : ByteArray)) ⟨([32] : List UInt8).toArray⟩ w (fun j x' hx => by
      rw [List.getElem?_map] at hx
      obtain ⟨s, hs, rfl⟩ := Option.map_eq_some_iff.1 hx
      exact hce j s hs) hb (by rw [List.length_map]; omega) (by rw [List.length_map]; exact hcp) (by rw [hm]; refine Nat.le_trans hl ?_; exact Nat.le_trans (Nat.mul_le_mul_left _ hn) (by decide))
    rw [List.length_map, hm] at K
    have K2 : Calls Tryz.prog 120 #[.slice (some ⟨b, o, none⟩) (x :: r).length cap, str [32]] w fun e w' => e = .returned (str (joinedB (x :: r))) ∧ Below w.heap.size w w' := by
      unfold joinedB
      rw [if_neg (by simp)]
      exact K
    have K3 := Hd K2
    have hln : ((((x :: r).map str).length : Nat) : Int) = (r.length : Int) + 1 := by simp
    have hz : ((r.length : Int) + 1 == 0) = false := by simp; omega
    have hz2 : ((r.length : Int) + 1 = 0) = False := eq_false (by omega)
    rw [List.length_map] at hln ⊢
    generalize joinedB (x :: r) = tx at *
    clear hc hlt hcap hk hce hl hm K K2
    go_enter Tryz.func176, Tryz.ntmps176
    go_wp2_with fail
    refine K3.out.mono ?_
    rintro e w2 ⟨rfl, hb2⟩
    go_wp2
    go_ret
    exact ⟨rfl, hb2⟩
theorem srepl_any (s : List UInt8) (c d : UInt8) (w : World) (hm : Ml w) (hs : s.length ≤ 1000000) :
    Calls Tryz.prog 246 #[str s, str [c], str [d]] w fun e w' => e = .returned (str (Lib.replaceAll s [c] [d])) ∧ Below w.heap.size w w' := by
  obtain ⟨m, hm⟩ := hm
  have hc := countB_spl c s
  have hl := spl_length_le c s
  exact Tryz.strings_ReplaceAll ⟨s.toArray⟩ ⟨#[c]⟩ ⟨#[d]⟩ m w (by simp [ByteArray.size]; omega) hm (Nat.le_refl 1) (by simp [ByteArray.size] at *; omega)
theorem shown_any (s : List UInt8) (w : World) (hm : Ml w) (hs : s.length ≤ 1000000) :
    Calls Tryz.prog 249 #[str s] w fun e w' => e = .returned (str (shownB s)) ∧ Below w.heap.size w w' := by
  have K := Hd (srepl_any s 10 59 w hm hs)
  clear hm
  go_enter Tryz.func249, Tryz.ntmps249
  go_wp2_with fail
  refine K.out.mono ?_
  rintro e w2 ⟨rfl, hb⟩
  have HB := Hd hb
  clear hb
  go_wp2
  go_ret
  exact ⟨rfl, HB.out⟩
set_option maxHeartbeats 1000000 in
theorem sput_any {S : Nat → Addr} {w1 w : World} {pb : Nat} {Y : YPl} {vl lv : Value} {R : List RV} {a : SS} (r : List UInt8) (h : PAt S w1 pb Y vl lv R a w) (hr : r.length ≤ 1000) :
    Calls Tryz.prog 182 #[ptrV pb, str r] w (SAns S w1 pb Y vl lv R a (putCmd r) w) := by
  have H := Hd h
  have KC := Hd (gcut_any r [32] w (by omega) h.here.ml)
  obtain ⟨n1, n2⟩ := cut_len r [32]
  unfold putCmd
  generalize Lib.cut r [32] = q at *
  obtain ⟨p, t, b⟩ := q
  simp only at n1 n2 KC ⊢
  clear h
  cases b with
  | false =>
    rw [if_neg (by simp)]
    go_enter Tryz.func182, Tryz.ntmps182
    go_wp2_with fail
    refine KC.out.mono ?_
    rintro e w2 ⟨rfl, hb⟩
    have HB := Hd hb
    have c0 := (H.out.below hb).here.text
    clear hb
    go_wp2_with fail
    go_quiet (fail)
    go_wp2
    go_ret2
    exact SAns.same H.out (below_drewN HB.out nq) (ErrIs.some (k := 0) (by omega)) .bad (fun h => by cases h)
  | true =>
    have KP := Hd (fun wl (hb : Below w.heap.size w wl) => pcheck_any p wl S (H.out.below hb).here.ml (H.out.below hb).here.err.k (by omega))
    by_cases hp : isPathB p = true
    · rw [if_pos ⟨rfl, hp⟩]
      rw [hp] at KP
      simp only [if_true] at KP
      have HP := Hd hp
      have KY := Hd (fun wl (hb : Below w.heap.size w wl) => ytree_any wl (H.out.below hb).yard)
      have KR := Hd (fun wl (hb : Below w.heap.size w wl) => srepl_any t 59 10 wl (H.out.below hb).here.ml (by omega))
      have KT := Hd (fun wl (hb : Below w.heap.size w wl) => put_tree Y.tb Y.mb a.m p (semiB t) wl S (H.out.below hb).yard.tree (H.out.below hb).here.ml (H.out.below hb).here.err.t (by omega) (by have := H.out.good.len; omega) (fun y hy => by have := H.out.good.klen y hy; omega))
      clear hp
      go_enter Tryz.func182, Tryz.ntmps182
      go_wp2_with fail
      refine KC.out.mono ?_
      rintro e w2 ⟨rfl, hb2⟩
      have HB2 := Hd hb2
      clear hb2
      go_wp2_with fail
      refine (KP.out w2 HB2.out).mono ?_
      rintro e w3 ⟨rfl, hb3⟩
      have HB3 := Hd (HB2.out.trans (hb3.mono HB2.out.size))
      have hpl := (H.out.below HB3.out).pl
      have e0 : errN S 0 = .nilIface := rfl
      clear hb3
      rw [e0]
      go_wp2_with fail
      refine (KY.out w3 HB3.out).mono ?_
      rintro e w4 ⟨rfl, rfl⟩
      go_wp2_with fail
      refine (KR.out _ HB3.out).mono ?_
      rintro e w5 ⟨rfl, hb5⟩
      have HB5 := Hd (HB3.out.trans (hb5.mono HB3.out.size))
      clear hb5 hpl
      go_wp2_with fail
      refine (KT.out w5 HB5.out).mono ?_
      rintro e w6 ⟨rfl, hT, hf⟩
      have HN := Hd ((H.out.below HB5.out).tstep hT hf (H.out.good.put p (semiB t)))
      clear hT hf
      go_wp2
      go_ret2
      exact ⟨okT, _, putC p (semiB t) a.m, okT, _, vl, lv, R, rfl, ErrIs.code (by unfold putC; split <;> (try split) <;> (try split) <;> (try split) <;> omega), .put, fun _ => rfl, HN.out.1, (STurn.of_below HB5.out).trans HN.out.2⟩
    · rw [if_neg (fun h => hp h.2)]
      rw [if_neg hp] at KP
      clear hp
      have e4 : errN S 4 = errV (S 3) := rfl
      rw [e4] at KP
      go_enter Tryz.func182, Tryz.ntmps182
      go_wp2_with fail
      refine KC.out.mono ?_
      rintro e w2 ⟨rfl, hb2⟩
      have HB2 := Hd hb2
      clear hb2
      go_wp2_with fail
      refine (KP.out w2 HB2.out).mono ?_
      rintro e w3 ⟨rfl, hb3⟩
      have HB3 := Hd (HB2.out.trans (hb3.mono HB2.out.size))
      have c0 := (H.out.below HB3.out).here.text
      clear hb3
      go_wp2_with fail
      go_quiet (fail)
      go_wp2
      go_ret2
      exact SAns.same H.out (below_drewN HB3.out nq) (ErrIs.some (k := 0) (by omega)) .bad (fun h => by cases h)
theorem good_mok {mo : List Ent} (h : Good mo) : MoOk mo := ⟨h.len, fun y hy => by have := h.klen y hy; omega⟩
theorem pmakeS_any {S : Nat → Addr} {w1 w : World} {pb : Nat} {Y : YPl} {vl lv : Value} {R : List RV} {a : SS} (outs : List (List UInt8)) (vo : Value) (hO : Reads w vo (outs.map str)) (hn : outs.length ≤ 1000) (h : PAt S w1 pb Y vl lv R a w) :
    Calls Tryz.prog 20 #[ptrV Y.yb, vo] w fun e w' => (∃ T x, e = .returned (.tuple #[countV 0 0 0 0, .iface T x]) ∧ ErrIs S 6 (.iface T x) w' ∧ (¬ ∀ s ∈ outs, s ∈ a.l.map RuleL.out) ∧ Below w.heap.size w w') ∨
      ∃ n mo' c' lv', e = .returned (.tuple #[countV (n 0 : Nat) (n 1 : Nat) (n 2 : Nat) (n 3 : Nat), .nilIface]) ∧ (∀ s ∈ outs, s ∈ a.l.map RuleL.out) ∧ MakeRel a.l outs (fun p => mlook p a.m) a.mo a.c n mo' c' ∧ (∀ i, n i ≤ 40) ∧ PAt S w1 pb Y vl lv' R ⟨a.l, a.m, mo', c'⟩ w' ∧ STurn Y vl lv R vl lv' R w w' := by
  refine (ymake_any (S := S) w1 w rfl h.yard h.cok h.benv h.low (by rw [h.sheet]; exact h.right) (by rw [h.sheet]; exact h.ord) (good_mok h.gout) outs vo hO hn).mono ?_
  intro e w' ha
  unfold YMakeAns at ha
  rw [h.sheet] at ha
  obtain ⟨oa, hoa⟩ := h.ord
  have hOA := ord_all h.right hoa
  rcases ha with ⟨T, x, rfl, hnew, -, hb⟩ | ⟨P, o, ks, js, ord, c', st', lv', hpl, hN, hOr, hall, hord, rfl, hY, hF, hft⟩
  · refine Or.inl ⟨T, x, rfl, ?_⟩
    rcases hnew with ⟨T', x', he, hbad⟩ | ⟨ks, N, o, D, -, -, -, -, he, -⟩
    case' inr => exact absurd he (by simp)
    simp only [Ending.returned.injEq, Value.tuple.injEq, Array.mk.injEq, List.cons.injEq, Value.iface.injEq, true_and, and_true] at he
    obtain ⟨rfl, rfl⟩ := he
    rcases hbad with hbad | ⟨hr, i, g, hi, hal, hno, hv, hg⟩ | ⟨hr, ks, N, hpl, hN, hnone, hv⟩
    · exact absurd h.right hbad.wrong
    · refine ⟨Or.inr ⟨by omega, by omega, Or.inr ⟨g, i, hv, hg⟩⟩, fun hall => ?_, hb⟩
      by_cases h0 : outs = []
      · have : (outsOf a.l outs)[i] ∈ a.l.map RuleL.out := by
          have h1 := List.getElem_mem hi
          unfold outsOf at h1 ⊢
          simp only [h0, if_true] at h1 ⊢
          exact h1
        exact hno this
      · have h1 : (outsOf a.l outs)[i] ∈ outs := by
          have h1 := List.getElem_mem hi
          unfold outsOf at h1 ⊢
          simp only [h0, if_false] at h1 ⊢
          exact h1
        exact hno (hall _ h1)
    · exfalso
      obtain ⟨r, hrk⟩ := hOA.ok.rank
      have hlt : ∀ q ∈ N, q < a.l.length := fun q hq => ((hN q).1 hq).lt (fun a b hb => edges_lt _ a b hb) (fun q hq => (hpl.1 q hq))
      have hm : ∀ q, q ∈ needL a.l.length N ↔ q ∈ N := fun q => mem_needL hlt
      obtain ⟨o2, ho2⟩ := orderB_of_rank (E := edgesB a.l) (isB := fun q => (needL a.l.length N).contains q) (n := a.l.length) r (fun q hq hB j hj => ⟨edges_lt _ q j hj, List.contains_iff_mem.2 ((hm j).2 ((hN j).2 (.step ((hN q).1 ((hm q).1 (List.contains_iff_mem.1 hB))) hj))), hrk q (List.mem_range.2 hq) j hj⟩)
      rw [ho2] at hnone
      cases hnone
  · obtain ⟨hst, -⟩ := hall.steps
    have hk := hst.inv hOr (BInv.zero _ _ _) h.cok
    have hcnt : ∀ f, cntP P st' f ≤ 40 := fun f => Nat.le_trans (List.length_filter_le _ _) hOr.ok.many
    have ht : STurn Y vl lv R vl lv' R w w' := YTurn.foot hF hft
    obtain ⟨h1, h2, h3⟩ := h.turned ht
    refine Or.inr ⟨fun i => if i = 0 then cntP P st' isRan else if i = 1 then cntP P st' isHit else if i = 2 then cntP P st' isFailed else cntP P st' isLeft, _, c', lv', rfl, fun s hs => ?_, ⟨P, o, ks, js, ord, st', hpl, hN, hOr, hall, hord, rfl, rfl, rfl, rfl, rfl⟩, fun i => ?_, ⟨hY, h.sheet, h.good, Good.layAll _ _ h.gout, hk.2.1, h.right, h.ord, h.short, h.env, h1, h2, h3⟩, ht⟩
    · have h0 : outs ≠ [] := fun e => by rw [e] at hs; cases hs
      have h4 := places_made hpl s (by unfold outsOf; rw [if_neg h0]; exact hs)
      exact h4
    · show (if i = 0 then cntP P st' isRan else if i = 1 then cntP P st' isHit else if i = 2 then cntP P st' isFailed else cntP P st' isLeft) ≤ 40
      split
      · exact hcnt _
      · split
        · exact hcnt _
        · split <;> exact hcnt _
theorem smake1_any {S : Nat → Addr} {w1 w : World} {pb : Nat} {Y : YPl} {vl lv : Value} {R : List RV} {a : SS} (outs : List (List UInt8)) (vo : Value) (hO : Reads w vo (outs.map str)) (hn : outs.length ≤ 1000) (h : PAt S w1 pb Y vl lv R a w) :
    Calls Tryz.prog 20 #[ptrV Y.yb, vo] w fun e w' => ∃ (n : Nat → Nat) (err : Value), e = .returned (.tuple #[countV (n 0) (n 1) (n 2) (n 3), err]) ∧ (∀ i, n i ≤ 40) ∧ Tab w' ∧ ∀ w2, Below w'.heap.size w' w2 → SAns S w1 pb Y vl lv R a (.make outs) w (.returned (.tuple #[str (fourB n), err])) w2 := by
  refine (pmakeS_any outs vo hO hn h).mono ?_
  rintro e w' (⟨T, x, rfl, he, hno, hb⟩ | ⟨n, mo', c', lv', rfl, hin, hrel, hle, hp, ht⟩)
  · have ht := (h.below hb).here.tab
    refine ⟨fun _ => 0, .iface T x, rfl, fun _ => Nat.zero_le _, ht, fun w2 hb2 => ?_⟩
    exact SAns.same (c := 6) (x := []) h (hb.trans (hb2.mono hb.size)) (he.below hb2) (.made hno) (fun h => by cases h)
  · have htb := hp.here.tab
    refine ⟨n, .nilIface, rfl, hle, htb, fun w2 hb2 => ?_⟩
    exact ⟨fourB n, .nilIface, 0, fourB n, _, vl, lv', R, rfl, .nil, .make hin hrel, fun _ => rfl, hp.below hb2, ht.trans (STurn.of_below hb2)⟩
set_option maxHeartbeats 4000000 in
theorem smake_any {S : Nat → Addr} {w1 w : World} {pb : Nat} {Y : YPl} {vl lv : Value} {R : List RV} {a : SS} (outs : List (List UInt8)) (vo : Value) (hO : Reads w vo (outs.map str)) (hn : outs.length ≤ 1000) (h : PAt S w1 pb Y vl lv R a w) :
    Calls Tryz.prog 180 #[ptrV pb, vo] w (SAns S w1 pb Y vl lv R a (.make outs) w) := by
  have KM := Hd (smake1_any outs vo hO hn h)
  have hpl := h.pl
  obtain ⟨a0, c0, hvo, -, -⟩ := id hO
  rw [List.length_map] at hvo
  subst hvo
  clear hO h
  go_enter Tryz.func180, Tryz.ntmps180
  go_wp2_with fail
  refine KM.out.mono ?_
  rintro e w2 ⟨n, err, rfl, hle, htab, hfin⟩
  obtain ⟨W3, hW3⟩ : ∃ W, w2.alloc (.cells #[.int .i64 (n 0 : Nat), .int .i64 (n 1 : Nat), .int .i64 (n 2 : Nat), .int .i64 (n 3 : Nat)] 45) = W := ⟨_, rfl⟩
  obtain ⟨W4, hW4⟩ : ∃ W, W3.alloc (.cells #[.int .i64 (n 0 : Nat), .int .i64 (n 1 : Nat), .int .i64 (n 2 : Nat), .int .i64 (n 3 : Nat)] 3) = W := ⟨_, rfl⟩
  have hb3 : Below w2.heap.size w2 W3 := hW3 ▸ (Below.refl _ w2).alloc (Nat.le_refl _) _
  have hb4 : Below w2.heap.size w2 W4 := hb3.trans (hW4 ▸ ((Below.refl _ W3).alloc (Nat.le_refl _) _).mono hb3.size)
  have hrd0 : Reads W4 (.slice (some ⟨W3.heap.size, 0, none⟩) 4 4) [.int .i64 (n 0 : Nat), .int .i64 (n 1 : Nat), .int .i64 (n 2 : Nat), .int .i64 (n 3 : Nat)] := ⟨_, _, rfl, by simp, fun i u hi => ⟨_, _, rfl, by rw [Nat.zero_add, ← hW4, cell_of_heap (heap_alloc_here W3 _)]; simpa using hi⟩⟩
  have hz3 : W3.heap.size = w2.heap.size + 1 := by rw [← hW3]; simp
  rw [hz3] at hrd0
  have hrd : Reads W4 (.slice (some ⟨w2.heap.size + 1, 0, none⟩) 4 4) ((List.range 4).map fun i => Value.int .i64 (n i : Nat)) := hrd0
  have hg3 : W3.heap[w2.heap.size]? = some (.cells #[.int .i64 (n 0 : Nat), .int .i64 (n 1 : Nat), .int .i64 (n 2 : Nat), .int .i64 (n 3 : Nat)] 45 (0, 0)) := hW3 ▸ heap_alloc_here w2 _
  obtain ⟨⟨k0, k1, k2, k3⟩, f0, f1, f2, f3⟩ := four_free hg3
  have HW3 := Hd hW3
  have HW4 := Hd hW4
  have HRD := Hd hrd
  have HB4 := Hd hb4
  have HTB := Hd htab
  have HFIN := Hd hfin
  have HLE := Hd hle
  clear hW3 hW4 hb3 hb4 hrd hrd0 hz3 hg3 htab hfin hle hpl
  go_wp2_with fail
  rw [HW3.out, HW4.out]
  go_loopw [8, 30] (fun ov iv wl => ∃ j : Nat, j ≤ 4 ∧ iv = .int .i64 j ∧ wl.ownsRow W4.heap.size 9 1 ov j (((List.range j).map fun i => Lib.decDigits (n i)).map str) ∧ Below W4.heap.size W4 wl) (fun _ iv _ => 4 - (intOf iv).toNat)
  case atStart => exact ⟨0, by omega, rfl, World.ownsRow_nil _ _ _ _, Below.refl _ _⟩
  case round =>
    clear k0 k1 k2 k3 f0 f1 f2 f3
    obtain ⟨j, hj, rfl, hown, hb⟩ := hrel
    have HO := Hd hown
    have HB := Hd hb
    have hz := hb.size
    have HBW := Hd (HB4.out.trans (hb.mono HB4.out.size))
    by_cases hlt : j < 4
    · have hlc : ((j : Int) < 4) = True := eq_true (by omega)
      obtain ⟨bx, ox, hix, hce⟩ := (HRD.out.below0 hb).at (P := Tryz.prog) Tryz.underlying53 (by kernel_rfl) j (by simpa using hlt)
      simp only [List.getElem_map, List.getElem_range] at hce
      have KI := Hd (itoa_any (n j) wr (by have := HLE.out j; omega) (tab_below HTB.out HBW.out (Nat.le_refl _)))
      have HTK : Hid ((List.range (j + 1)).map (fun i => Lib.decDigits (n i)) = (List.range j).map (fun i => Lib.decDigits (n i)) ++ [Lib.decDigits (n j)]) := Hd (by rw [List.range_succ, List.map_append]; rfl)
      generalize Lib.decDigits (n j) = dj at *
      generalize (List.range j).map (fun i => Lib.decDigits (n i)) = ys at *
      clear hown hb
      go_wp2_with fail
      refine KI.out.mono ?_
      rintro e w5 ⟨rfl, hb5⟩
      have HO5 := Hd (row_below HO.out hb5)
      have HB5 := Hd (HB.out.trans (hb5.mono hz))
      clear hb5 hix hce
      go_wp2_with (first
        | (at_builtin
           refine wpList_app _ rfl _ _ 33 rfl tyStrsK W4.heap.size _ _ _ rfl (HO5.out.alloc _) ⟨w5.heap.size, 0, none⟩ 1 1 [str dj] rfl rfl (news_one ?_) ?_ (by decide) ?_ ?_ ?_
           · rw [cell_of_heap (heap_alloc_here w5 _)]; rfl
           · intro u hu; simp at hu; subst hu; rfl
           · omega
           · have := HB5.out.size; simp; omega
           intro v6 w6 ho6 hg6 hloc6))
      have HO6 := Hd ho6
      have HB6 : Hid (Below W4.heap.size W4 w6) := Hd ((HB5.out.alloc HB5.out.size _).grown hg6 (by have := HB5.out.size; simp; omega) (fun q hq => (HO5.out.lt q hq).1))
      clear ho6 hg6 hloc6
      go_wp2
      go_roundw
      case rel => exact ⟨j + 1, by omega, by go_num, by rw [HTK.out, List.map_append]; exact HO6.out, HB6.out⟩
      case measure => simp [intOf]; omega
    · obtain rfl : j = 4 := by omega
      have hlc : (((4 : Nat) : Int) < 4) = False := eq_false (by omega)
      have KJ := Hd (show Calls Tryz.prog 176 #[u8] wr fun e w' => e = .returned (str (fourB n)) ∧ Below wr.heap.size wr w' from sjoined_any ((List.range 4).map fun i => Lib.decDigits (n i)) u8 wr (ownsRow_reads hown) (ownsRow_roomy hown) (own_lt hown) (by simp) (fun s hs => by
        obtain ⟨i, hi, rfl⟩ := List.mem_map.1 hs
        have h1 := HLE.out i
        have h2 := digits_le6 (n i) (by omega)
        omega))
      obtain ⟨ax, cx, hx, -, -⟩ := id (ownsRow_reads hown)
      rw [show (((List.range 4).map fun i => Lib.decDigits (n i)).map str).length = 4 from rfl] at hx
      subst hx
      clear hown hb
      go_wp2_with fail
      refine KJ.out.mono ?_
      rintro e w5 ⟨rfl, hb5⟩
      have HB5 := Hd (HBW.out.trans (hb5.mono HBW.out.size))
      clear hb5
      go_wp2
      go_ret2
      exact HFIN.out _ HB5.out
set_option maxHeartbeats 1000000 in
theorem sshow_any {S : Nat → Addr} {w1 w : World} {pb : Nat} {Y : YPl} {vl lv : Value} {R : List RV} {a : SS} (p : List UInt8) (h : PAt S w1 pb Y vl lv R a w) :
    Calls Tryz.prog 248 #[ptrV pb, str p] w (SAns S w1 pb Y vl lv R a (.show p) w) := by
  have H := Hd h
  have KO := Hd (yout_any w h.yard)
  have KG := Hd (get_tree Y.ob Y.om a.mo p w h.yard.out)
  have hpl := h.pl
  cases ho : mlook p a.mo with
  | some b =>
    have hb := h.gout.byt p b ho
    have KS := Hd (shown_any b w h.here.ml (by omega))
    rw [ho] at KG
    simp only [Option.getD_some, Option.isSome_some] at KG
    have HO := Hd ho
    clear h ho hb
    go_enter Tryz.func248, Tryz.ntmps248
    go_wp2_with fail
    refine KO.out.mono ?_
    rintro e w2 ⟨rfl, e2⟩
    have e3 := e2.symm
    subst e3
    clear e2
    go_wp2_with fail
    refine KG.out.mono ?_
    rintro e w3 ⟨rfl, rfl⟩
    go_wp2_with fail
    refine KS.out.mono ?_
    rintro e w4 ⟨rfl, hb4⟩
    have HB := Hd hb4
    clear hb4 hpl
    go_wp2
    go_ret2
    exact SAns.same H.out HB.out .nil (.out HO.out) (fun _ => rfl)
  | none =>
    have KT := Hd (ytree_any w h.yard)
    have KH := Hd (get_tree Y.tb Y.mb a.m p w h.yard.tree)
    rw [ho] at KG
    simp only [Option.getD_none, Option.isSome_none] at KG
    have HO := Hd ho
    cases hm : mlook p a.m with
    | some b =>
      have hb := h.good.byt p b hm
      have KS := Hd (shown_any b w h.here.ml (by omega))
      rw [hm] at KH
      simp only [Option.getD_some, Option.isSome_some] at KH
      have HM := Hd hm
      clear h ho hb hm
      go_enter Tryz.func248, Tryz.ntmps248
      go_wp2_with fail
      refine KO.out.mono ?_
      rintro e w2 ⟨rfl, e2⟩
      have e3 := e2.symm
      subst e3
      clear e2
      go_wp2_with fail
      refine KG.out.mono ?_
      rintro e w3 ⟨rfl, rfl⟩
      go_wp2_with fail
      refine KT.out.mono ?_
      rintro e w4 ⟨rfl, e2⟩
      have e3 := e2.symm
      subst e3
      clear e2
      go_wp2_with fail
      refine KH.out.mono ?_
      rintro e w5 ⟨rfl, rfl⟩
      go_wp2_with fail
      refine KS.out.mono ?_
      rintro e w6 ⟨rfl, hb4⟩
      have HB := Hd hb4
      clear hb4 hpl
      go_wp2
      go_ret2
      exact SAns.same H.out HB.out .nil (.file HO.out HM.out) (fun _ => rfl)
    | none =>
      have c0 := h.here.none
      rw [hm] at KH
      simp only [Option.getD_none, Option.isSome_none] at KH
      have HM := Hd hm
      clear h ho hm
      go_enter Tryz.func248, Tryz.ntmps248
      go_wp2_with fail
      refine KO.out.mono ?_
      rintro e w2 ⟨rfl, e2⟩
      have e3 := e2.symm
      subst e3
      clear e2
      go_wp2_with fail
      refine KG.out.mono ?_
      rintro e w3 ⟨rfl, rfl⟩
      go_wp2_with fail
      refine KT.out.mono ?_
      rintro e w4 ⟨rfl, e2⟩
      have e3 := e2.symm
      subst e3
      clear e2
      go_wp2_with fail
      refine KH.out.mono ?_
      rintro e w5 ⟨rfl, rfl⟩
      go_wp2_with fail
      go_quiet (fail)
      go_wp2
      go_ret2
      exact SAns.same H.out (below_drewN (Below.refl _ _) nq) (ErrIs.some (k := 5) (by omega)) (.none HO.out HM.out) (fun h => by cases h)
end Go.Proofs.YtgjialbmlhbngaaGreatDoor
