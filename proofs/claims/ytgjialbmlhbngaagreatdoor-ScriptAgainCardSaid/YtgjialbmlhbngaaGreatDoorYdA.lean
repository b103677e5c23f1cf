/-
  A yard in memory: its box, its two trees, its cache, its own rules; what steps leave as it was. A yard: New, Tree, Out, outs. slices.Clone of rules; a row of rules, of which the first ones have inputs of their own.
-/
import Derived.Test.YtgjialbmlhbngaaGreatDoorBdH
import Derived.Test.YtgjialbmlhbngaaGreatDoorPkI
import Derived.Test.YtgjialbmlhbngaaGreatDoorPkQ
import Derived.Test.YtgjialbmlhbngaaGreatDoorPkZ
import Derived.Test.YtgjialbmlhbngaaGreatDoorBdC
import Derived.Test.YtgjialbmlhbngaaGreatDoorBdD
import Derived.Deep.RegionHeld3

set_option maxRecDepth 100000
namespace Go.Proofs.YtgjialbmlhbngaaGreatDoor
open Go Go.RowKit Go.Kf Go.Sort Go.Proofs
structure YPl where
  yb : Nat
  tb : Nat
  mb : Nat
  ob : Nat
  om : Nat
  pb : Nat
  cm : Nat
def RBlk (vl : Value) (R : List RV) (q : Nat) : Prop := vl.ownBlock = some q ∨ ∃ x ∈ R, x.2.ownBlock = some q
def ysec (Y : YPl) (lv vl : Value) (R : List RV) : Nat → Nat → Prop
  | 0, q => q = Y.yb
  | 1, q => q = Y.tb ∨ q = Y.mb
  | 2, q => q = Y.ob ∨ q = Y.om
  | 3, q => foot Y.pb Y.cm lv q
  | 4, q => RBlk vl R q
  | _, _ => False
theorem own_fr {B : Nat} {w w' : World} {v : Value} {R : List RV} (h : OwnAt B w v R) {N : Nat} {Q : Nat → Prop} (hf : Fr N Q w w') (hQ : ∀ q, RBlk v R q → q < N ∧ ¬ Q q) : OwnAt B w' v R :=
  ⟨ownsRow_fr h.1 hf (fun k hk => hQ k (Or.inl hk)), fun x hx => ⟨ownsRow_fr (h.2 x hx).1 hf (fun k hk => hQ k (Or.inr ⟨x, hx, hk⟩)), (h.2 x hx).2⟩⟩
theorem rown_lt {B : Nat} {w : World} {v : Value} {R : List RV} (h : OwnAt B w v R) {q : Nat} (hq : RBlk v R q) : B ≤ q ∧ q < w.heap.size := by
  rcases hq with hq | ⟨x, hx, hq⟩
  · exact h.1.lt q hq
  · exact (h.2 x hx).1.lt q hq
theorem own_base {B B' : Nat} {w : World} {v : Value} {R : List RV} (h : OwnAt B w v R) (hB : B' ≤ B) : OwnAt B' w v R :=
  ⟨ownsRow_base h.1 hB, fun x hx => ⟨ownsRow_base (h.2 x hx).1 hB, (h.2 x hx).2⟩⟩
structure YAt (B : Nat) (Y : YPl) (vl lv : Value) (R : List RV) (m mo : List Ent) (c : CS) (w : World) : Prop where
  box : VRow 120 w Y.yb [ptrV Y.tb, ptrV Y.ob, vl, ptrV Y.pb]
  tree : TAt w Y.tb Y.mb m
  out : TAt w Y.ob Y.om mo
  rules : OwnAt B w vl R
  cache : CacheAt w Y.pb Y.cm lv c.many c.ks c.mp
  low : ∀ i q, ysec Y lv vl R i q → B ≤ q
  apart : ∀ i j q, ysec Y lv vl R i q → ysec Y lv vl R j q → i = j
section
variable {B : Nat} {Y : YPl} {vl lv vl' lv' : Value} {R R' : List RV} {m mo m' mo' : List Ent} {c c' : CS} {w w' : World}
theorem YAt.lt (h : YAt B Y vl lv R m mo c w) : ∀ i q, ysec Y lv vl R i q → q < w.heap.size := by
  intro i q hq
  match i, hq with
  | 0, hq => obtain rfl : q = Y.yb := hq; exact h.box.lt
  | 1, hq => rcases hq with rfl | rfl; exact h.tree.lt.1; exact h.tree.lt.2
  | 2, hq => rcases hq with rfl | rfl; exact h.out.lt.1; exact h.out.lt.2
  | 3, hq => exact h.cache.lt hq
  | 4, hq => exact (rown_lt h.rules hq).2
  | _ + 5, hq => exact absurd hq id
theorem YAt.hB (h : YAt B Y vl lv R m mo c w) : B ≤ w.heap.size := by
  have h1 := h.low 0 Y.yb rfl
  have h2 := h.lt 0 Y.yb rfl
  omega
theorem YAt.fr (h : YAt B Y vl lv R m mo c w) {Q : Nat → Prop} (hf : Fr w.heap.size Q w w') (hQ : ∀ i q, ysec Y lv vl R i q → ¬ Q q) : YAt B Y vl lv R m mo c w' :=
  ⟨h.box.fr hf h.box.lt (hQ 0 _ rfl), h.tree.of_fr hf h.tree.lt (hQ 1 _ (Or.inl rfl)) (hQ 1 _ (Or.inr rfl)), h.out.of_fr hf h.out.lt (hQ 2 _ (Or.inl rfl)) (hQ 2 _ (Or.inr rfl)),
   own_fr h.rules hf (fun q hq => ⟨h.lt 4 q hq, hQ 4 q hq⟩), h.cache.fr hf (fun q hq => ⟨h.lt 3 q hq, hQ 3 q hq⟩), h.low, h.apart⟩
theorem YAt.below (h : YAt B Y vl lv R m mo c w) (hb : Below w.heap.size w w') : YAt B Y vl lv R m mo c w' := h.fr (Q := fun _ => False) (Fr.of_below hb) (fun _ _ _ => id)
theorem YAt.far (h : YAt B Y vl lv R m mo c w) {i j q : Nat} (hi : ysec Y lv vl R i q) (hij : i ≠ j) : ¬ ysec Y lv vl R j q := fun hj => hij (h.apart i j q hi hj)
theorem YAt.tstep (h : YAt B Y vl lv R m mo c w) (hT : TAt w' Y.tb Y.mb m') (hf : Fr w.heap.size (fun k => k = Y.mb) w w') : YAt B Y vl lv R m' mo c w' := by
  have key : ∀ i q, i ≠ 1 → ysec Y lv vl R i q → ¬ q = Y.mb := fun i q hi hq e => h.far hq hi (Or.inr e)
  exact ⟨h.box.fr hf h.box.lt (key 0 _ (by decide) rfl), hT, h.out.of_fr hf h.out.lt (key 2 _ (by decide) (Or.inl rfl)) (key 2 _ (by decide) (Or.inr rfl)), own_fr h.rules hf (fun q hq => ⟨h.lt 4 q hq, key 4 q (by decide) hq⟩),
    h.cache.fr hf (fun q hq => ⟨h.lt 3 q hq, key 3 q (by decide) hq⟩), h.low, h.apart⟩
theorem YAt.ostep (h : YAt B Y vl lv R m mo c w) (hT : TAt w' Y.ob Y.om mo') (hf : Fr w.heap.size (fun k => k = Y.om) w w') : YAt B Y vl lv R m mo' c w' := by
  have key : ∀ i q, i ≠ 2 → ysec Y lv vl R i q → ¬ q = Y.om := fun i q hi hq e => h.far hq hi (Or.inr e)
  exact ⟨h.box.fr hf h.box.lt (key 0 _ (by decide) rfl), h.tree.of_fr hf h.tree.lt (key 1 _ (by decide) (Or.inl rfl)) (key 1 _ (by decide) (Or.inr rfl)), hT, own_fr h.rules hf (fun q hq => ⟨h.lt 4 q hq, key 4 q (by decide) hq⟩),
    h.cache.fr hf (fun q hq => ⟨h.lt 3 q hq, key 3 q (by decide) hq⟩), h.low, h.apart⟩
theorem YAt.cstep (h : YAt B Y vl lv R m mo c w) {Q : Nat → Prop} (hC : CacheAt w' Y.pb Y.cm lv' c'.many c'.ks c'.mp) (hf : Fr w.heap.size (fun q => Q q ∨ foot Y.pb Y.cm lv q) w w') (hQ : ∀ i q, ysec Y lv vl R i q → ¬ Q q) (hl : ∀ q, foot Y.pb Y.cm lv' q → foot Y.pb Y.cm lv q ∨ w.heap.size ≤ q) :
    YAt B Y vl lv' R m mo c' w' := by
  have key : ∀ i q, i ≠ 3 → ysec Y lv vl R i q → ¬ (Q q ∨ foot Y.pb Y.cm lv q) := fun i q hi hq e => e.elim (hQ i q hq) (fun e => h.far hq hi e)
  have same : ∀ i q, i ≠ 3 → ysec Y lv' vl R i q → ysec Y lv vl R i q := fun i q hi hq => by
    match i, hi, hq with
    | 0, _, hq => exact hq
    | 1, _, hq => exact hq
    | 2, _, hq => exact hq
    | 4, _, hq => exact hq
    | _ + 5, _, hq => exact hq
  refine ⟨h.box.fr hf h.box.lt (key 0 _ (by decide) rfl), h.tree.of_fr hf h.tree.lt (key 1 _ (by decide) (Or.inl rfl)) (key 1 _ (by decide) (Or.inr rfl)), h.out.of_fr hf h.out.lt (key 2 _ (by decide) (Or.inl rfl)) (key 2 _ (by decide) (Or.inr rfl)), own_fr h.rules hf (fun q hq => ⟨h.lt 4 q hq, key 4 q (by decide) hq⟩), hC, ?_, ?_⟩
  · intro i q hq
    by_cases hi : i = 3
    · subst hi
      rcases hl q hq with h1 | h1
      · exact h.low 3 q h1
      · have := h.hB; omega
    · exact h.low i q (same i q hi hq)
  · have one : ∀ i q, i ≠ 3 → ysec Y lv' vl R i q → ¬ ysec Y lv' vl R 3 q := fun i q hi hq h3 => by
      have hq' := same i q hi hq
      rcases hl q h3 with h1 | h1
      · exact h.far hq' hi h1
      · have := h.lt i q hq'; omega
    intro i j q hi hj
    by_cases hi3 : i = 3
    · subst hi3
      by_cases hj3 : j = 3
      · exact hj3.symm
      · exact absurd hi (one j q hj3 hj)
    · by_cases hj3 : j = 3
      · subst hj3
        exact absurd hj (one i q hi3 hi)
      · exact h.apart i j q (same i q hi3 hi) (same j q hj3 hj)
theorem YAt.rstep (h : YAt B Y vl lv R m mo c w) (hbox : VRow 120 w' Y.yb [ptrV Y.tb, ptrV Y.ob, vl', ptrV Y.pb]) (hO : OwnAt w.heap.size w' vl' R') (hf : Fr w.heap.size (fun k => k = Y.yb) w w') : YAt B Y vl' lv R' m mo c w' := by
  have key : ∀ i q, i ≠ 0 → ysec Y lv vl R i q → ¬ q = Y.yb := fun i q hi hq e => h.far hq hi e
  have same : ∀ i q, i ≠ 4 → ysec Y lv vl' R' i q → ysec Y lv vl R i q := fun i q hi hq => by
    match i, hi, hq with
    | 0, _, hq => exact hq
    | 1, _, hq => exact hq
    | 2, _, hq => exact hq
    | 3, _, hq => exact hq
    | _ + 5, _, hq => exact hq
  have hB := h.hB
  refine ⟨hbox, h.tree.of_fr hf h.tree.lt (key 1 _ (by decide) (Or.inl rfl)) (key 1 _ (by decide) (Or.inr rfl)), h.out.of_fr hf h.out.lt (key 2 _ (by decide) (Or.inl rfl)) (key 2 _ (by decide) (Or.inr rfl)), own_base hO hB,
    h.cache.fr hf (fun q hq => ⟨h.lt 3 q hq, key 3 q (by decide) hq⟩), ?_, ?_⟩
  · intro i q hq
    by_cases hi : i = 4
    · subst hi
      have := (rown_lt hO hq).1
      omega
    · exact h.low i q (same i q hi hq)
  · have one : ∀ i q, i ≠ 4 → ysec Y lv vl' R' i q → ¬ ysec Y lv vl' R' 4 q := fun i q hi hq h4 => by
      have h1 := h.lt i q (same i q hi hq)
      have h2 := (rown_lt hO h4).1
      omega
    intro i j q hi hj
    by_cases hi4 : i = 4
    · subst hi4
      by_cases hj4 : j = 4
      · exact hj4.symm
      · exact absurd hi (one j q hj4 hj)
    · by_cases hj4 : j = 4
      · subst hj4
        exact absurd hj (one i q hi4 hi)
      · exact h.apart i j q (same i q hi4 hi) (same j q hj4 hj)
theorem YAt.cells (h : YAt B Y vl lv R m mo c w) : w.cell? ⟨Y.yb, 0, none⟩ = some (ptrV Y.tb) ∧ w.cell? ⟨Y.yb, 1, none⟩ = some (ptrV Y.ob) ∧ w.cell? ⟨Y.yb, 2, none⟩ = some vl ∧ w.cell? ⟨Y.yb, 3, none⟩ = some (ptrV Y.pb) :=
  ⟨h.box.cell rfl, h.box.cell rfl, h.box.cell rfl, h.box.cell rfl⟩
end
theorem ynew_any (n : Nat) (w : World) (h1 : 1 ≤ n) (h2 : n ≤ 100) :
    Calls Tryz.prog 13 #[.int .i64 n] w fun r w' => ∃ Y, r = .returned (.tuple #[ptrV Y.yb, .nilIface]) ∧ YAt w.heap.size Y (.slice none 0 0) (.slice none 0 0) [] [] [] ⟨n, [], []⟩ w' ∧ Below w.heap.size w w' := by
  have K := Hd (new_ok n w h1 h2)
  go_enter Tryz.func13, Tryz.ntmps13
  go_wp2_with fail
  refine K.out.mono ?_
  rintro e w1 ⟨pb, cm, rfl, hpb, hcm, hC1, hb1⟩
  have HC1 := Hd hC1
  have HB1 := Hd hb1
  have KT := Hd (new_tree w1)
  have HZ1 := Hd hb1.size
  clear hC1 hb1 K
  go_wp2_with fail
  refine KT.out.mono ?_
  rintro e w2 ⟨tb, mb, rfl, htb, hmb, hT2, hb2⟩
  have HB2 := Hd (HB1.out.trans (hb2.mono HZ1.out))
  have HC2 := Hd (HC1.out.below hb2)
  have HT2 := Hd hT2
  have KO := Hd (new_tree w2)
  have HZ2 := Hd hb2.size
  clear hT2 hb2 KT
  go_wp2_with fail
  refine KO.out.mono ?_
  rintro e w3 ⟨ob, om, rfl, hob, hom, hO3, hb3⟩
  have HB3 := Hd (HB2.out.trans (hb3.mono HB2.out.size))
  have HC3 := Hd (HC2.out.below hb3)
  have HT3 := Hd (HT2.out.below hb3)
  have HO3 := Hd hO3
  have HZ3 := Hd hb3.size
  clear hO3 hb3 KO
  obtain ⟨W, hW⟩ : ∃ W, w3.alloc (.cells #[ptrV tb, ptrV ob, .slice none 0 0, ptrV pb] 120) = W := ⟨_, rfl⟩
  have hA : Below w3.heap.size w3 W := hW ▸ (Below.refl _ w3).alloc (Nat.le_refl _) _
  have hV : VRow 120 W w3.heap.size [ptrV tb, ptrV ob, .slice none 0 0, ptrV pb] := hW ▸ heap_alloc_here w3 _
  have HA := Hd hA
  have HV := Hd hV
  have HW := Hd hW
  clear hA hV hW
  go_wp2
  go_ret2
  rw [HW.out]
  have hc : ∀ q, foot pb cm (.slice none 0 0) q → w.heap.size ≤ q ∧ q < w1.heap.size := fun q hq => by
    have h5 := HC1.out.lt hq
    rcases hq with rfl | rfl | hq
    · exact ⟨hpb, h5⟩
    · exact ⟨hcm, h5⟩
    · cases hq
  have ht := HT2.out.lt
  have ho := HO3.out.lt
  have z1 := HZ1.out
  have z2 := HZ2.out
  have z3 := HZ3.out
  have key : ∀ i q, ysec ⟨w3.heap.size, tb, mb, ob, om, pb, cm⟩ (.slice none 0 0) (.slice none 0 0) [] i q → (i = 3 ∧ w.heap.size ≤ q ∧ q < w1.heap.size) ∨ (i = 1 ∧ w1.heap.size ≤ q ∧ q < w2.heap.size) ∨ (i = 2 ∧ w2.heap.size ≤ q ∧ q < w3.heap.size) ∨ (i = 0 ∧ q = w3.heap.size) := fun i q hq => by
    match i, hq with
    | 0, hq => exact Or.inr (Or.inr (Or.inr ⟨rfl, hq⟩))
    | 1, hq => rcases hq with rfl | rfl; exact Or.inr (Or.inl ⟨rfl, htb, ht.1⟩); exact Or.inr (Or.inl ⟨rfl, hmb, ht.2⟩)
    | 2, hq => rcases hq with rfl | rfl; exact Or.inr (Or.inr (Or.inl ⟨rfl, hob, ho.1⟩)); exact Or.inr (Or.inr (Or.inl ⟨rfl, hom, ho.2⟩))
    | 3, hq => exact Or.inl ⟨rfl, hc q hq⟩
    | 4, hq => rcases hq with hq | ⟨x, hx, -⟩; cases hq; cases hx
    | _ + 5, hq => exact absurd hq id
  refine ⟨⟨w3.heap.size, tb, mb, ob, om, pb, cm⟩, rfl, ⟨HV.out, HT3.out.below HA.out, HO3.out.below HA.out, ⟨World.ownsRow_nil _ _ _ _, fun x hx => by cases hx⟩, HC3.out.below HA.out, fun i q hq => ?_, fun i j q hi hj => ?_⟩, HB3.out.trans (HA.out.mono HB3.out.size)⟩
  · have := key i q hq; omega
  · have h5 := key i q hi
    have h6 := key j q hj
    omega
section
variable {B : Nat} {Y : YPl} {vl lv : Value} {R : List RV} {m mo : List Ent} {c : CS}
theorem ytree_any (w : World) (h : YAt B Y vl lv R m mo c w) : Calls Tryz.prog 17 #[ptrV Y.yb] w fun e w' => e = .returned (ptrV Y.tb) ∧ w' = w := by
  obtain ⟨c0, -⟩ := h.cells
  clear h
  go_enter Tryz.func17, Tryz.ntmps17
  go_wp2
  go_ret
  exact ⟨rfl, rfl⟩
theorem yout_any (w : World) (h : YAt B Y vl lv R m mo c w) : Calls Tryz.prog 24 #[ptrV Y.yb] w fun e w' => e = .returned (ptrV Y.ob) ∧ w' = w := by
  obtain ⟨-, c1, -⟩ := h.cells
  clear h
  go_enter Tryz.func24, Tryz.ntmps24
  go_wp2
  go_ret
  exact ⟨rfl, rfl⟩
set_option maxHeartbeats 1000000 in
theorem youts_any (w : World) (h : YAt B Y vl lv R m mo c w) (hn : R.length ≤ 1000) :
    Calls Tryz.prog 72 #[ptrV Y.yb] w fun e w' => ∃ u, e = .returned u ∧ w'.ownsRow w.heap.size 9 1 u R.length (((R.map Prod.fst).map RuleL.out).map str) ∧ Below w.heap.size w w' := by
  obtain ⟨-, -, c2, -⟩ := h.cells
  have hrow : ∀ r ∈ R.map rvRow, r ≠ [] := fun r hr => by obtain ⟨x, -, rfl⟩ := List.mem_map.1 hr; simp [rvRow]
  have hr := h.rules.rules.1.1
  have hxs : ∀ x ∈ R, ∃ a n c, x.2 = .slice a n c := fun x hx => by
    obtain ⟨a, c, h1, -⟩ := (h.rules.rules.1.2 x hx).1
    exact ⟨a, _, c, h1⟩
  have HXS := Hd hxs
  obtain ⟨a, cq, hv, -, -⟩ := id hr
  rw [List.length_map] at hv
  subst hv
  have HRC := Hd (fun w1 (hb : Below w.heap.size w w1) => readsK_below0 hr hrow hb)
  clear h hr hrow hxs
  go_enter Tryz.func72, Tryz.ntmps72
  go_wp2_with fail
  go_loopw [3, 11] (fun ov iv wl => ∃ i : Nat, i ≤ R.length ∧ iv = .int .i64 i ∧ wl.ownsRow w.heap.size 9 1 ov i ((((R.map Prod.fst).take i).map RuleL.out).map str) ∧ Below w.heap.size w wl) (fun _ iv _ => R.length - (intOf iv).toNat)
  case atStart => exact ⟨0, by omega, rfl, World.ownsRow_nil _ _ _ _, Below.refl _ _⟩
  case round =>
    obtain ⟨j, hj, rfl, hown, hbj⟩ := hrel
    have HO := Hd hown
    have HB := Hd hbj
    have hzj := hbj.size
    by_cases hlt : j < R.length
    · have hlc : ((j : Int) < (R.length : Int)) = True := eq_true (by omega)
      obtain ⟨b, o, hix, -, hce⟩ := (HRC.out wr hbj).at (P := Tryz.prog) Tryz.underlying22 (by kernel_rfl) j (by simpa using hlt)
      simp only [List.getElem_map] at hce
      have hc0 := hce 0 _ rfl
      have hc1 := hce 1 _ rfl
      have hc2 := hce 2 _ rfl
      have hc3 := hce 3 _ rfl
      simp only [Nat.add_zero] at hc0
      have HTK : Hid (((R.map Prod.fst).take (j + 1)).map RuleL.out = ((R.map Prod.fst).take j).map RuleL.out ++ [R[j].1.out]) := Hd (by
        rw [List.take_succ_eq_append_getElem (by simpa using hlt), List.map_append, List.map_singleton, List.getElem_map])
      have hlen : (((R.map Prod.fst).take j).map RuleL.out).length = j := by simp; omega
      generalize ((R.map Prod.fst).take j).map RuleL.out = ys at *
      obtain ⟨ax, nx, cx, hx3⟩ := HXS.out _ (List.getElem_mem hlt)
      generalize R[j] = x at *
      obtain ⟨⟨x0, x1, x2, xi⟩, x3⟩ := x
      obtain rfl : x3 = .slice ax nx cx := hx3
      simp only at hc0 hc1 hc2 hc3 HTK
      have HLN := Hd hlen
      clear hown hbj hce hlen
      go_wp2_with (first
        | (at_builtin
           refine wpList_app _ rfl _ _ 33 rfl tyStrsK w.heap.size _ _ _ rfl ((HO.out.alloc _).alloc _) ⟨wr.heap.size + 1, 0, none⟩ 1 1 [str x0] rfl rfl (news_one ?_) ?_ (by decide) ?_ ?_ ?_
           · simp [go_sem]
           · intro u hu; simp at hu; subst hu; rfl
           · omega
           · simp; omega
           intro v6 w6 ho6 hg6 hloc6
           have HO6 : Hid (w6.ownsRow w.heap.size 9 1 v6 (j + 1) ((ys ++ [x0]).map str)) := Hd (by simpa using ho6)
           have HB6 : Hid (Below w.heap.size w w6) := Hd (((HB.out.alloc hzj _).alloc (by simp; omega) _).grown hg6 (by simp; omega) (fun q hq => (HO.out.lt q hq).1))
           clear ho6 hg6 hloc6))
      go_wp2
      go_roundw
      case rel => exact ⟨j + 1, by omega, by go_num, by rw [HTK.out]; exact HO6.out, HB6.out⟩
      case measure => simp [intOf]; omega
    · obtain rfl : j = R.length := by omega
      have hlc : ((R.length : Int) < (R.length : Int)) = False := eq_false (by omega)
      rw [List.take_of_length_le (by simp)] at hown
      have HOL := Hd hown
      clear hown hbj HO
      go_wp2
      go_ret
      exact ⟨_, rfl, HOL.out, HB.out⟩
end
def cloneR_ren : Go.Shelf.Ren := ⟨fun | 41 => 68 | n => n, fun | 22 => 22 | 23 => 35 | 4 => 4 | n => n, fun | n => n⟩
theorem cloneR_lays : Go.Proofs.SlLaysE0.n41 Tryz.prog cloneR_ren := {
  mixed := by kernel_rfl
  f41 := ⟨Tryz.f68.name, by decide, Tryz.func68.trans (congrArg some (by kernel_rfl))⟩
  t4 := Tryz.underlying4
  a4 := Tryz.isAgg4
  z4 := Tryz.sizeOf4
  v4 := Tryz.zeroValue4
  t22 := Tryz.underlying22
  a22 := Tryz.isAgg22
  z22 := Tryz.sizeOf22
  v22 := Tryz.zeroValue22 }
theorem rowAt {rows : List (List Value)} (hs : ∀ r ∈ rows, r.length = 4) {q : Nat} {u : Value} (h : rows.flatten[q]? = some u) : ∃ i r j, rows[i]? = some r ∧ r[j]? = some u ∧ q = i * 4 + j := by
  induction rows generalizing q with
  | nil => simp at h
  | cons x rows ih =>
    have hx : x.length = 4 := hs x List.mem_cons_self
    rw [List.flatten_cons] at h
    by_cases hq : q < 4
    · rw [List.getElem?_append_left (by omega)] at h
      exact ⟨0, x, q, rfl, h, by omega⟩
    · rw [List.getElem?_append_right (by omega), hx] at h
      obtain ⟨i, r, j, h1, h2, h3⟩ := ih (fun r hr => hs r (List.mem_cons_of_mem _ hr)) h
      exact ⟨i + 1, r, j, by simpa using h1, h2, by omega⟩
theorem rvRow_len (R : List RV) : ∀ r ∈ R.map rvRow, r.length = 4 := by
  intro r hr
  obtain ⟨x, -, rfl⟩ := List.mem_map.1 hr
  rfl
theorem rv_flat (R : List RV) : (R.map rvRow).flatten.length = R.length * 4 := by
  induction R with
  | nil => rfl
  | cons x R ih =>
    rw [List.map_cons, List.flatten_cons, List.length_append, ih, List.length_cons]
    show 4 + _ = _
    omega
theorem cloneR_any (R : List RV) (v : Value) (w : World) (hr : ReadsK 4 w v (R.map rvRow)) (hx : ∀ x ∈ R, ∃ a n c, x.2 = .slice a n c) (hno : ∀ ad n c, v = .slice (some ad) n c → ad.spot = none) (hl : R.length ≤ 1000) :
    Calls Tryz.prog 68 #[v] w fun e w' => ∃ v', e = .returned v' ∧ w'.ownsRow w.heap.size 35 4 v' R.length (R.map rvRow).flatten ∧ Below w.heap.size w w' := by
  obtain ⟨i0, hi, hz0, hz1, hz2⟩ := info_parts tyRules.info
  obtain ⟨a, c, rfl, -, hc⟩ := hr
  rw [List.length_map]
  have key : ∀ (b o : Nat), a = some ⟨b, o, none⟩ → Calls Tryz.prog 68 #[.slice a R.length c] w fun e w' => ∃ v', e = .returned v' ∧ w'.ownsRow w.heap.size 35 4 v' R.length (R.map rvRow).flatten ∧ Below w.heap.size w w' := by
    rintro b o rfl
    refine (AnyE.slices_Clone cloneR_lays i0 _ 4 72 hi hz0 hz1 hz2 rfl (by decide) Tryz.sizeOf35 b o R.length c (R.map rvRow).flatten w (rv_flat R) (by unfold maxLen; omega) (by omega) (fun q u hq => ?_) (fun u hu => ?_)).mono ?_
    · obtain ⟨i, r, j, h1, h2, rfl⟩ := rowAt (rvRow_len R) hq
      obtain ⟨b', o', e, h3⟩ := hc i r h1
      cases e
      rw [← Nat.add_assoc]
      exact h3 j u h2
    · obtain ⟨r, hr, hu⟩ := List.mem_flatten.1 hu
      obtain ⟨x, hxm, rfl⟩ := List.mem_map.1 hr
      simp only [rvRow, List.mem_cons, List.not_mem_nil, or_false] at hu
      rcases hu with rfl | rfl | rfl | rfl
      · rfl
      · rfl
      · rfl
      · obtain ⟨a', n', c', h⟩ := hx x hxm
        rw [h]
        rfl
    · rintro e w' ⟨v', rfl, ho, -, hb⟩
      exact ⟨v', rfl, ho, hb⟩
  cases a with
  | some ad =>
    obtain ⟨b, o, sp⟩ := ad
    obtain rfl : sp = none := hno _ _ _ rfl
    exact key b o rfl
  | none =>
    cases R with
    | nil =>
      refine (AnyE.slices_Clone_nil cloneR_lays 0 c w).mono ?_
      rintro e w' ⟨rfl, rfl⟩
      exact ⟨_, rfl, World.ownsRow_nil _ _ _ _, Below.refl _ _⟩
    | cons x R =>
      obtain ⟨b, o, h, -⟩ := hc 0 (rvRow x) rfl
      cases h
theorem ownsRow_set {w : World} {base : Nat} {e : TypeId} {s g cap n i : Nat} {xs : List Value} (h : w.ownsRow base e s (.slice (some ⟨g, 0, none⟩) n cap) n xs) (u : Value) : (w.setCell ⟨g, i, none⟩ u).ownsRow base e s (.slice (some ⟨g, 0, none⟩) n cap) n (xs.set i u) := by
  obtain ⟨hl, h⟩ := h
  refine ⟨by rw [List.length_set]; exact hl, ?_⟩
  rcases h with ⟨h0, -⟩ | ⟨g', cap', cur, hv, hg, hh, hn, hcap, hsz, htake⟩
  · cases h0
  · cases hv
    refine .inr ⟨g, cap, _, rfl, hg, Kf.heap_setCell_same hh u, hn, hcap, by simpa using hsz, ?_⟩
    rw [Array.toList_setIfInBounds, List.take_set, htake]
theorem flat_set (A : List RV) (x : RV) (D : List RV) (u : Value) : (((A ++ x :: D).map rvRow).flatten).set (A.length * 4 + 3) u = ((A ++ (x.1, u) :: D).map rvRow).flatten := by
  rw [List.map_append, List.map_append, List.flatten_append, List.flatten_append, List.set_append_right _ _ (by rw [rv_flat]; omega), rv_flat]
  congr 1
  rw [show A.length * 4 + 3 - A.length * 4 = 3 by omega]
  rfl
structure HalfOwn (B : Nat) (w : World) (v : Value) (R A : List RV) (i : Nat) : Prop where
  le : i ≤ R.length
  len : A.length = i
  fst : A.map Prod.fst = (R.take i).map Prod.fst
  row : w.ownsRow B 35 4 v R.length ((A ++ R.drop i).map rvRow).flatten
  ins : ∀ x ∈ A, w.ownsRow B 9 1 x.2 x.1.ins.length (x.1.ins.map str) ∧ ∀ k, x.2.ownBlock = some k → v.ownBlock ≠ some k
theorem HalfOwn.start {B : Nat} {w : World} {v : Value} {R : List RV} (h : w.ownsRow B 35 4 v R.length (R.map rvRow).flatten) : HalfOwn B w v R [] 0 :=
  ⟨Nat.zero_le _, rfl, rfl, by simpa using h, fun x hx => by cases hx⟩
theorem HalfOwn.fr {B : Nat} {w w' : World} {v : Value} {R A : List RV} {i : Nat} (h : HalfOwn B w v R A i) {N : Nat} {Q : Nat → Prop} (hf : Fr N Q w w') (hq : ∀ q, RBlk v A q → q < N ∧ ¬ Q q) : HalfOwn B w' v R A i :=
  ⟨h.le, h.len, h.fst, ownsRow_fr h.row hf (fun k hk => hq k (Or.inl hk)), fun x hx => ⟨ownsRow_fr (h.ins x hx).1 hf (fun k hk => hq k (Or.inr ⟨x, hx, hk⟩)), (h.ins x hx).2⟩⟩
theorem HalfOwn.lt {B : Nat} {w : World} {v : Value} {R A : List RV} {i : Nat} (h : HalfOwn B w v R A i) {q : Nat} (hq : RBlk v A q) : B ≤ q ∧ q < w.heap.size := by
  rcases hq with hq | ⟨x, hx, hq⟩
  · exact h.row.lt q hq
  · exact (h.ins x hx).1.lt q hq
theorem HalfOwn.below {B : Nat} {w w' : World} {v : Value} {R A : List RV} {i : Nat} (h : HalfOwn B w v R A i) (hb : Below w.heap.size w w') : HalfOwn B w' v R A i := h.fr (Q := fun _ => False) (Fr.of_below hb) (fun _ hq => ⟨(h.lt hq).2, id⟩)
theorem HalfOwn.next {B : Nat} {w : World} {v : Value} {R A : List RV} {i g cap : Nat} (h : HalfOwn B w v R A i) (hi : i < R.length) (hv : v = .slice (some ⟨g, 0, none⟩) R.length cap) {u : Value} (hu : w.ownsRow B 9 1 u R[i].1.ins.length (R[i].1.ins.map str)) (hne : ∀ k, u.ownBlock = some k → k ≠ g) :
    HalfOwn B (w.setCell ⟨g, i * 4 + 3, none⟩ u) v R (A ++ [(R[i].1, u)]) (i + 1) := by
  subst hv
  have hf : Fr w.heap.size (fun k => k = g) w (w.setCell ⟨g, i * 4 + 3, none⟩ u) := Fr.setCell (S := fun k => k = g) (p := ⟨g, i * 4 + 3, none⟩) (Fr.refl _ _ _) (fun _ => rfl) _
  refine ⟨hi, by rw [List.length_append, h.len]; rfl, ?_, ?_, fun x hx => ?_⟩
  · rw [List.map_append, h.fst, List.take_succ_eq_append_getElem hi, List.map_append]
    rfl
  · have h1 := ownsRow_set (i := i * 4 + 3) h.row u
    rw [List.drop_eq_getElem_cons hi] at h1
    have h2 := flat_set A R[i] (R.drop (i + 1)) u
    rw [h.len] at h2
    rw [h2] at h1
    rw [List.append_assoc]
    exact h1
  · rcases List.mem_append.1 hx with hx | hx
    · have h1 := h.ins x hx
      refine ⟨ownsRow_fr h1.1 hf (fun k hk => ⟨(h1.1.lt k hk).2, fun e => h1.2 k hk (by rw [e]; rfl)⟩), h1.2⟩
    · obtain rfl := List.mem_singleton.1 hx
      exact ⟨ownsRow_fr hu hf (fun k hk => ⟨(hu.lt k hk).2, hne k hk⟩), fun k hk e => hne k hk (by simpa [Value.ownBlock] using e.symm)⟩
theorem HalfOwn.whole {B : Nat} {w : World} {v : Value} {R A : List RV} (h : HalfOwn B w v R A R.length) : OwnAt B w v A ∧ A.map Prod.fst = R.map Prod.fst := by
  have h1 := h.fst
  rw [List.take_length] at h1
  have h2 := h.row
  rw [List.drop_length, List.append_nil] at h2
  refine ⟨⟨?_, h.ins⟩, h1⟩
  rw [h.len]
  exact h2
end Go.Proofs.YtgjialbmlhbngaaGreatDoor
