/-
 Two builds, one of the program and one of the reference, are made with one cache each, and leave them. The walk of the law BuildRuns.
-/
import Derived.Test.YtgjialbmlhbngaaGreatDoorRbL
import Derived.Test.YtgjialbmlhbngaaGreatDoorRbK
import Derived.Test.YtgjialbmlhbngaaGreatDoorBdE
import Derived.Test.YtgjialbmlhbngaaGreatDoorBdF
import Derived.Test.YtgjialbmlhbngaaGreatDoorRbE
import Derived.Test.YtgjialbmlhbngaaGreatDoorPkI
import Derived.Test.YtgjialbmlhbngaaGreatDoorPkQ

set_option maxRecDepth 100000
namespace Go.Proofs.YtgjialbmlhbngaaGreatDoor
open Go Go.RowKit Go.Kf Go.Sort Go.Proofs
def CC (pa ra : Option Addr) (pb mb cb : Nat) (lv lvc : Value) (B : Nat) (w : World) : Option CS → Prop
 | none => pa = none ∧ ra = none
 | some c => pa = some ⟨pb, 0, none⟩ ∧ ra = some ⟨cb, 0, none⟩ ∧ CacheAt w pb mb lv c.many c.ks c.mp ∧ (∀ q, foot pb mb lv q → B ≤ q) ∧ RCAt cb lvc B c w ∧ (∀ q, foot pb mb lv q → q ≠ cb ∧ lvc.ownBlock ≠ some q) ∧ COk (some c)
section
variable {pa ra : Option Addr} {pb mb cb : Nat} {lv lvc : Value} {B : Nat} {w w' : World} {c : Option CS}
theorem CC.below (h : CC pa ra pb mb cb lv lvc B w c) (hb : Below w.heap.size w w') : CC pa ra pb mb cb lv lvc B w' c := by
 cases c with
 | none => exact h
 | some c =>
  obtain ⟨h1, h2, h3, h4, h5, h6, h7⟩ := h
  exact ⟨h1, h2, h3.below hb, h4, h5.fr (Q := fun _ => False) (Fr.of_below hb) ⟨h5.lt, id⟩ (fun k hk => ⟨(h5.own k hk).2.1, id⟩), h6, h7⟩
theorem CC.cok (h : CC pa ra pb mb cb lv lvc B w c) : COk c := by
 cases c with
 | none => exact fun c e => by cases e
 | some c => exact h.2.2.2.2.2.2
theorem CC.lt (h : CC pa ra pb mb cb lv lvc B w c) {q : Nat} (hq : cfoot pb mb lv c q) : B ≤ q ∧ q < w.heap.size := by
 cases c with
 | none => exact absurd hq id
 | some c =>
  obtain ⟨h1, h2, h3, h4, h5, h6, h7⟩ := h
  exact ⟨h4 q hq, h3.lt hq⟩
end
section
variable {S : Nat → Addr} {R : List RV} {v lvR : Value} {m L : List Ent} {P : List Nat} {D : BPl} {pa ra : Option Addr} {pb mb : Nat} {lv : Value} {X : RBx} {cb : Nat} {lvc : Value} {base : Nat} {w0 w6 w : World} {c : Option CS} {st : Nat → St}
theorem CC.two (h : CC pa ra pb mb cb lv lvc w0.heap.size w c) (h6 : CC pa ra pb mb cb lv lvc w0.heap.size w6 c) (_ : Below w6.heap.size w6 w) (hz6 : w0.heap.size ≤ w6.heap.size) (hat : BAt S (R.map Prod.fst) P m D w (fun _ => st0)) (hcv : D.cv = .pointer pa) (hD : ∀ q, D.has P q → w6.heap.size ≤ q ∧ q < base)
  (hrb : RBAt X R.length v lvR L P (.pointer ra) base w (fun _ => st0)) (hV : REnv R v m L w0) (hlow : Below w0.heap.size w0 w) (hbase : w6.heap.size ≤ base) :
  Two S R v lvR m L P D pb mb lv X (.pointer ra) cb lvc base w0 c (fun _ => st0) c (fun _ => st0) w := by
 have hcf : ∀ q, cfoot pb mb lv c q → q < w6.heap.size := fun q hq => (h6.lt hq).2
 have hrc : c.isSome = true → cb < w6.heap.size ∧ ∀ k, lvc.ownBlock = some k → k < w6.heap.size := fun hc => by
  cases c with
  | none => cases hc
  | some c =>
   obtain ⟨-, -, -, -, h5, -⟩ := h6
   exact ⟨h5.lt, fun k hk => (h5.own k hk).2.1⟩
 have hap : ∀ q, cfoot pb mb lv c q → c.isSome = true ∧ q ≠ cb ∧ lvc.ownBlock ≠ some q := fun q hq => by
  cases c with
  | none => exact absurd hq id
  | some c => exact ⟨rfl, h.2.2.2.2.2.1 q hq⟩
 have hxb := hrb.base
 refine ⟨BO.made hat (fun q hq => by have := hD q hq; omega) ?_ (fun q hq => (h.lt hq).1) (fun q hq hf => by have := hD q hq; have := hcf q hf; omega) h.cok, ⟨hrb, ?_, h.cok, BInv.zero _ _ _, hV, hlow, by omega⟩, fun q hq hr => ?_⟩
 ·cases c with
  | none => exact hcv.trans (by rw [h.1])
  | some c => exact ⟨hcv.trans (by rw [h.1]), h.2.2.1⟩
 ·cases c with
  | none => show Value.pointer ra = _; rw [h.2]
  | some c =>
   obtain ⟨-, h2, -, -, h5, -⟩ := h
   refine ⟨by rw [h2], by have := hrc rfl; omega, h5, fun k hk hf => ?_⟩
   have := (hrc rfl).2 k hk
   have := (hrb.foot_base k hf).1
   omega
 ·have hq6 : q < base := hq.elim (fun h1 => (hD q h1).2) (fun h1 => by have := hcf q h1; omega)
  rcases hr with (hr | ⟨hc, rfl⟩) | hr | hr | hr | ⟨hc, hr⟩
  ·have := (hrb.foot_base q hr).1; omega
  ·rcases hq with h1 | h1
   ·have := hD q h1; have := (hrc hc).1; omega
   ·exact (hap q h1).2.1 rfl
  ·omega
  ·omega
  ·have := (hrb.tree.row.lt q hr).1; omega
  ·rcases hq with h1 | h1
   ·have := hD q h1; have := (hrc hc).2 q hr; omega
   ·exact (hap q h1).2.2 hr
theorem Two.cc {st2 : Nat → St} (h : Two S R v lvR m L P D pb mb lv X (.pointer ra) cb lvc base w0 c st c st2 w) (hcv : D.cv = .pointer pa) : CC pa ra pb mb cb lv lvc w0.heap.size w c := by
 have h1 := h.bo.cache
 have h2 := h.ro.cache
 cases c with
 | none =>
  have h3 : D.cv = .pointer none := h1
  have h4 : Value.pointer ra = .pointer none := h2
  exact ⟨by rw [hcv] at h3; exact Value.pointer.inj h3, Value.pointer.inj h4⟩
 | some c =>
  obtain ⟨h3, h4⟩ := h1
  obtain ⟨h5, -, h6, -⟩ := h2
  refine ⟨by rw [hcv] at h3; exact Value.pointer.inj h3, Value.pointer.inj h5, h4, fun q hq => h.bo.low q (Or.inr hq), h6, fun q hq => ⟨fun e => h.apart q (Or.inr hq) (Or.inl (Or.inr ⟨rfl, e⟩)), fun e => h.apart q (Or.inr hq) (Or.inr (Or.inr (Or.inr (Or.inr ⟨rfl, e⟩))))⟩, h.bo.cok⟩
end
theorem why_le {l : List RuleL} {P : List Nat} {T : Look} {st : Nat → St} (hi : BInv l P T st) (hre : ∀ j, j ∉ P → st j = st0) (hT : ∀ p b, T p = some b → b.length ≤ 2000) (i : Nat) : (st i).why ≤ 12 := by
 by_cases hP : i ∈ P
 ·have h1 := hi.one i hP
  rcases (show (st i).state = 1 ∨ (st i).state = 2 ∨ (st i).state = 3 ∨ (st i).state = 4 by omega) with h | h | h | h
  ·rw [(hi.wait i hP h).2.2.2]; omega
  ·rw [(hi.done i hP h).2.2]; omega
  ·rw [← (hi.fail i hP h).2.1]
   have := (toldOk_want (l := l) hT (l.getD i noR).out).code
   omega
  ·rw [(hi.left i hP h).2.2.2]; omega
 ·rw [hre i hP]
  show 0 ≤ 12
  omega
theorem runRel_le {l : List RuleL} {P : List Nat} {T : Look} {c c' : Option CS} {st st' : Nat → St} {i : Int} {hit : Bool} {code : Nat} (h : RunRel l P T c st i hit code c' st') : code ≤ 12 := by
 cases h <;> omega
theorem codedN_any (S : Nat → Addr) (code : Nat) (hc : code ≤ 12) (w : World) (hE : ErrW w S) : Calls Tryz.prog 30 #[errN S code, intE code] w fun e w' => e = .returned (.bool true) ∧ Below w.heap.size w w' := by
 refine coded2_any _ _ w ?_
 cases code with
 | zero => exact (code_nil w).mono (fun e w' h => ⟨h.1, h.2 ▸ Below.refl _ _⟩)
 | succ n => exact code_at w S hE n (by omega)
theorem bnewNil_any (v vo : Value) (ca : Option Addr) (w : World) (S : Nat → Addr) (hE : KErr w S) : Calls Tryz.prog 29 #[.pointer none, v, vo, .pointer ca] w fun e w' => e = .returned (.tuple #[.pointer none, errI (S 2)]) ∧ Below w.heap.size w w' := by
 have hs := hE.shape
 go_enter Tryz.func29, Tryz.ntmps29
 go_wp2_with fail
 go_quiet (fail)
 go_wp2
 go_ret2
 exact ⟨rfl, below_drewN (Below.refl _ _) _⟩
theorem ownAt_belowB {B : Nat} {w w' : World} {v : Value} {R : List RV} (h : OwnAt B w v R) (hb : Below w.heap.size w w') : OwnAt B w' v R := ⟨row_below h.1 hb, fun x hx => ⟨row_below (h.2 x hx).1 hb, (h.2 x hx).2⟩⟩
set_option maxHeartbeats 8000000 in
theorem buildRuns_all (fs : List Ent) (vf : Value) (R : List RV) (v : Value) (outs : List (List UInt8)) (vo : Value) (many : Int) (runs : List Int) (vr : Value) (w : World) (S : Nat → Addr) (hfr : ReadsK 2 w vf (fs.map fileRow)) (hr : ReadsK 4 w v (R.map rvRow)) (hi : ∀ x ∈ R, Reads w x.2 (x.1.ins.map str) ∧ NilOr x.2)
  (hO : Reads w vo (outs.map str)) (hOn : NilOr vo) (hrr : Reads w vr (runs.map (Value.int .i64))) (hm : Ml w) (hS : ErrW w S) (hN : NErr w) (ht : Tab w) :
  Calls Tryz.prog 4 #[vf, v, vo, .int .i64 many, vr] w fun e w' => e = .returned (.bool true) ∧ Below w.heap.size w w' := by
 have hE : BErr w S := bErr_of_errW hS
 have hrow : ∀ r ∈ R.map rvRow, r ≠ [] := fun r hr => by obtain ⟨x, -, rfl⟩ := List.mem_map.1 hr; simp [rvRow]
 have hrowf : ∀ r ∈ fs.map fileRow, r ≠ [] := fun r hr => by obtain ⟨x, -, rfl⟩ := List.mem_map.1 hr; simp [fileRow]
 obtain ⟨a, c, hv, hle, -⟩ := id hr
 rw [List.length_map] at hv hle
 subst hv
 obtain ⟨ar, cr, hvr, hler, -⟩ := id hrr
 rw [List.length_map] at hvr hler
 subst hvr
 have KW := Hd (built_any w S hm hE hN ht)
 have KLF := Hd (fun w1 (hb : Below w.heap.size w w1) => longFiles2_any vf fs w1 (readsK_below0 hfr hrowf hb))
 have KL := Hd (fun w1 (hb : Below w.heap.size w w1) => longRules_any R (.slice a R.length c) 12 w1 (readsK_below0 hr hrow hb) (fun x hx => (hi x hx).1.below0 hb) (by decide))
 have KLT := Hd (fun w1 (hb : Below w.heap.size w w1) => longTexts_any vo outs 10 300 w1 (hO.below0 hb) (by decide) (by decide))
 have KT := Hd (fun w1 (hb : Below w.heap.size w w1) (hF : FewFiles fs) => fileTree2_any vf fs w1 S (readsK_below0 hfr hrowf hb) hF (hm.below hb (Nat.le_refl _)) (hE.below hb).t)
 have KO := Hd (fun w1 (hb : Below w.heap.size w w1) (hs : ∀ x ∈ R, ShortR x.1) (hn : R.length ≤ 1000) => ownRules_any R (.slice a R.length c) w1 (readsK_below0 hr hrow hb) (fun x hx => ⟨(hi x hx).1.below0 hb, (hi x hx).2, by have := (hs x hx).2.2.2.1; omega⟩) hn)
 have KOT := Hd (fun w1 (hb : Below w.heap.size w w1) (hl : outs.length ≤ 1000) => own_textsR vo outs w1 (hO.below0 hb) hOn hl)
 have KB := Hd (fun w1 (hb : Below w.heap.size w w1) (tb mb : Nat) (m : List Ent) (R' : List RV) (v' : Value) (outs : List (List UInt8)) (vo : Value) (ca : Option Addr) (h : ∃ B, OwnAt B w1 v' R') (hs : ∀ x ∈ R', ShortR x.1) (h2 : R'.length ≤ 1000) (hT : TAt w1 tb mb m) (hO : Reads w1 vo (outs.map str)) (ho : outs.length ≤ 1000) =>
  bnew_any (S := S) w1 outs vo ca (own_rulesT h).1 (own_rulesT h).2 hT hO ho (hm.below hb (Nat.le_refl _)) (hE.below hb).k (hE.below hb).l (hN.below hb (Nat.le_refl _)) (tab_below ht hb (Nat.le_refl _)) (short_bounds hs) h2)
 have KBN := Hd (fun w1 (hb : Below w.heap.size w w1) => bnewNil_any (.slice a R.length c) vo none w1 S (hE.below hb).k)
 have KCD := Hd (fun w1 (hb : Below w.heap.size w w1) (code : Nat) (hc : code ≤ 12) => codedN_any S code hc w1 (hS.below hb (Nat.le_refl _)))
 have KC2 := Hd (fun w1 (hb : Below w.heap.size w w1) => coded2_any (errI (S 2)) 3 w1 (code_at w1 S (hS.below hb (Nat.le_refl _)) 2 (by decide)))
 have KBF := Hd (fun w1 (hb : Below w.heap.size w w1) (hs : ∀ x ∈ R, ShortR x.1) (hn : R.length ≤ 1000) (ho : outs.length ≤ 1000) => bfault_any R (.slice a R.length c) outs vo w1 (readsK_below0 hr hrow hb) (fun x hx => (hi x hx).1.below0 hb) (hO.below0 hb) (short_bounds hs) hn ho)
 have KRN := Hd (fun w1 (hb : Below w.heap.size w w1) (base rb : Nat) (lv : Value) (L : List Ent) (cp : Option Addr) (hR : RightS (R.map Prod.fst)) (hn : R.length ≤ 1000) (ho : outs.length ≤ 1000) (hall : ∀ s ∈ outs, s ∈ (R.map Prod.fst).map RuleL.out) (hT : RTAt base w1 rb lv L) (hL : L.length ≤ 1000) => rnew_any R (.slice a R.length c) outs vo base rb lv L cp w1 (readsK_below0 hr hrow hb) (fun x hx => (hi x hx).1.below0 hb) (hO.below0 hb) hR hn ho hall hT hL)
 have HEV := Hd (fun (m L : List Ent) (hT : Tw m L) (hs : ∀ x ∈ R, ShortR x.1) (hn : R.length ≤ 1000) => (⟨hr, fun x hx => (hi x hx).1, hT, (fun r hr => by
  obtain ⟨x, hx, rfl⟩ := List.mem_map.1 hr
  obtain ⟨h1, h2, h3, h4⟩ := hs x hx
  exact ⟨by omega, by omega, by omega, fun s hs => by have := h4.2.1 s hs; omega, by have := h4.1; omega⟩), hn⟩ : REnv R (.slice a R.length c) m L w))
 have HRC := Hd (fun w1 (hb : Below w.heap.size w w1) => ((⟨readsK_below0 hr hrow hb, fun x hx => (hi x hx).1.below0 hb⟩ : ReadsK 4 w1 (.slice a R.length c) (R.map rvRow) ∧ ∀ x ∈ R, Reads w1 x.2 (x.1.ins.map str))))
 have HRR := Hd (fun w1 (hb : Below w.heap.size w w1) => hrr.below0 hb)
 have HE := Hd ((⟨hm, hE, hN, ht⟩ : Ml w ∧ BErr w S ∧ NErr w ∧ Tab w))
 have HSW := Hd (fun w1 (hb : Below w.heap.size w w1) => hS.below hb (Nat.le_refl _))
 have hbd := hE.k.bound
 have hml : (R.map Prod.fst).length = R.length := List.length_map _
 have HML := Hd hml
 have HBD := Hd (fun w1 (hb : Below w.heap.size w w1) => (hE.below hb).k.bound)
 clear hfr hr hi hm hE hS hN ht hrow hrowf hml hrr hO hOn hbd
 go_enter Tryz.func4, Tryz.ntmps4
 go_wp2_with fail
 refine KW.out.mono ?_
 rintro e w1 ⟨rfl, hb1⟩
 have HB1 := Hd hb1
 clear hb1
 go_wp2_with fail
 refine (KLF.out w1 HB1.out).mono ?_
 rintro e w2 ⟨rfl, rfl | ⟨rfl, hff⟩⟩
 ·go_wp2
  go_ret
  exact ⟨rfl, HB1.out⟩
 have HFF := Hd hff
 clear hff
 go_wp2_with fail
 refine (KL.out w1 HB1.out).mono ?_
 rintro e w2 ⟨rfl, rfl | ⟨rfl, hn, hs⟩⟩
 ·go_wp2
  go_ret
  exact ⟨rfl, HB1.out⟩
 have HS := Hd hs
 have hn12 : R.length ≤ 41 := by omega
 clear hn hs
 go_wp2_with fail
 refine (KLT.out w1 HB1.out).mono ?_
 rintro e w2 ⟨rfl, rfl | ⟨rfl, hf1⟩⟩
 ·go_wp2
  go_ret
  exact ⟨rfl, HB1.out⟩
 obtain ⟨ho10, -⟩ := hf1
 by_cases hol : 60 < runs.length
 ·have hol2 : (60 < (runs.length : Int)) = True := eq_true (by omega)
  go_wp2
  go_ret
  exact ⟨rfl, HB1.out⟩
 have hol2 : (60 < (runs.length : Int)) = False := eq_false (by omega)
 have KT1 := Hd (KT.out w1 HB1.out HFF.out)
 go_wp2_with fail
 refine KT1.out.mono ?_
 rintro e w2 ⟨tb, mb, rb, lvt, rfl, htc⟩
 have HTW := Hd (files_tw' HFF.out)
 have HB2 := Hd (HB1.out.trans (htc.b.mono HB1.out.size))
 have HT2 := Hd htc.t
 have HRT2 := Hd htc.r
 generalize hfm : filesM fs = m at *
 generalize hfl : filesL fs = L at *
 clear htc hfm hfl KT1
 go_wp2_with fail
 refine (KBN.out w2 HB2.out).mono ?_
 rintro e w3 ⟨rfl, hb3⟩
 have HB3 := Hd (HB2.out.trans (hb3.mono HB2.out.size))
 have HT3 := Hd (HT2.out.below hb3)
 have HRT3 := Hd (HRT2.out.below hb3)
 clear hb3
 go_wp2_with fail
 refine (KC2.out w3 HB3.out).mono ?_
 rintro e w4 ⟨rfl, hb4⟩
 have HB4 := Hd (HB3.out.trans (hb4.mono HB3.out.size))
 have HT4 := Hd (HT3.out.below hb4)
 have HRT4 := Hd (HRT3.out.below hb4)
 clear hb4
 -- the caches
 have KBD := Hd (HBD.out w4 HB4.out)
 have hz04 := HB4.out.size
 by_cases hmn : many < 1 ∨ 100 < many
 case' pos =>
  have KC := Hd (new_bad many w4 (errV (S 1)) hmn KBD.out)
  go_wp2_with fail
  refine KC.out.mono ?_
  rintro e w5 ⟨rfl, q, rfl⟩
  obtain ⟨pa, hpa⟩ : ∃ x : Option Addr, x = none := ⟨_, rfl⟩
  obtain ⟨ra, hra⟩ : ∃ x : Option Addr, x = none := ⟨_, rfl⟩
  obtain ⟨c0, hc0⟩ : ∃ c : Option CS, c = none := ⟨_, rfl⟩
  obtain ⟨pb, hpb⟩ : ∃ x : Nat, x = 0 := ⟨_, rfl⟩
  obtain ⟨cm, hcm⟩ : ∃ x : Nat, x = 0 := ⟨_, rfl⟩
  obtain ⟨cb, hcb⟩ : ∃ x : Nat, x = 0 := ⟨_, rfl⟩
  have HB5 : Hid (Below w4.heap.size w4 (w4.drewN q)) := Hd (below_drewN (Below.refl _ _) q)
  have HCC : Hid (CC pa ra pb cm cb (.slice none 0 0) (.slice none 0 0) w4.heap.size (w4.drewN q) c0) := Hd (by rw [hc0]; exact ⟨hpa, hra⟩)
  generalize w4.drewN q = wX at *
  have HPA := Hd hpa
  have HRA := Hd hra
  clear KC hpb hcm hcb hc0 hpa hra
  go_wp2_with fail
 case' neg =>
  obtain ⟨mn, rfl⟩ : ∃ k : Nat, many = k := ⟨many.toNat, by omega⟩
  have HMN : Hid (1 ≤ mn ∧ mn ≤ 100) := Hd (by omega)
  have KC := Hd (new_ok mn w4 HMN.out.1 HMN.out.2)
  go_wp2_with fail
  refine KC.out.mono ?_
  rintro e w5 ⟨pb, cm, rfl, hpb, hcm, hC5, hb5⟩
  obtain ⟨wX, hwX⟩ : ∃ W, w5.alloc (.cells #[.int .i64 (mn : Int), .slice none 0 0] 68) = W := ⟨_, rfl⟩
  obtain ⟨cb, hcb⟩ : ∃ x : Nat, x = w5.heap.size := ⟨_, rfl⟩
  obtain ⟨pa, hpa⟩ : ∃ x : Option Addr, x = some ⟨pb, 0, none⟩ := ⟨_, rfl⟩
  obtain ⟨ra, hra⟩ : ∃ x : Option Addr, x = some ⟨w5.heap.size, 0, none⟩ := ⟨_, rfl⟩
  obtain ⟨c0, hc0⟩ : ∃ c : Option CS, c = some ⟨mn, [], []⟩ := ⟨_, rfl⟩
  have hAX : Below w5.heap.size w5 wX := hwX ▸ (Below.refl _ w5).alloc (Nat.le_refl _) _
  have hVX : wX.heap[w5.heap.size]? = some (.cells #[.int .i64 (mn : Int), .slice none 0 0] 68 (0, 0)) := hwX ▸ heap_alloc_here w5 _
  have HB5 : Hid (Below w4.heap.size w4 wX) := Hd (hb5.trans (hAX.mono hb5.size))
  have HCC : Hid (CC pa ra pb cm cb (.slice none 0 0) (.slice none 0 0) w4.heap.size wX c0) := Hd (by
   have hft : ∀ q, foot pb cm (.slice none 0 0) q → w4.heap.size ≤ q ∧ q < w5.heap.size := fun q hq => by
    have h5 := hC5.lt hq
    rcases hq with rfl | rfl | hq
    ·exact ⟨hpb, h5⟩
    ·exact ⟨hcm, h5⟩
    ·cases hq
   rw [hc0]
   refine ⟨hpa, by rw [hra, hcb], hC5.below hAX, fun q hq => (hft q hq).1, ⟨by rw [hcb]; exact hb5.size, ⟨[], ⟨by rw [hcb]; exact hVX, ?_⟩, Twin.init mn⟩, fun k hk => by cases hk⟩, fun q hq => ⟨by have := (hft q hq).2; omega, fun e => by cases e⟩, ?_⟩
   ·exact ⟨none, 0, rfl, by simp, fun i row h => by simp at h⟩
   ·intro c1 h1
    cases h1
    exact ⟨CSt.zero HMN.out.1 HMN.out.2, fun k w ins b h => by simp [mlook] at h⟩)
  have HPA := Hd hpa
  have HRA := Hd hra
  have HWX := Hd hwX
  clear KC hpb hcm hcb hc0 hpa hra hC5 hb5 hAX hVX hwX
  go_wp2_with fail
  rw [HWX.out]
 all_goals
  go_loopw [18] (fun kv wl => ∃ (k : Nat) (c1 : Option CS) (lv1 lvc1 : Value), k ≤ 2 ∧ kv = .int .i64 k ∧ CC pa ra pb cm cb lv1 lvc1 w4.heap.size wl c1 ∧ Below w4.heap.size w4 wl) (fun kv _ => 2 - (intOf kv).toNat)
  case atStart => exact ⟨0, c0, _, _, by omega, rfl, HCC.out, HB5.out⟩
  case round =>
   obtain ⟨k, c1, lv1, lvc1, hk, rfl, hcc, hbl⟩ := hrel
   have HCR := Hd hcc
   have HBL := Hd hbl
   have HWL := Hd (HB4.out.trans (hbl.mono hz04))
   have hzr := hbl.size
   by_cases hlt : k < 2
   ·have hlc : ((k : Int) < 2) = True := eq_true (by omega)
    have KO6 := Hd (KO.out wr HWL.out HS.out (by omega))
    clear hcc hbl
    go_wp2_with fail
    refine KO6.out.mono ?_
    rintro e w6 ⟨v6, R6, rfl, he6, ho6, hb6⟩
    have HL6 := Hd (HBL.out.trans (hb6.mono hzr))
    have HW6 := Hd (HB4.out.trans (HL6.out.mono hz04))
    have hl6 : R6.length = R.length := by have := congrArg List.length he6; simpa using this
    have HO6 := Hd ho6
    have HE6 := Hd he6
    have HC6 := Hd (HCR.out.below hb6)
    have hz6 := HL6.out.size
    clear hb6 KO6 ho6 he6
    go_wp2_with fail
    refine (KOT.out w6 HW6.out (by omega)).mono ?_
    rintro e w7 ⟨v7, rfl, hro7, hrd7, hb7⟩
    have HL7 := Hd (HL6.out.trans (hb7.mono hz6))
    have HW7 := Hd (HB4.out.trans (HL7.out.mono hz04))
    have HC7 := Hd (HC6.out.below hb7)
    have KB7 := Hd (KB.out w7 HW7.out tb mb m R6 v6 outs v7 pa ⟨_, ownAt_belowB HO6.out hb7⟩ (short_other HS.out HE6.out) (by omega) (HT4.out.below HL7.out) hrd7 (by omega))
    have hz7 := HL7.out.size
    rw [HE6.out, HPA.out] at KB7
    clear hb7 hro7 hrd7
    go_wp2_with fail
    refine KB7.out.mono ?_
    rintro e w8 ⟨ha8, hb8⟩
    have HL8 := Hd (HL7.out.trans (hb8.mono hz7))
    have HW8 := Hd (HB4.out.trans (HL8.out.mono hz04))
    have HC8 := Hd (HC7.out.below hb8)
    have HA := Hd ha8
    have KB9 := Hd (KBF.out w8 HW8.out HS.out (by omega) (by omega))
    have hz8 := HL8.out.size
    have HR78 := Hd hb8
    clear hb8 KB7
    rcases ha8 with ⟨T, x, rfl, -⟩ | ⟨ks0, N0, o0, D0, -, -, -, -, rfl, -⟩
    ·go_wp2_with fail
     refine KB9.out.mono ?_
     rintro e w9 ⟨⟨cd, pd, hf, rfl⟩, hb9⟩
     have hcd := (new_code HA.out hf).1
     have HW9 := Hd (HW8.out.trans (hb9.mono HW8.out.size))
     obtain ⟨W9, hW9⟩ : ∃ W, w9.alloc (.cells #[.int .i64 (cd : Int), .int .i64 pd] 71) = W := ⟨_, rfl⟩
     have hA9 : Below w9.heap.size w9 W9 := hW9 ▸ (Below.refl _ w9).alloc (Nat.le_refl _) _
     have hg9 : W9.heap[w9.heap.size]? = some (.cells #[.int .i64 (cd : Int), .int .i64 pd] 71 (0, 0)) := hW9 ▸ heap_alloc_here w9 _
     have HWB := Hd (HW9.out.trans (hA9.mono HW9.out.size))
     have KFA := Hd (faulted2_any (.iface T x) cd pd W9 (fun w1 hb1 => (new_code HA.out hf).2 w1 ((hb9.trans (hA9.mono hb9.size)).trans (hb1.mono (Nat.le_trans hb9.size hA9.size))) (HSW.out w1 (HWB.out.trans (hb1.mono HWB.out.size)))))
     have hc0 : W9.cell? ⟨w9.heap.size, 0, none⟩ = some (.int .i64 (cd : Int)) := (cell_of_heap hg9 0).trans rfl
     have hc1 : W9.cell? ⟨w9.heap.size, 1, none⟩ = some (.int .i64 pd) := (cell_of_heap hg9 1).trans rfl
     have hpos : (0 < (cd : Int)) = True := eq_true (by omega)
     have HW9E := Hd hW9
     clear hf hb9 hA9 hg9 hW9
     unfold faultV
     go_wp2_with fail
     try rw [HW9E.out]
     refine KFA.out.mono ?_
     rintro e wa ⟨rfl, hba⟩
     have HBA := Hd (HWB.out.trans (hba.mono HWB.out.size))
     clear hba
     go_wp2
     go_ret
     exact ⟨by rfl, HBA.out⟩
    ·go_wp2_with fail
     refine KB9.out.mono ?_
     rintro e w9 ⟨⟨cd, pd, hf, rfl⟩, hb9⟩
     have HL9 := Hd (HL8.out.trans (hb9.mono hz8))
     obtain ⟨hcd, hall, P, o, D, ks, hpl, hPR, hord, hed, hcv, hat, hD⟩ : cd = 0 ∧ (∀ s ∈ outs, s ∈ (R.map Prod.fst).map RuleL.out) ∧ ∃ P o D ks, PlacesAt (R.map Prod.fst) outs ks ∧ (∀ k, k ∈ P ↔ Reach (edgesB (R.map Prod.fst)) ks k) ∧ Ord (R.map Prod.fst) P o ∧ D.b = D0.b ∧ D.cv = .pointer pa ∧ BAt S (R.map Prod.fst) P m D w8 (fun _ => st0) ∧ ∀ k, D.has P k → w7.heap.size ≤ k := by
      rw [HPA.out]
      rcases new_fault HA.out hf with ⟨-, T, x, h⟩ | ⟨h1, h2, P, o, D, ks, h3, h4, h5, h6, h7, h8, h9⟩
      ·simp at h
      ·exact ⟨h1, h2, P, o, D, ks, h3, h4, h5, by simpa using h6.symm, h7, h8, h9⟩
     subst hcd
     rw [← hed]
     obtain ⟨W9, hW9⟩ : ∃ W, w9.alloc (.cells #[.int .i64 0, .int .i64 pd] 71) = W := ⟨_, rfl⟩
     have hA9 : Below w9.heap.size w9 W9 := hW9 ▸ (Below.refl _ w9).alloc (Nat.le_refl _) _
     have hg9 : W9.heap[w9.heap.size]? = some (.cells #[.int .i64 0, .int .i64 pd] 71 (0, 0)) := hW9 ▸ heap_alloc_here w9 _
     have hc0 : W9.cell? ⟨w9.heap.size, 0, none⟩ = some (.int .i64 0) := (cell_of_heap hg9 0).trans rfl
     have hc1 : W9.cell? ⟨w9.heap.size, 1, none⟩ = some (.int .i64 pd) := (cell_of_heap hg9 1).trans rfl
     have h89 : Below w8.heap.size w8 W9 := hb9.trans (hA9.mono hb9.size)
     have HL9A := Hd (HL8.out.trans (h89.mono hz8))
     have HW9A := Hd (HB4.out.trans (HL9A.out.mono hz04))
     have HC9 := Hd (HC8.out.below h89)
     have HPL := Hd hpl
     have HPR := Hd hPR
     have HORD := Hd hord
     have HAT9 := Hd (hat.below h89)
     have HDQ : Hid (∀ q, D.has P q → w7.heap.size ≤ q ∧ q < W9.heap.size) := Hd (fun q hq => ⟨hD q hq, (hat.below h89).lt hq⟩)
     have hLn := HTW.out.many
     have KRN9 := Hd (KRN.out W9 HW9A.out _ rb lvt L ra hord.ok.right (by omega) (by omega) hall (HRT4.out.below HL9A.out) (by have := HTW.out.perm.length_eq; omega))
     rw [HRA.out] at KRN9
     have HCV := Hd hcv
     have HW9E := Hd hW9
     have hz9 := HL9A.out.size
     have HR79 := Hd (HR78.out.trans (h89.mono HR78.out.size))
     clear hf hb9 hA9 hg9 hall hpl hPR hord hat hD hed HA h89 hW9 hcv
     unfold faultV
     go_wp2_with fail
     try rw [HW9E.out]
     refine KRN9.out.mono ?_
     rintro e wa ⟨X, lvR, ksa, rfl, hpla, hrba, hba⟩
     have HRB := Hd (hrba P (fun k => by
      rw [HPR.out k]
      exact reach_congr (places_same HORD.out.ok.right.2 HPL.out hpla) k))
     have HLA := Hd (HL9A.out.trans (hba.mono hz9))
     have HTWO : Hid (Two S R (.slice a R.length c) lvR m L P D pb cm lv1 X (.pointer ra) cb lvc1 W9.heap.size w4 c1 (fun _ => st0) c1 (fun _ => st0) wa) := Hd (by
      have hrb := HRB.out
      rw [← HRA.out] at hrb
      exact CC.two (HC9.out.below hba) HC7.out (HR79.out.trans (hba.mono HR79.out.size)) hz7 (HAT9.out.below hba) HCV.out HDQ.out hrb ((HEV.out m L HTW.out HS.out (by omega)).below HB4.out) HLA.out HR79.out.size)
     have HVE : Hid (BEnv S (R.map Prod.fst) m w4) := Hd ((once_env HS.out (tw_bound HTW.out) HE.out).below HB4.out)
     clear hpla hrba hba KRN9
     go_wp2_with fail
     go_loopw [23] (fun iv wl => ∃ (j : Nat) (c2 : Option CS) (st2 : Nat → St) (lv2 lvc2 : Value), j ≤ runs.length ∧ iv = .int .i64 j ∧ Two S R (.slice a R.length c) lvR m L P D pb cm lv2 X (.pointer ra) cb lvc2 W9.heap.size w4 c2 st2 c2 st2 wl ∧ (∀ q, q ∉ P → st2 q = st0)) (fun iv _ => runs.length - (intOf iv).toNat)
     case atStart => exact ⟨0, c1, _, lv1, lvc1, by omega, rfl, HTWO.out, fun _ _ => rfl⟩
     case round =>
      obtain ⟨j, c2, st2, lv2, lvc2, hj, rfl, htw, hrs⟩ := hrel
      have HTR := Hd htw
      have HRS := Hd hrs
      have HWR := Hd (HB4.out.trans (htw.ro.low.mono hz04))
      by_cases hltj : j < runs.length
      ·have hlcj : ((j : Int) < (runs.length : Int)) = True := eq_true (by omega)
       have HIX : Hid (∀ wl, Below w.heap.size w wl → ∃ b o, (∀ w', (Instr.indexAt 53 (.slice ar runs.length cr) (.int .i64 (j : Int))).run Tryz.prog w' = .ok (.pointer (some ⟨b, o, none⟩)) w') ∧ wl.cell? ⟨b, o, none⟩ = some (.int .i64 runs[j])) := Hd (fun wl hb => by
        obtain ⟨b, o, h1, h2⟩ := (HRR.out wl hb).at (P := Tryz.prog) Tryz.underlying53 (by kernel_rfl) j (by simpa using hltj)
        simp only [List.getElem_map] at h2
        exact ⟨b, o, h1, h2⟩)
       generalize runs[j] = z at *
       obtain ⟨b1, o1, hix1, hce1⟩ := HIX.out wr HWR.out
       have KRU := Hd (brun_any wr htw.bo HORD.out w4 rfl HVE.out htw.ro.low z)
       clear htw hrs
       go_wp2_with fail
       refine KRU.out.mono ?_
       rintro e wb ⟨hit, code, c3, st3, lv3, rfl, hrel, hbo, htu⟩
       have HREL := Hd hrel
       have HT3 := Hd (HTR.out.left hbo htu)
       have HW3 := Hd (HB4.out.trans (HT3.out.ro.low.mono hz04))
       clear hix1 hce1 hrel hbo htu KRU
       obtain ⟨b1, o1, hix1, hce1⟩ := HIX.out wb HW3.out
       have KRR := Hd (rrunO_any HT3.out.ro HORD.out z)
       go_wp2_with fail
       refine KRR.out.mono ?_
       rintro e wc ⟨hit2, code2, c4, st4, lvc4, rfl, hrel, hro, hfr, hlv, hsm⟩
       obtain ⟨e1, e2, e3, e4⟩ := HREL.out.one HORD.out.ok hrel
       subst e1 e2 e3 e4
       have HT4 := Hd (HT3.out.right hro hfr hlv hsm)
       have HW4 := Hd (HB4.out.trans (HT4.out.ro.low.mono hz04))
       have KC4 := Hd (KCD.out wc HW4.out code (runRel_le HREL.out))
       have HRS3 : Hid (∀ q, q ∉ P → st3 q = st0) := Hd (fun q hq => (HREL.out.steps.rest q hq).trans (HRS.out q hq))
       generalize errN S code = ev at *
       clear hix1 hce1 hrel hro hfr hlv hsm KRR
       go_wp2_with fail
       refine KC4.out.mono ?_
       rintro e wd ⟨rfl, hbd⟩
       have HT5 := Hd (HT4.out.below hbd)
       clear hbd
       cases hit
       all_goals
        go_wp2
        go_roundw
        case rel => exact ⟨j + 1, c3, st3, lv3, lvc4, by omega, by go_num, HT5.out, HRS3.out⟩
        case measure => simp [intOf]; omega
      ·obtain rfl : j = runs.length := by omega
       have hlcj : ((runs.length : Int) < (runs.length : Int)) = False := eq_false (by omega)
       have HLN : Hid (∀ r ∈ R.map Prod.fst, r.ins.length ≤ 1000) := Hd HVE.out.lens
       have KAS : Hid (∀ (wl : World) (c2 : Option CS) (st2 : Nat → St) (lv2 lvc2 : Value), Two S R (.slice a R.length c) lvR m L P D pb cm lv2 X (.pointer ra) cb lvc2 W9.heap.size w4 c2 st2 c2 st2 wl → (∀ q, q ∉ P → st2 q = st0) → Calls Tryz.prog 38 #[ptrV D.b, ptrV X.b] wl fun e w' => e = .returned (.bool true) ∧ Below wl.heap.size wl w') := Hd (fun wl c2 st2 lv2 lvc2 h hr => by
        have hbw := HB4.out.trans (h.ro.low.mono hz04)
        exact asBuild_any h.bo.at_ h.ro.at_ h.bo.inv hr HORD.out.ok (HRC.out wl hbw).1 (HRC.out wl hbw).2 (by omega) HLN.out (fun w1 hb i => KCD.out w1 (hbw.trans (hb.mono hbw.size)) _ (why_le h.bo.inv hr (tw_bound HTW.out) i)))
       have KA1 := Hd (KAS.out wr c2 st2 lv2 lvc2 htw hrs)
       clear htw hrs
       go_wp2_with fail
       refine KA1.out.mono ?_
       rintro e wb ⟨rfl, hbb⟩
       have HT2 := Hd (HTR.out.below hbb)
       have KBA := Hd (ball_any wb HT2.out.bo HORD.out w4 rfl HVE.out HT2.out.ro.low)
       clear hbb KA1
       go_wp2_with fail
       refine KBA.out.mono ?_
       rintro e wc ⟨js, c3, st3, lv3, rfl, har, hbo, htu⟩
       have HAR := Hd har
       have HT3 := Hd (HT2.out.left hbo htu)
       have KRA := Hd (rallO_any HT3.out.ro HORD.out)
       clear har hbo htu KBA
       go_wp2_with fail
       refine KRA.out.mono ?_
       rintro e wd ⟨u, js2, c4, st4, lvc4, rfl, har, hown, hro, hfr, hlv, hsm⟩
       obtain ⟨e1, e2, e3⟩ := HAR.out.one HORD.out.ok har
       subst e1 e2 e3
       have HT4 := Hd (HT3.out.right hro hfr hlv hsm)
       have HRS3 : Hid (∀ q, q ∉ P → st3 q = st0) := Hd (fun q hq => (HAR.out.steps.1.rest q hq).trans (HRS.out q hq))
       have KA2 := Hd (KAS.out wd c3 st3 lv3 lvc4 HT4.out HRS3.out)
       clear har hown hro hfr hlv hsm KRA
       go_wp2_with fail
       refine KA2.out.mono ?_
       rintro e we ⟨rfl, hbe⟩
       have HT5 := Hd (HT4.out.below hbe)
       clear hbe KA2
       go_wp2
       go_roundw
       case rel => exact ⟨k + 1, c3, lv3, lvc4, by omega, by go_num, HT5.out.cc HCV.out, HT5.out.ro.low⟩
       case measure => simp [intOf]; omega
   ·obtain rfl : k = 2 := by omega
    have hlc : ((2 : Int) < 2) = False := eq_false (by omega)
    clear hcc hbl
    go_wp2
    go_ret
    exact ⟨rfl, HWL.out⟩
end Go.Proofs.YtgjialbmlhbngaaGreatDoor
