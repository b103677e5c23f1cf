/-
  The reference's build: Run, with a cache or with none. The reference's build: All, with a cache or with none.
-/
import Derived.Test.YtgjialbmlhbngaaGreatDoorRbC
import Derived.Test.YtgjialbmlhbngaaGreatDoorRbI
import Derived.Test.YtgjialbmlhbngaaGreatDoorRbD

namespace Go.Proofs.YtgjialbmlhbngaaGreatDoor
open Go Go.RowKit Go.Kf Go.Sort Go.Proofs
theorem zpc {s:Nat} {w w':World} {v:Value} {xs:List (List Value)} {N:Nat} {Q:Nat→Prop} (h:ReadsK s w v xs) (hf:Fr N Q w w') (ho:∀ k,v.ownBlock=some k→k<N∧¬ Q k):ReadsK s w' v xs:=by
 obtain⟨a,cap,rfl,hle,h⟩:=h;refine⟨a,cap,rfl,hle,fun i row hi=>?_⟩
 obtain⟨b,o,rfl,hcell⟩:=h i row hi;exact⟨b,o,rfl,fun j x hj=>(hf.cell (p:=⟨b,o+i*s+j,none⟩) (ho b rfl).1 (ho b rfl).2).trans (hcell j x hj)⟩
structure RCAt (cb:Nat) (lvc:Value) (B:Nat) (c:CS) (w:World):Prop where
 low:B≤cb
 at_:∃ es,RefAt w cb lvc c.many es∧Twin c.many c.ks c.mp es
 own:∀ k,lvc.ownBlock=some k→B≤k∧k<w.heap.size∧k≠cb
theorem RCAt.lt {cb:Nat} {lvc:Value} {B:Nat} {c:CS} {w:World} (h:RCAt cb lvc B c w):cb<w.heap.size:=by
 obtain⟨es,h1,-⟩:=h.at_;exact zab h1.blk
theorem RCAt.fr {cb:Nat} {lvc:Value} {B:Nat} {c:CS} {w w':World} (h:RCAt cb lvc B c w) {N:Nat} {Q:Nat→Prop} (hf:Fr N Q w w') (hq:cb<N∧¬ Q cb) (ho:∀ k,lvc.ownBlock=some k→k<N∧¬ Q k):RCAt cb lvc B c w':=by
 obtain⟨es,h1,h2⟩:=h.at_;refine⟨h.low,⟨es,⟨(hf.block cb hq.1 hq.2).trans h1.blk,zpc h1.row hf ho⟩,h2⟩,fun k hk=>⟨(h.own k hk).1,?_,(h.own k hk).2.2⟩⟩
 have h3:=(h.own k hk).2.1;have h4:=hf.size;omega
def RCO (X:RBx) (cv:Value) (cb:Nat) (lvc:Value) (B base:Nat) (w:World):Option CS→Prop
 | none=>cv=.pointer none
 | some c=>cv=ptrV cb∧cb<base∧RCAt cb lvc B c w∧∀ k,lvc.ownBlock=some k→¬ X.foot k
def zcl (X:RBx) (cb:Nat) (b:Bool) (q:Nat):Prop:=X.foot q∨(b=true∧q=cb)
theorem RBAt.foot_base {X:RBx} {n:Nat} {v lv:Value} {L:List Ent} {P:List Nat} {cv:Value} {base:Nat} {w:World} {st:Nat→St} (h:RBAt X n v lv L P cv base w st):∀ q,X.foot q→base≤q∧q<w.heap.size:=by
 obtain⟨-,-,b3,b4,b5,b6⟩:=h.base;rintro q (rfl | rfl | rfl | rfl)
 ·exact⟨b3,h.state.lt⟩
 ·exact⟨b4,h.out.lt⟩
 ·exact⟨b5,h.hit.lt⟩
 ·exact⟨b6,h.why.lt⟩
theorem RCO.fr {X:RBx} {cv:Value} {cb:Nat} {lvc:Value} {B base:Nat} {w w':World} {c:Option CS} (h:RCO X cv cb lvc B base w c) (hX:∀ q,X.foot q→base≤q) {Q:Nat→Prop} (hf:Fr w.heap.size Q w w') (hQ:∀ q,q<w.heap.size→Q q→X.foot q):RCO X cv cb lvc B base w' c:=by
 cases c with
 | none=>exact h
 | some c =>
  obtain⟨h1,h2,h3,h4⟩:=h;refine⟨h1,h2,h3.fr hf ⟨h3.lt,fun hs=>?_⟩ (fun k hk=>⟨(h3.own k hk).2.1,fun hs=>h4 k hk (hQ k (h3.own k hk).2.1 hs)⟩),h4⟩
  have:=hX _ (hQ _ h3.lt hs);omega
theorem RCO.below {X:RBx} {cv:Value} {cb:Nat} {lvc:Value} {B base:Nat} {w w':World} {c:Option CS} (h:RCO X cv cb lvc B base w c) (hb:Below w.heap.size w w'):RCO X cv cb lvc B base w' c:=by
 cases c with
 | none=>exact h
 | some c =>
  obtain⟨h1,h2,h3,h4⟩:=h;exact⟨h1,h2,h3.fr (Q:=fun _=>False) (Fr.of_below hb) ⟨h3.lt,id⟩ (fun k hk=>⟨(h3.own k hk).2.1,id⟩),h4⟩
inductive RRunPostC (X:RBx) (n:Nat) (v lv lvc:Value) (l:List RuleL) (T:Look) (L:List Ent) (P:List Nat) (cv:Value) (cb B base:Nat) (w:World) (c:Option CS) (st:Nat→St) (i:Int):Ending→World→Prop
 | mk {hit:Bool} {code:Nat} {c':Option CS} {st':Nat→St} {lvc':Value} {w':World}:RunRel l P T c st i hit code c' st'→RBAt X n v lv L P cv base w' st'→RCO X cv cb lvc' B base w' c'→Fr w.heap.size (zcl X cb c.isSome) w w'→(∀ k,lvc'.ownBlock=some k→lvc.ownBlock=some k∨w.heap.size≤k) →
   RRunPostC X n v lv lvc l T L P cv cb B base w c st i (.returned (.tuple #[.bool hit, .int .i64 ((code:Nat):Int)])) w'
theorem RCO.had {X:RBx} {cb:Nat} {lvc lv':Value} {B base:Nat} {w w':World} {c c':CS} {es':List EntL} (h:RCO X (ptrV cb) cb lvc B base w (some c)) (hX:∀ q,X.foot q→q<w.heap.size) (hF:Fr w.heap.size (fun k=>k=cb) w w') (hR:RefAt w' cb lv' c'.many es') (ht:Twin c'.many c'.ks c'.mp es')
  (ho:∀ k,lv'.ownBlock=some k→lvc.ownBlock=some k∨(w.heap.size≤k∧k<w'.heap.size)):RCO X (ptrV cb) cb lv' B base w' (some c'):=by
 obtain⟨h1,h2,h3,h4⟩:=h;have h5:=h3.lt;have h6:=h3.low;have h7:=hF.size;refine⟨rfl,h2,⟨h6,⟨es',hR,ht⟩,fun k hk=>?_⟩,fun k hk hf=>?_⟩
 ·rcases ho k hk with h8 | h8
  ·have:=h3.own k h8;omega
  ·omega
 ·rcases ho k hk with h8 | h8
  ·exact h4 k h8 hf
  ·have:=hX k hf;omega
theorem RunRel.some_ {l:List RuleL} {P:List Nat} {T:Look} {c c':Option CS} {st st':Nat→St} {i:Int} {hit:Bool} {code:Nat} (h:RunRel l P T c st i hit code c' st'):c'.isSome=c.isSome:=by
 cases h with
 | none _=>rfl
 | done _ _=>rfl
 | turn _ _ _=>rfl
 | go _ _ h=>exact h.some_
end Go.Proofs.YtgjialbmlhbngaaGreatDoor
