/-
  Rules that came in as an argument. Files as an argument. A table that stands anywhere on a row's list. Numbers as an argument.
-/
import Derived.Test.YtgjialbmlhbngaaGreatDoorPkB
import Derived.Test.YtgjialbmlhbngaaGreatDoorPkF
import Derived.ProofKit
import Derived.Test.YtgjialbmlhbngaaGreatDoorPkP
import Derived.Lib.LaidTab
import Derived.LaidMore
import Derived.ChangeSlices

namespace Go.Proofs.YtgjialbmlhbngaaGreatDoor
open Go Go.ChangeShapes Go.WideShapes Go.ChangeAt Go.RowKit Go.Kf
abbrev InR (W:World):Type:={x:RV // Reads W x.2 (x.1.ins.map str)∧zx9 x.2}
instance (W:World):Inhabited (InR W):=⟨⟨(⟨[],[],[],[]⟩, .slice none 0 0),⟨none,0,rfl,by simp,fun i u hi=>(by cases hi)⟩,Or.inl rfl⟩⟩
end Go.Proofs.YtgjialbmlhbngaaGreatDoor

namespace Go.Kf
open Go Go.Lib
theorem zhj {P:Program} {W:World} {name:String} {k:IntKind} {zs:List Int} {g:Nat} {t e:TypeId} {n:Nat}
  (hg:P.globalNamed name=some g) (hty:(P.globals[g]?).map (·.type)=some t) (ht:P.underlying t=some (.array n e)) (he:P.underlying e=some (.int k)) (hce:P.cellsOf e=1) (hct:P.cellsOf t=n) :
  ∀ (l:List (String×DataW Unit)) (ps:List MemPlace),DataW.LaidVars P W l ps→∀ i:Nat,l[i]? = some (name,tabData k zs)→TabIs P W name k zs
 | [],_,_,i,hi=>by simp at hi
 | x::l,ps,h,i,hi=>by
  obtain⟨x1,x2⟩:=x;obtain⟨g',t',cs,fuel,p,q,hg',ht',hvar,hd,hr,rfl⟩:=h;cases i with
  | zero =>
   simp only[List.getElem?_cons_zero,Option.some.injEq,Prod.mk.injEq] at hi;obtain⟨rfl,rfl⟩:=hi;obtain rfl:=Option.some.inj (hg.symm.trans hg');obtain rfl:=Option.some.inj (hty.symm.trans ht');unfold TabIs;rw[hvar,← cells_of_tab ht he hce hct hd]
  | succ i=>exact zhj hg hty ht he hce hct l q hr i (by simpa using hi)
theorem zm5 {P:Program} {W:World} {name:String} {k:IntKind} {zs:List Int} {g:Nat} {t e:TypeId} {n:Nat}
  (hg:P.globalNamed name=some g) (hty:(P.globals[g]?).map (·.type)=some t) (ht:P.underlying t=some (.array n e)) (he:P.underlying e=some (.int k)) (hce:P.cellsOf e=1) (hct:P.cellsOf t=n)
  {l:List (String×DataW Unit)} (h:laidMet P l W) (i:Nat) (hi:l[i]? = some (name,tabData k zs)):TabIs P W name k zs:=by
 obtain⟨ps,hv,-⟩:=h;exact zhj hg hty ht he hce hct l ps hv i hi
end Go.Kf

namespace Go.Proofs.YtgjialbmlhbngaaGreatDoor
open Go Go.ChangeShapes Go.WideShapes Go.ChangeAt Go.RowKit Go.Kf
theorem zwz {w:World} {a:Addr} {v:Value} (h:w.cell? a=some v):a.spot=none:=by
 unfold World.cell? at h;cases hh:w.heap[a.block]? with
 | none=>rw[hh] at h; cases h
 | some o =>
  rw[hh] at h;cases o <;> simp only at h
  case cells c t fz =>
   by_cases hsp:a.spot.isSome=true
   ·rw[if_pos hsp] at h; cases h
   ·simpa using hsp
  all_goals cases h
theorem zw0 {H:Type} {enc:TypeId×Value→H} {W:World} {v:Value} {fuel:Nat} {x:DataW H×List MemPlace} (h:DataW.trod enc Tryz.prog W 0 (fun _=>true) true fuel 53 [v]=some x) :
  ∃ zs:List Int,Reads W v (zs.map (Value.int .i64))∧(∀ a n c,v=.slice a n c→n≤c)∧∀ z∈zs,-9223372036854775808≤z∧z≤9223372036854775807:=by
 rcases open_ints (k:=.i64) Tryz.underlying53 Tryz.underlying3 (by kernel_rfl) h with ⟨h0,-⟩ |⟨a,len,cap,zs,h0,-,hle,hcap,hzl,-,hc,hw⟩
 ·simp only[List.cons.injEq,and_true] at h0;subst h0;exact⟨[],⟨none,0,rfl,by simp,fun i u hi=>by cases hi⟩,fun a n c h=>by cases h; exact Nat.le_refl _,fun z hz=>by cases hz⟩
 ·simp only[List.cons.injEq,and_true] at h0;subst h0;simp only[if_true] at hzl;have hl:(zs.take len).length=len:=by rw[List.length_take]; omega
  refine⟨zs.take len,⟨some a,cap,by rw[List.length_map,hl],by rw[List.length_map,hl]; unfold maxLen at hcap; omega,fun i u hi=>?_⟩,fun a n c h=>by cases h; exact hle,fun z hz=>?_⟩
  ·rw[List.getElem?_map] at hi;obtain⟨z,hz,rfl⟩:=Option.map_eq_some_iff.1 hi;have hil:i<len:=by
    rcases Nat.lt_or_ge i len with h' | h'
    ·exact h'
    ·rw[List.getElem?_eq_none (by omega)] at hz; cases hz
   have h0:=hc 0 (by omega)
   have hsp:a.spot=none:=by
    have:=zwz h0;simpa[Addr.add] using this
   have h1:=hc i (by omega)
   rw[zb0 hsp] at h1;refine⟨a.block,a.off,by rw[← hsp],h1.trans ?_⟩
   rw[List.getElem?_take,if_pos hil] at hz;rw[List.getD_eq_getElem?_getD,hz];rfl
  ·have:=hw z (List.mem_of_mem_take hz);have e1:IntKind.i64.min = -9223372036854775808:=by decide
   have e2:IntKind.i64.max=9223372036854775807:=by decide
   simp only[Lit.wf,Bool.and_eq_true,decide_eq_true_eq,e1,e2] at this;exact this
end Go.Proofs.YtgjialbmlhbngaaGreatDoor
