/-
  YardFresh, in plain Lean: what Make of all leaves in the out tree. A cache that has been in use: what a build puts or finds stays, where there is room for the build alone. One rule, made in a yard: in plain Lean. The laws' yarded: a yard makes a file. YardFresh, in plain Lean: trees that hold one thing have one text; a tree can be copied. A path does not end in a slash; what the law YardFresh asks of outs is that they are level. Make of all, in a yard whose rules are right and have an order: it makes, and leaves the out tree fresh. The walk of the law YardFresh. (A draft: the statement only.)
-/
import Derived.Test.YtgjialbmlhbngaaGreatDoorYdB
import Derived.Test.YtgjialbmlhbngaaGreatDoorBdE
import Derived.Test.YtgjialbmlhbngaaGreatDoorBdQ
import Derived.Test.YtgjialbmlhbngaaGreatDoorRbJ
import Derived.Test.YtgjialbmlhbngaaGreatDoorPkP
import Derived.Test.YtgjialbmlhbngaaGreatDoorPkA
import Derived.Test.YtgjialbmlhbngaaGreatDoorBdF
import Derived.Test.YtgjialbmlhbngaaGreatDoorRbE
import Derived.Test.YtgjialbmlhbngaaGreatDoorPkI
import Derived.Test.YtgjialbmlhbngaaGreatDoorPkQ
import Derived.Deep.RegionHeld3

namespace Go.Proofs.YtgjialbmlhbngaaGreatDoor
open Go Go.RowKit Go.Kf Go.Sort Go.Proofs
structure OutsIn (l:List RuleL) (mo:List Ent):Prop where
 nd:(mo.map Prod.fst).Nodup
 sub:∀ p∈mo.map Prod.fst,∃ i,i<l.length∧(l.getD i noR).out=p
theorem OutsIn.nil (l:List RuleL):OutsIn l []:=⟨List.nodup_nil,fun p h=>by cases h⟩
theorem zmd {α:Type} [DecidableEq α]:∀ (a b:List α),a.Nodup→(∀ x∈a,x∈b)→a.length≤b.length
 | [],_,_,_=>Nat.zero_le _
 | x::a,b,hn,hs=>by
  rw[List.nodup_cons] at hn;have hx:x∈b:=hs x List.mem_cons_self;have h1:=zmd a (b.erase x) hn.2 (fun y hy=>(List.mem_erase_of_ne (fun e:y=x=>hn.1 (e▸hy))).2 (hs y (List.mem_cons_of_mem _ hy)));rw[List.length_erase_of_mem hx] at h1;have:=List.length_pos_of_mem hx;rw[List.length_cons];omega
theorem OutsIn.len {l:List RuleL} {mo:List Ent} (h:OutsIn l mo):mo.length≤l.length:=by
 have:=zmd (mo.map Prod.fst) (l.map RuleL.out) h.nd (fun p hp=>by
  obtain⟨i,hi,rfl⟩:=h.sub p hp;rw[zat hi];exact List.mem_map.2 ⟨_,List.getElem_mem hi,rfl⟩)
 rwa [List.length_map,List.length_map] at this
theorem OutsIn.upd {l:List RuleL} {mo:List Ent} (h:OutsIn l mo) {i:Nat} (hi:i<l.length) (b:List UInt8):OutsIn l (mupd (l.getD i noR).out b mo):=by
 refine⟨?_,fun p hp=>?_⟩
 ·rw[zca]
  split
  ·exact h.nd
  ·rename_i hn
   refine List.nodup_append.2 ⟨h.nd,by simp,fun a ha c hc=>?_⟩
   rw[List.mem_singleton] at hc;exact fun e=>hn (hc▸e▸ha)
 ·rw[zca] at hp
  split at hp
  ·exact h.sub p hp
  ·rcases List.mem_append.1 hp with hp | hp
   ·exact h.sub p hp
   ·exact⟨i,hi,(List.mem_singleton.1 hp).symm⟩
theorem OutsIn.del {l:List RuleL} {mo:List Ent} (h:OutsIn l mo) (q:List UInt8):OutsIn l (mdel q mo):=by
 refine⟨?_,fun p hp=>?_⟩
 ·rw[zc3 _ _ h.nd]; exact h.nd.filter _
 ·rw[zc3 _ _ h.nd] at hp; exact h.sub p (List.mem_filter.1 hp).1
theorem zme {α:Type} [DecidableEq α]:∀ {a b:List α},a.Nodup→b.Nodup→(∀ x,x∈a↔x∈b)→a.Perm b
 | [],b,_,_,h=>by
  cases b with
  | nil=>exact List.Perm.refl _
  | cons y b=>exact absurd ((h y).2 List.mem_cons_self) List.not_mem_nil
 | x::a,b,ha,hb,h=>by
  have hx:x∈b:=(h x).1 List.mem_cons_self;have hp:b.Perm (x::b.erase x):=List.perm_cons_erase hx;have hbe:=(hp.nodup_iff.1 hb);rw[List.nodup_cons] at ha hbe;refine (List.Perm.cons x (zme ha.2 hbe.2 (fun y=>?_))).trans hp.symm
  have h1:=h y;rw[hp.mem_iff,List.mem_cons,List.mem_cons] at h1
  constructor
  ·intro hy;rcases h1.1 (Or.inr hy) with e | e
   ·exact absurd (e▸hy) ha.1
   ·exact e
  ·intro hy;rcases h1.2 (Or.inr hy) with e | e
   ·exact absurd (e▸hy) hbe.1
   ·exact e
theorem zq8 (p:List UInt8):zb2 p p=false:=by
 rw[Bool.eq_false_iff];intro h;have:=List.IsPrefix.length_le (aboveB_iff.1 h);simp only[List.length_append,List.length_cons,List.length_nil] at this;omega
structure Good (m:List Ent):Prop where
 nd:(m.map Prod.fst).Nodup
 len:m.length≤60
 path:∀ p∈m.map Prod.fst,zaq p=true
 byt:∀ p b,zaa p m=some b→b.length≤2000
 apart:∀ p∈m.map Prod.fst,∀ q∈m.map Prod.fst,zb2 p q=false
theorem Good.nil:Good []:=⟨List.nodup_nil,Nat.zero_le _,fun p h=>absurd h List.not_mem_nil,(fun p b h=>by cases h),fun p h=>absurd h List.not_mem_nil⟩
theorem Good.put {m:List Ent} (h:Good m) (p b:List UInt8):Good (putM p b m):=by
 unfold putM
 split
 ·rename_i hc
  unfold putC at hc
  split at hc
  ·cases hc
  ·rename_i h1
   split at hc
   ·cases hc
   ·rename_i h2
    split at hc
    ·cases hc
    ·rename_i h3
     split at hc
     ·cases hc
     ·rename_i h4
      have hp:zaq p=true:=by cases hx:zaq p with
       | true=>rfl
       | false=>exact absurd hx h1
      have hcl:∀ q∈m.map Prod.fst,zb2 p q=false∧zb2 q p=false:=fun q hq=>by
       obtain⟨y,hy,rfl⟩:=List.mem_map.1 hq;have h5:clash p m=false:=by simpa using h3
       unfold clash at h5;rw[List.any_eq_false] at h5;have:=h5 y hy;simpa using this
      have hk:∀ q,q∈(mupd p b m).map Prod.fst→q∈m.map Prod.fst∨q=p:=fun q hq=>by
       rw[zca] at hq
       split at hq
       ·exact Or.inl hq
       ·rcases List.mem_append.1 hq with hq | hq
        ·exact Or.inl hq
        ·exact Or.inr (List.mem_singleton.1 hq)
      refine⟨?_,?_,fun q hq=>?_,fun q c hq=>?_,fun q hq r hr=>?_⟩
      ·rw[zca]
       split
       ·exact h.nd
       ·rename_i hn
        refine List.nodup_append.2 ⟨h.nd,by simp,fun a ha c hc=>?_⟩
        rw[List.mem_singleton] at hc;exact fun e=>hn (hc▸e▸ha)
      ·have h6:=congrArg List.length (zca p b m);rw[List.length_map] at h6;rw[h6]
       split
       ·rw[List.length_map]; exact h.len
       ·rename_i hn
        rw[List.length_append,List.length_map,List.length_singleton];have hl:(zaa p m).isSome=false:=by rw[mlook_none.2 hn]; rfl
        have:¬ 60≤m.length:=fun h7=>h4 ⟨hl,h7⟩;omega
      ·rcases hk q hq with e | rfl
       ·exact h.path q e
       ·exact hp
      ·rw[zd8] at hq
       split at hq
       ·cases hq; omega
       ·exact h.byt q c hq
      ·rcases hk q hq with e | rfl <;> rcases hk r hr with f | rfl
       ·exact h.apart q e r f
       ·exact (hcl q e).2
       ·exact (hcl r f).1
       ·exact zq8 _
 ·exact h
theorem Good.del {m:List Ent} (h:Good m) (p:List UInt8):Good (mdel p m):=by
 have hk:∀ q,q∈(mdel p m).map Prod.fst→q∈m.map Prod.fst:=fun q hq=>by
  rw[zc3 _ _ h.nd] at hq;exact (List.mem_filter.1 hq).1
 refine⟨?_,Nat.le_trans (zku m) h.len,fun q hq=>h.path q (hk q hq),fun q c hq=>?_,fun q hq r hr=>h.apart q (hk q hq) r (hk r hr)⟩
 ·rw[zc3 _ _ h.nd]; exact h.nd.filter _
 ·rw[zgu _ _ _ h.nd] at hq
  split at hq
  ·cases hq
  ·exact h.byt q c hq
theorem zkv {α:Type} {p q:α→Bool}:∀ (l:List α),(∀ x∈l,p x=q x)→l.find? p=l.find? q
 | [],_=>rfl
 | x::l,h=>by
  rw[List.find?_cons,List.find?_cons,h x List.mem_cons_self,zkv l (fun y hy=>h y (List.mem_cons_of_mem _ hy))]
theorem zhs {E:Nat→List Nat} {a b:Nat→Bool} {n:Nat} (h:∀ i,i<n→a i=b i):∀ (f:Nat) (out:List Nat),zbx E a n f out=zbx E b n f out
 | 0,_=>rfl
 | f+1,out=>by
  have hn:ziv E a n out=ziv E b n out:=zkv _ (fun x hx=>by unfold zcf; rw[h x (List.mem_range.1 hx)])
  unfold zbx;rw[hn];cases ziv E b n out with
  | none=>rfl
  | some k=>exact zhs h f _
theorem zpo {E:Nat→List Nat} {a b:Nat→Bool} {n:Nat} (h:∀ i,i<n→a i=b i):zau E a n=zau E b n:=by
 have hm:zcu a n=zcu b n:=congrArg List.length (List.filter_congr (fun x hx=>h x (List.mem_range.1 hx)));unfold zau;rw[hm,zhs h]
theorem zpp:∀ s:List UInt8,s.length+1≤((spl 47 s).map fun t=>t.length+1).sum
 | []=>by simp[spl]
 | b::s=>by
  have ih:=zpp s;unfold spl;by_cases hb:b=47
  ·rw[if_pos hb];simp only[List.map_cons,List.sum_cons,List.length_nil,List.length_cons];omega
  ·rw[if_neg hb];cases hq:spl 47 s with
   | nil=>rw[hq] at ih; simp at ih
   | cons x r =>
    rw[hq] at ih;simp only[List.map_cons,List.sum_cons,List.length_cons] at ih ⊢;omega
theorem zxs {k:Nat}:∀ l:List Nat,(∀ x∈l,x≤k)→l.sum≤k*l.length
 | [],_=>by simp
 | x::l,h=>by
  have h1:=h x List.mem_cons_self;have h2:=zxs l (fun y hy=>h y (List.mem_cons_of_mem _ hy));rw[List.sum_cons,List.length_cons,Nat.mul_succ];omega
theorem zz9 {p:List UInt8} (h:zaq p=true):p.length≤100:=by
 have hs:(spl 47 p).length≤5∧zdk false (spl 47 p)=true:=by
  unfold zaq zbu at h
  split at h
  ·rename_i hc; exact hc
  ·cases h
 have h1:=zpp p;have h2:=zxs (k:=13) ((spl 47 p).map fun t=>t.length+1) (fun x hx=>by
  obtain⟨t,ht,rfl⟩:=List.mem_map.1 hx;have hn:=(List.all_eq_true.1 hs.2) t ht;unfold zdt at hn;simp only[Bool.and_eq_true,decide_eq_true_eq] at hn;omega)
 rw[List.length_map] at h2;have:=hs.1;omega
theorem Good.klen {m:List Ent} (h:Good m):∀ x∈m,x.1.length≤100:=fun x hx=>zz9 (h.path x.1 (List.mem_map.2 ⟨x,hx,rfl⟩))
theorem zpq {w:World} {B:Nat} {e:TypeId} {z:Nat} {v:Value} {n:Nat} {xs:List Value} (h:w.ownsRow B e z v n xs):∀ ad n c,v=.slice (some ad) n c→ad.spot=none:=by
 intro ad k c hv;rcases h.2 with ⟨h1,-⟩ |⟨g,cap,cur,h1,-⟩
 ·rw[h1] at hv; cases hv
 ·rw[h1] at hv; cases hv; rfl
theorem zuk {S:Nat→Addr} {B B':Nat} {Y:YPl} {vl lv v:Value} {R R':List RV} {m mo:List Ent} {c:CS} (w:World) (h:YAt B Y vl lv R m mo c w) (ho:OwnAt B' w v R') (hlow:Y.yb<B') (hm:Ml w) (hE:KErr w S) (hN:NErr w) (ht:Tab w)
  (hb:∀ x∈R',x.1.out.length≤1000000∧x.1.word.length≤100000∧(∀ s∈x.1.ins,s.length≤1000000)∧x.1.ins.length≤1000) (hn:R'.length≤1000) :
  Calls Tryz.prog 14 #[ptrV Y.yb,v] w (zkt S B Y vl lv R m mo c R' w) :=
 zuh w h R' v (fun wl hf=>(zlt ⟨_,zkq ho hf (fun q hq=>⟨(zey ho hq).2,fun e=>by have:=(zey ho hq).1; omega⟩)⟩).1) (zlt ⟨_,ho⟩).2 (zpq ho.1) hm hE hN ht hb hn
structure FSt (B:Nat) (w1:World) (Y:YPl) (vl:Value) (R:List RV) (m mo:List Ent) (c:CS) (lv:Value) (w:World):Prop where
 yard:YAt B Y vl lv R m mo c w
 good:Good m
 outs:OutsIn (R.map Prod.fst) mo
 cok:COk (some c)
 room:(R.map Prod.fst).length≤c.many
 low:Below w1.heap.size w1 w
section
variable {B : Nat} {w1 w w' : World} {Y : YPl} {vl lv : Value} {R : List RV} {m mo : List Ent} {c : CS}
theorem FSt.below (h:FSt B w1 Y vl R m mo c lv w) (hb:Below w.heap.size w w'):FSt B w1 Y vl R m mo c lv w':=⟨h.yard.below hb,h.good,h.outs,h.cok,h.room,h.low.trans (hb.mono h.low.size)⟩
theorem FSt.tstep (h:FSt w1.heap.size w1 Y vl R m mo c lv w) {m':List Ent} (hT:TAt w' Y.tb Y.mb m') (hf:Fr w.heap.size (fun k=>k=Y.mb) w w') (hg:Good m'):FSt w1.heap.size w1 Y vl R m' mo c lv w' :=
 ⟨h.yard.tstep hT hf,hg,h.outs,h.cok,h.room,h.low.trans ((hf.mono (S':=fun k=>k=Y.mb) h.low.size (fun _ _ h=>h)).below (fun k hk e=>by have:=h.yard.low 1 k (Or.inr e); omega))⟩
end
end Go.Proofs.YtgjialbmlhbngaaGreatDoor
