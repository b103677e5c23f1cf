/-
  A slice of the call's own that may be cut at its head: reads, tail, append. What Needs, Leaves, Order and Cycle stand on: a sheet's answer, outs' places, the map of those needed. Cycle or order, in plain words.
-/
import Derived.Test.YtgjialbmlhbngaaGreatDoorPkG
import Derived.ArgAppend

set_option maxRecDepth 100000
namespace Go.Kf
open Go Go.RowKit
def OwnQ (w:World) (base:Nat) (v:Value) (xs:List Value):Prop :=
 (v=.slice none 0 0∧xs=[])∨∃ ad g o cap,v=.slice (some ad) xs.length cap∧ad.block=g∧(0<cap→ad=⟨g,o,none⟩)∧base≤g∧g<w.heap.size∧xs.length≤cap∧cap≤maxLen ∧
  (∀ j,j<cap→(w.cell? ⟨g,o+j,none⟩).isSome=true∧w.frozen? ⟨g,o+j,none⟩=false)∧∀ j u,xs[j]? = some u→w.cell? ⟨g,o+j,none⟩=some u
theorem OwnQ.nil (w:World) (base:Nat):OwnQ w base (.slice none 0 0) []:=Or.inl ⟨rfl,rfl⟩
theorem OwnQ.reads {w:World} {base:Nat} {v:Value} {xs:List Value} (h:OwnQ w base v xs):Reads w v xs:=by
 rcases h with ⟨rfl,rfl⟩ |⟨ad,g,o,cap,rfl,-,ha,-,-,hle,hcm,-,hc⟩
 ·exact⟨none,0,rfl,by simp,fun i u hi=>by simp at hi⟩
 ·refine⟨some ad,cap,rfl,by unfold maxLen at hcm; omega,fun i u hi=>⟨g,o,?_,hc i u hi⟩⟩
  have:=(List.getElem?_eq_some_iff.1 hi).1;rw[ha (by omega)]
theorem OwnQ.lt {w:World} {base:Nat} {v:Value} {xs:List Value} (h:OwnQ w base v xs):∀ k,v.ownBlock=some k→base≤k∧k<w.heap.size:=fun k hk=>by
 rcases h with ⟨rfl,rfl⟩ |⟨ad,g,o,cap,rfl,hg,-,hb,hlt,-⟩
 ·cases hk
 ·obtain rfl:=Option.some.inj hk;exact⟨by omega,by omega⟩
theorem OwnQ.fr {w w':World} {base B:Nat} {S:Nat→Prop} {v:Value} {xs:List Value} (h:OwnQ w base v xs) (hf:Fr B S w w') (hv:∀ k,v.ownBlock=some k→k<B∧¬ S k):OwnQ w' base v xs:=by
 rcases h with ⟨rfl,rfl⟩ |⟨ad,g,o,cap,rfl,hg,ha,hb,hlt,hle,hcm,hs,hc⟩
 ·exact OwnQ.nil _ _
 ·obtain⟨h1,h2⟩:=hv ad.block rfl;rw[hg] at h1 h2;refine Or.inr ⟨ad,g,o,cap,rfl,hg,ha,hb,Nat.lt_of_lt_of_le hlt hf.size,hle,hcm,fun j hj=>?_,fun j u hj=>?_⟩
  ·rw[hf.cell (p:=⟨g,o+j,none⟩) h1 h2,hf.frozen (p:=⟨g,o+j,none⟩) h1 h2];exact hs j hj
  ·exact (hf.cell (p:=⟨g,o+j,none⟩) h1 h2).trans (hc j u hj)
theorem OwnQ.of_row {w:World} {base n:Nat} {e:TypeId} {v:Value} {xs:List Value} (h:w.ownsRow base e 1 v n xs):OwnQ w base v xs:=by
 have hl:=h.1;rcases h.2 with ⟨rfl,rfl⟩ |⟨g,cap,cur,rfl,hg,hh,hn,hcap,hsz,htake⟩
 ·obtain rfl:xs=[]:=List.length_eq_zero_iff.1 (by omega)
  exact OwnQ.nil _ _
 ·refine Or.inr ⟨⟨g,0,none⟩,g,0,cap,by rw[show xs.length=n by omega],rfl,fun _=>rfl,hg,zab hh,by omega,hcap,fun j hj=>⟨?_,?_⟩,fun j u hj=>?_⟩
  ·rw[cell_of_heap hh,Nat.zero_add,Array.getElem?_eq_getElem (by omega)]; rfl
  ·simp[World.frozen?,hh]
  ·have:=h.cells rfl j u hj;rw[Addr.add_lit] at this;exact this
theorem OwnQ.tail {w:World} {base n c:Nat} {a:Option Addr} {x:Value} {xs:List Value} (h:OwnQ w base (.slice a n c) (x::xs)):1≤c∧n=xs.length+1∧∃ ad,a=some ad∧OwnQ w base (.slice (if c=1 then some ad else some (ad.add 1)) xs.length (c - 1)) xs:=by
 rcases h with ⟨-,h⟩ |⟨ad,g,o,cap,e,hg,ha,hb,hlt,hle,hcm,hs,hc⟩
 ·cases h
 ·cases e
  rw[List.length_cons] at hle;refine⟨by omega,rfl,ad,rfl,Or.inr ?_⟩
  obtain rfl:=ha (by omega)
  by_cases h1:c=1
  ·rw[if_pos h1];exact⟨_,g,o+1,c - 1,rfl,hg,fun h=>by omega,hb,hlt,by omega,by omega,fun j hj=>by omega,fun j u hj=>by
    have:=(List.getElem?_eq_some_iff.1 hj).1;omega⟩
  ·rw[if_neg h1];refine⟨_,g,o+1,c - 1,rfl,by simp[Addr.add],fun _=>Addr.add_lit _ _ _,hb,hlt,by omega,by omega,fun j hj=>?_,fun j u hj=>?_⟩
   ·rw[show o+1+j=o+(j+1) by omega]
    exact hs (j+1) (by omega)
   ·rw[show o+1+j=o+(j+1) by omega]
    exact hc (j+1) u (by simpa using hj)
theorem OwnQ.tail2 {w:World} {base n c:Nat} {a:Option Addr} {x:Value} {xs:List Value} (h:OwnQ w base (.slice a n c) (x::xs)):1≤c∧∃ g o,a=some ⟨g,o,none⟩∧OwnQ w base (.slice (if c=1 then some ⟨g,o,none⟩ else some ⟨g,o+1,none⟩) xs.length (c - 1)) xs:=by
 obtain⟨h1,-,ad,rfl,hq⟩:=h.tail;rcases h with ⟨-,h⟩ |⟨ad',g,o,cap,e,hg,ha,-⟩
 ·cases h
 ·cases e
  obtain rfl:=ha (by omega)
  exact⟨h1,g,o,rfl,hq⟩
theorem ze0 (b:Nat):∀ (vs:List Value) (o:Nat) (w:World),w.grownBy (w.setCells b o vs) (some b)
 | [],_,w=>⟨rfl,rfl,rfl,Nat.le_refl _,fun _ _ _=>rfl⟩
 | v::r,o,w=>by
  have ih:=ze0 b r (o+1) (w.setCell ⟨b,o,none⟩ v);have hz:(w.setCell ⟨b,o,none⟩ v).heap.size=w.heap.size:=by simp[World.setCell]
  refine⟨ih.os,ih.tape,ih.output,by have:=ih.size; rw[hz] at this; exact this,fun k hk hne=>?_⟩
  exact (ih.block k (by rw[hz]; exact hk) hne).trans (Below.heap_setCell _ _ _ _ (fun e=>hne (congrArg some e)))
theorem OwnQ.app {P:Program} {T e:TypeId} {z:Value} {bytes:Nat} (hT:SliceTy P T e z bytes) (ty:TypeId) {w:World} {base:Nat} {v x:Value} {xs ys:List Value} (h:OwnQ w base v xs) (hb:base≤w.heap.size) (hx:Reads w x ys) (h1:∀ u∈ys,u.oneCell'=true) (hby:bytes≤128) (hlen:xs.length+ys.length≤1000000000) :
  ∃ v' w',(Builtin.append_ #[T,T] ty #[v,x]).run P w=.ok v' w'∧OwnQ w' base v' (xs++ys)∧w.grownBy w' v.ownBlock∧(v'.ownBlock=v.ownBlock∨∃ b0,w.heap.size≤b0∧v'.ownBlock=some b0):=by
 obtain⟨i,hi,hz0,hz1,hz2⟩:=info_parts hT.info;have hbb:(xs.length+ys.length)*bytes≤140737488355328:=Nat.le_trans (Nat.mul_le_mul hlen hby) (by decide)
 have hmx:xs.length+ys.length≤maxLen:=by unfold maxLen; omega
 obtain⟨a,c,rfl,-,hcell⟩:=id hx;cases ys with
 | nil =>
  have hf:(Builtin.firstCells i.size 0 (.slice a 0 c)).run P w=.ok #[] w:=by
   cases a with
   | none=>simp[Builtin.firstCells]
   | some a=>exact run_firstCells_some (P:=P) w i.size 0 a 0 c [] (by simp) (fun j u hj=>by simp at hj)
  refine⟨v,w,?_,by rw[List.append_nil]; exact h, .refl _ _,Or.inl rfl⟩
  rcases h with ⟨rfl,rfl⟩ |⟨ad,g,o,cap,rfl,hg,ha,hb,hlt,hle,hcm,hs,hc⟩
  ·simp[Builtin.append_,run_underlying hT.und,sizeOf,typeInfo,hi,Builtin.lenOf,hf]
  ·simp[Builtin.append_,run_underlying hT.und,sizeOf,typeInfo,hi,Builtin.lenOf,hf,hle,storeCells]
 | cons y0 yr =>
  obtain⟨b2,o2,rfl,-⟩:=hcell 0 y0 rfl;have hn:∀ j u,(y0::yr)[j]? = some u→w.cell? ((⟨b2,o2,none⟩:Addr).add j)=some u:=fun j u hj=>by
   obtain⟨b,o,e,hc⟩:=hcell j u hj;cases e
   rw[Addr.add_lit];exact hc
  rcases h with ⟨rfl,rfl⟩ |⟨ad,g,o,cap,rfl,hg,ha,hb',hlt,hle,hcm,hs,hc⟩
  ·obtain⟨v',w',hr,ho,hgr,-⟩:=run_append_own (P:=P) w base T ty e i z 1 bytes hT.und hi hz0 hz1 hz2 hT.one (by decide) _ 0 [] (World.ownsRow_nil w base e 1) ⟨b2,o2,none⟩ (y0::yr).length c (y0::yr) (by simp) hn h1 (by simpa using hmx) (by simpa using hbb) hb
   refine⟨v',w',hr,OwnQ.of_row ho,hgr,?_⟩
   obtain⟨g',cap',rfl⟩:=zbd ho (by simp)
   rcases Nat.lt_or_ge g' w.heap.size with hlt | hge
   ·have hb0:=hgr.block g' hlt (by simp[Value.ownBlock])
    refine Or.inr ⟨g',?_,rfl⟩
    obtain⟨v2,w2,hr2,ho2,-⟩:=run_append_own (P:=P) w w.heap.size T ty e i z 1 bytes hT.und hi hz0 hz1 hz2 hT.one (by decide) _ 0 [] (World.ownsRow_nil w w.heap.size e 1) ⟨b2,o2,none⟩ (y0::yr).length c (y0::yr) (by simp) hn h1 (by simpa using hmx) (by simpa using hbb) (Nat.le_refl _)
    rw[hr] at hr2;cases hr2
    exact (ho2.lt g' rfl).1
   ·exact Or.inr ⟨g',hge,rfl⟩
  ·by_cases hroom:xs.length+(y0::yr).length≤cap
   ·have hcp:0<cap:=by simp at hroom; omega
    obtain rfl:=ha hcp;have hcs:∀ j,j<(y0::yr).length→(w.cell? ⟨g,o+xs.length*1+j,none⟩).isSome=true:=fun j hj=>by
     have:=(hs (xs.length+j) (by omega)).1
     rwa [show o+(xs.length+j)=o+xs.length*1+j by omega] at this
    have hfs:∀ j,j<(y0::yr).length→w.frozen? ⟨g,o+xs.length*1+j,none⟩=false:=fun j hj=>by
     have:=(hs (xs.length+j) (by omega)).2
     rwa [show o+(xs.length+j)=o+xs.length*1+j by omega] at this
    have hr:=run_append_room_cells (P:=P) w T ty e i hT.und hi g o xs.length cap ⟨b2,o2,none⟩ (y0::yr).length c (y0::yr) (by rw[hz1]; omega) hn h1 hroom (by rw[hz1]; exact hcs) (by rw[hz1]; exact hfs)
    rw[hz1] at hr;have hgb:=ze0 g (y0::yr) (o+xs.length*1) w;have hxl:(xs++y0::yr).length=xs.length+(y0::yr).length:=List.length_append;have hin:=World.cell?_setCells_in g (y0::yr) (o+xs.length*1) w hcs;refine⟨_,_,hr,Or.inr ⟨⟨g,o,none⟩,g,o,cap,by rw[hxl],rfl,fun _=>rfl,hb',Nat.lt_of_lt_of_le hlt hgb.size,by omega,hcm,fun j hj=>⟨?_,by rw[World.frozen?_setCells]; exact (hs j hj).2⟩,fun j u hj=>?_⟩,hgb,Or.inl rfl⟩
    ·by_cases hj1:j<xs.length
     ·rw[World.cell?_setCells_out _ _ _ _ _ (fun _ _=>Or.inl (by simp; omega))]
      exact (hs j hj).1
     ·by_cases hj2:j<xs.length+(y0::yr).length
      ·have:=hin (j - xs.length) (by omega)
       rw[show o+xs.length*1+(j - xs.length)=o+j by omega] at this
       rw[this]; rfl
      ·rw[World.cell?_setCells_out _ _ _ _ _ (fun _ _=>Or.inr (by simp at hj2 ⊢; omega))]
       exact (hs j hj).1
    ·by_cases hj1:j<xs.length
     ·rw[List.getElem?_append_left hj1] at hj;rw[World.cell?_setCells_out _ _ _ _ _ (fun _ _=>Or.inl (by simp; omega))]
      exact hc j u hj
     ·rw[List.getElem?_append_right (by omega)] at hj
      obtain⟨hj2,rfl⟩:=List.getElem?_eq_some_iff.1 hj;have:=hin (j - xs.length) hj2;rw[show o+xs.length*1+(j - xs.length)=o+j by omega] at this
      exact this
   ·have hold:∀ j u,xs[j]? = some u→w.cell? (ad.add j)=some u:=fun j u hj=>by
     have hjl:=(List.getElem?_eq_some_iff.1 hj).1;rw[ha (by omega),Addr.add_lit]
     exact hc j u hj
    obtain⟨v',w',hr,ho,hgr⟩:=run_append_arg_grows (P:=P) w T ty e i z 1 bytes hT.und hi hz0 hz1 hz2 hT.one (by decide) ad xs.length cap xs (by omega) hold ⟨b2,o2,none⟩ (y0::yr).length c (y0::yr) (by omega) hn (by omega) hmx hbb
    refine⟨v',w',hr,OwnQ.of_row (zaj ho hb),⟨hgr.os,hgr.tape,hgr.output,hgr.size,fun k hk _=>hgr.block k hk (by simp)⟩,?_⟩
    obtain⟨g',cap',rfl⟩:=zbd ho (by simp; omega)
    exact Or.inr ⟨g',(ho.lt g' rfl).1,rfl⟩
theorem zp6 {P:Program} (w:World) {ops:Array Oper} {rest:List Oper} {o:Oper} {a:Act} {Q:Exit→Act→World→Prop}
  (hg:o.guard=none) (s x:Operand) (T:TypeId) (hop:o.op=Op.call { callee:=Callee.builtin Builtin.append,args:=#[s,x],argTypes:=#[T,T] })
  {e:TypeId} {z:Value} {bytes:Nat} (hT:SliceTy P T e z bytes) (base:Nat) (v u:Value) (xs ys:List Value) (hs:a.eval s=v) (hown:OwnQ w base v xs) (hx:a.eval x=u) (hr:Reads w u ys) (h1:∀ u∈ys,u.oneCell'=true)
  (hby:bytes≤128) (hlen:xs.length+ys.length≤1000000000) (hbase:base≤w.heap.size)
  (h:∀ v' w',OwnQ w' base v' (xs++ys)→w.grownBy w' v.ownBlock→(v'.ownBlock=v.ownBlock∨∃ b0,w.heap.size≤b0∧v'.ownBlock=some b0)→wpList P ops Q rest (a.put o.dst v') w') :
  wpList P ops Q (o::rest) a w:=by
 obtain⟨v',w',hrun,h2,h3,h4⟩:=OwnQ.app hT o.type hown hbase hr h1 hby hlen;refine wpList_plain hg fun K hK=>?_
 unfold Oper.wp;simp[execOp,hop,resolve,invoke,builtin,hs,hx,hrun,Result.andThen];exact hK _ _ (h v' w' h2 h3 h4)
end Go.Kf
namespace Go.Proofs.YtgjialbmlhbngaaGreatDoor
inductive Reach (E:Nat→List Nat) (ks:List Nat):Nat→Prop
 | base {k:Nat}:k∈ks→Reach E ks k
 | step {i k:Nat}:Reach E ks i→k∈E i→Reach E ks k
theorem Reach.lt {E:Nat→List Nat} {n:Nat} {ks:List Nat} (hE:∀ i,∀ k∈E i,k<n) (hk:∀ k∈ks,k<n) {k:Nat} (h:Reach E ks k):k<n:=by
 cases h with
 | base h=>exact hk _ h
 | step _ h=>exact hE _ _ h
theorem zeo:∀ (n:Nat) (N:List Nat),N.Nodup→(∀ k∈N,k<n)→N.length≤n
 | 0,N,_,h=>by
  cases N with
  | nil=>simp
  | cons k N=>exact absurd (h k List.mem_cons_self) (by omega)
 | n+1,N,hn,h=>by
  by_cases hm:n∈N
  ·have h1:=zeo n (N.erase n) (hn.erase n) (fun k hk=>by
    have:=(hn.mem_erase_iff).1 hk;have:=h k this.2;omega)
   rw[List.length_erase_of_mem hm] at h1;omega
  ·have h1:=zeo n N hn (fun k hk=>by
    have h2:=h k hk;have:k≠n:=fun e=>hm (e▸hk);omega)
   omega
structure Bfs (E:Nat→List Nat) (ks N todo:List Nat):Prop where
 nd:N.Nodup
 done:∀ k∈N,Reach E ks k
 left:∀ k∈todo,Reach E ks k
 start:∀ k∈ks,k∈N∨k∈todo
 shut:∀ k∈N,∀ j∈E k,j∈N∨j∈todo
theorem Bfs.zero (E:Nat→List Nat) (ks:List Nat):Bfs E ks [] ks :=
 ⟨List.nodup_nil,fun k h=>(by cases h),fun k h=>.base h,fun k h=>Or.inr h,fun k h=>(by cases h)⟩
theorem Bfs.skip {E:Nat→List Nat} {ks N t:List Nat} {k:Nat} (h:Bfs E ks N (k::t)) (hk:k∈N):Bfs E ks N t:=by
 have key:∀ j,j∈N∨j∈k::t→j∈N∨j∈t:=fun j hj=>by
  rcases hj with hj | hj
  ·exact Or.inl hj
  ·rcases List.mem_cons.1 hj with rfl | hj
   ·exact Or.inl hk
   ·exact Or.inr hj
 exact⟨h.nd,h.done,fun j hj=>h.left j (List.mem_cons_of_mem _ hj),fun j hj=>key j (h.start j hj),fun i hi j hj=>key j (h.shut i hi j hj)⟩
theorem Bfs.add {E:Nat→List Nat} {ks N t:List Nat} {k:Nat} (h:Bfs E ks N (k::t)) (hk:k∉N):Bfs E ks (N++[k]) (t++E k):=by
 have hr:=h.left k List.mem_cons_self;have key:∀ j,j∈N∨j∈k::t→j∈N++[k]∨j∈t++E k:=fun j hj=>by
  rcases hj with hj | hj
  ·exact Or.inl (List.mem_append_left _ hj)
  ·rcases List.mem_cons.1 hj with rfl | hj
   ·exact Or.inl (List.mem_append_right _ List.mem_cons_self)
   ·exact Or.inr (List.mem_append_left _ hj)
 refine⟨?_,fun j hj=>?_,fun j hj=>?_,fun j hj=>key j (h.start j hj),fun i hi j hj=>?_⟩
 ·rw[List.nodup_append];refine⟨h.nd,by simp,fun a ha b hb e=>?_⟩
  obtain rfl:=List.mem_singleton.1 hb;exact hk (e▸ha)
 ·rcases List.mem_append.1 hj with hj | hj
  ·exact h.done j hj
  ·obtain rfl:=List.mem_singleton.1 hj;exact hr
 ·rcases List.mem_append.1 hj with hj | hj
  ·exact h.left j (List.mem_cons_of_mem _ hj)
  ·exact .step hr hj
 ·rcases List.mem_append.1 hi with hi | hi
  ·exact key j (h.shut i hi j hj)
  ·obtain rfl:=List.mem_singleton.1 hi;exact Or.inr (List.mem_append_right _ hj)
theorem Bfs.stop {E:Nat→List Nat} {ks N:List Nat} (h:Bfs E ks N []) (k:Nat):k∈N↔Reach E ks k:=by
 refine⟨h.done k,fun hr=>?_⟩
 induction hr with
 | base hk =>
  rcases h.start _ hk with h1 | h1
  ·exact h1
  ·cases h1
 | step _ hk ih =>
  rcases h.shut _ ih _ hk with h1 | h1
  ·exact h1
  ·cases h1
theorem Bfs.room {E:Nat→List Nat} {n:Nat} {ks N todo:List Nat} (h:Bfs E ks N todo) (hE:∀ i,∀ k∈E i,k<n) (hk:∀ k∈ks,k<n):N.length≤n :=
 zeo n N h.nd (fun k hm=>(h.done k hm).lt hE hk)
def bfsM (n a b:Nat):Nat:=(n - a)*(n+1)+b
theorem zvy (n a b:Nat):bfsM n a b<bfsM n a (b+1):=by unfold bfsM; omega
theorem zyt {n a b c:Nat} (ha:a+1≤n) (hc:c≤n):bfsM n (a+1) (b+c)<bfsM n a (b+1):=by
 unfold bfsM;obtain⟨d,rfl⟩:∃ d,n=d+(a+1):=⟨n - (a+1),by omega⟩
 rw[show d+(a+1) - (a+1)=d by omega,show d+(a+1) - a=d+1 by omega,Nat.succ_mul]
 omega
def zbt (n:Nat) (N:List Nat):List Nat:=(List.range n).filter fun i=>N.contains i
theorem zdp {n:Nat} {N:List Nat} {k:Nat} (h:∀ k∈N,k<n):k∈zbt n N↔k∈N:=by
 unfold zbt;rw[List.mem_filter,List.mem_range,List.contains_iff_mem];exact⟨fun h=>h.2,fun hk=>⟨h k hk,hk⟩⟩
theorem zob (n:Nat) (N:List Nat):(zbt n N).length≤n:=by
 unfold zbt;exact Nat.le_trans (List.length_filter_le _ _) (by simp)
end Go.Proofs.YtgjialbmlhbngaaGreatDoor
namespace Go.Proofs.YtgjialbmlhbngaaGreatDoor
open Go Go.RowKit Go.Kf Go.Sort Go.Proofs
theorem zc6 {α:Type} [DecidableEq α]:∀ (l m:List α),l.Nodup→(∀ x∈l,x∈m)→l.length≤m.length
 | [],m,_,_=>by simp
 | x::l,m,hn,h=>by
  have hx:=h x List.mem_cons_self;obtain⟨h1,h2⟩:=List.nodup_cons.1 hn;have ih:=zc6 l (m.erase x) h2 (fun y hy=>(List.mem_erase_of_ne (fun (e:y=x)=>h1 (e▸hy))).2 (h y (List.mem_cons_of_mem _ hy)));rw[List.length_erase_of_mem hx] at ih;have:=List.length_pos_of_mem hx;simp only[List.length_cons];omega
theorem zi5 {α:Type} {l:List α} (h:l.Nodup) {a b:Nat} {ha:a<l.length} {hb:b<l.length} (e:l[a]=l[b]):a=b:=by
 have:=List.pairwise_iff_getElem.1 h;rcases Nat.lt_trichotomy a b with h1 | h1 | h1
 ·exact absurd e (this a b ha hb h1)
 ·exact h1
 ·exact absurd e.symm (this b a hb ha h1)
structure Outs (E:Nat→List Nat) (isB:Nat→Bool) (n:Nat) (out:List Nat):Prop where
 nd:out.Nodup
 lt:∀ k∈out,k<n∧isB k=true
 back:∀ i (h:i<out.length),∀ j∈E out[i],j∈out.take i
theorem candB_iff {E:Nat→List Nat} {isB:Nat→Bool} {out:List Nat} {i:Nat}:zcf E isB out i=true↔isB i=true∧i∉out∧∀ j∈E i,j∈out:=by
 unfold zcf;rw[Bool.and_eq_true,Bool.and_eq_true,Bool.not_eq_true',Bool.not_eq_true',List.any_eq_false]
 constructor
 ·rintro⟨h1,h2,h3⟩;refine⟨h1,fun h=>?_,fun j hj=>?_⟩
  ·rw[List.contains_iff_mem.2 h] at h2;cases h2
  ·have:=h3 j hj;simpa using this
 ·rintro⟨h1,h2,h3⟩;refine⟨h1,?_,fun j hj=>?_⟩
  ·exact Bool.eq_false_iff.2 (fun h=>h2 (List.contains_iff_mem.1 h))
  ·simpa using h3 j hj
theorem Outs.add {E:Nat→List Nat} {isB:Nat→Bool} {n:Nat} {out:List Nat} (h:Outs E isB n out) {k:Nat} (hk:k<n) (hc:zcf E isB out k=true):Outs E isB n (out++[k]):=by
 obtain⟨h1,h2,h3⟩:=candB_iff.1 hc;refine⟨?_,fun j hj=>?_,fun i hi j hj=>?_⟩
 ·rw[List.nodup_append];refine⟨h.nd,by simp,fun a ha b hb e=>?_⟩
  obtain rfl:=List.mem_singleton.1 hb;exact h2 (e▸ha)
 ·rcases List.mem_append.1 hj with hj | hj
  ·exact h.lt j hj
  ·obtain rfl:=List.mem_singleton.1 hj;exact⟨hk,h1⟩
 ·rw[List.length_append] at hi;by_cases hil:i<out.length
  ·rw[List.getElem_append_left hil] at hj;rw[List.take_append_of_le_length (by omega)]
   exact h.back i hil j hj
  ·obtain rfl:i=out.length:=by simp at hi; omega
   rw[List.getElem_append_right (Nat.le_refl _)] at hj;simp at hj;rw[List.take_append_of_le_length (Nat.le_refl _),List.take_length];exact h3 j hj
theorem zfl {E:Nat→List Nat} {isB:Nat→Bool} {n:Nat}:∀ (f:Nat) (out:List Nat),Outs E isB n out →
  (∀ o,zbx E isB n f out=some o→Outs E isB n o∧o.length=out.length+f) ∧
  (zbx E isB n f out=none→∃ o,Outs E isB n o∧o.length<out.length+f∧∀ i,i<n→zcf E isB o i=false)
 | 0,out,h=>⟨fun o ho=>by
   simp only[zbx,Option.some.injEq] at ho;subst ho;exact⟨h,rfl⟩,fun ho=>by simp[zbx] at ho⟩
 | f+1,out,h=>by
  cases hn:ziv E isB n out with
  | none =>
   rw[zfk hn];refine⟨fun o ho=>(by cases ho),fun _=>⟨out,h,by omega,fun i hi=>?_⟩⟩
   unfold ziv at hn;have:=List.find?_eq_none.1 hn i (List.mem_range.2 hi);simpa using this
  | some k =>
   obtain⟨h1,h2⟩:=zs2 hn;rw[zfj hn];have ih:=zfl f (out++[k]) (h.add h1 h2);rw[List.length_append,List.length_singleton] at ih;refine⟨fun o ho=>?_,fun ho=>?_⟩
   ·obtain⟨h3,h4⟩:=ih.1 o ho;exact⟨h3,by omega⟩
   ·obtain⟨o,h3,h4,h5⟩:=ih.2 ho;exact⟨o,h3,by omega,h5⟩
theorem zm2 (E:Nat→List Nat) (isB:Nat→Bool) (n:Nat):Outs E isB n []:=⟨List.nodup_nil,fun k h=>(by cases h),fun i h=>absurd h (by simp)⟩
theorem zrq {n a b i k:Nat} (hb:b<n) (hk:k<n) (h:a*n+b=i*n+k):a=i∧b=k:=by
 have hn:0<n:=by omega
 have h1:(a*n+b) / n=a:=by rw[Nat.add_comm,Nat.add_mul_div_right _ _ hn,Nat.div_eq_of_lt hb,Nat.zero_add]
 have h2:(i*n+k) / n=i:=by rw[Nat.add_comm,Nat.add_mul_div_right _ _ hn,Nat.div_eq_of_lt hk,Nat.zero_add]
 rw[h,h2] at h1;subst h1;exact⟨rfl,by omega⟩
structure Clo (E:Nat→List Nat) (n:Nat) (ks N:List Nat):Prop where
 nd:N.Nodup
 lt:∀ k∈N,k<n
 reach:∀ k∈N,Reach E ks k
 start:∀ k∈ks,k∈N
def zyu (E:Nat→List Nat) (N:List Nat):Prop:=∀ k∈N,∀ j∈E k,j∈N
structure CloR (E:Nat→List Nat) (n:Nat) (ks N0:List Nat) (p:Nat) (N:List Nat):Prop where
 clo:Clo E n ks N
 sub:∀ k∈N0,k∈N
 same:zyu E N0→N=N0
 done:∀ i∈N0,∀ k∈E i,i*n+k<p→k∈N
theorem CloR.zero {E:Nat→List Nat} {n:Nat} {ks N:List Nat} (h:Clo E n ks N):CloR E n ks N 0 N :=
 ⟨h,fun _ h=>h,fun _=>rfl,fun _ _ _ _ h=>absurd h (by omega)⟩
theorem CloR.add {E:Nat→List Nat} {n i k:Nat} {ks N0 N:List Nat} (h:CloR E n ks N0 (i*n+k) N) (hk:k<n) (hi:i∈N) (hE:k∈E i) (hn:k∉N) (hlt:∀ i,∀ k∈E i,k<n):CloR E n ks N0 (i*n+k+1) (N++[k]):=by
 refine⟨⟨?_,fun j hj=>?_,fun j hj=>?_,fun j hj=>List.mem_append_left _ (h.clo.start j hj)⟩,fun j hj=>List.mem_append_left _ (h.sub j hj),fun hs=>?_,fun a ha b hb hp=>?_⟩
 ·rw[List.nodup_append];refine⟨h.clo.nd,by simp,fun a ha b hb e=>?_⟩
  obtain rfl:=List.mem_singleton.1 hb;exact hn (e▸ha)
 ·rcases List.mem_append.1 hj with hj | hj
  ·exact h.clo.lt j hj
  ·obtain rfl:=List.mem_singleton.1 hj;exact hk
 ·rcases List.mem_append.1 hj with hj | hj
  ·exact h.clo.reach j hj
  ·obtain rfl:=List.mem_singleton.1 hj;exact .step (h.clo.reach i hi) hE
 ·have e:=h.same hs;subst e;exact absurd (hs i hi k hE) hn
 ·by_cases e:a*n+b=i*n+k
  ·obtain⟨rfl,rfl⟩:=zrq (hlt a b hb) hk e;exact List.mem_append_right _ List.mem_cons_self
  ·exact List.mem_append_left _ (h.done a ha b hb (by omega))
theorem CloR.skip {E:Nat→List Nat} {n i k:Nat} {ks N0 N:List Nat} (h:CloR E n ks N0 (i*n+k) N) (hk:k<n) (hn:i∈N→k∈E i→k∈N) (hlt:∀ i,∀ k∈E i,k<n):CloR E n ks N0 (i*n+k+1) N:=by
 refine⟨h.clo,h.sub,h.same,fun a ha b hb hp=>?_⟩
 by_cases e:a*n+b=i*n+k
 ·obtain⟨rfl,rfl⟩:=zrq (hlt a b hb) hk e;exact hn (h.sub a ha) hb
 ·exact h.done a ha b hb (by omega)
def CloN (E:Nat→List Nat) (n:Nat) (ks:List Nat) (r:Nat) (N:List Nat):Prop:=Clo E n ks N∧(zyu E N∨r+1≤N.length)
theorem CloN.zero {E:Nat→List Nat} {n:Nat} {ks N:List Nat} (h:Clo E n ks N):CloN E n ks 0 N:=by
 refine⟨h,?_⟩
 cases N with
 | nil=>exact Or.inl (fun k hk=>by cases hk)
 | cons a N=>exact Or.inr (by simp)
theorem CloN.turn {E:Nat→List Nat} {n r:Nat} {ks N0 N:List Nat} (h0:CloN E n ks r N0) (h:CloR E n ks N0 (n*n) N) (hlt:∀ i,∀ k∈E i,k<n):CloN E n ks (r+1) N:=by
 refine⟨h.clo,?_⟩
 by_cases hs:zyu E N0
 ·have:=h.same hs;subst this;exact Or.inl hs
 ·right
  rcases h0.2 with h1 | h1
  ·exact absurd h1 hs
  ·have hex:∃ i∈N0,∃ k∈E i,k∉N0:=Classical.byContradiction (fun hno=>hs (fun i hi k hk=>Classical.byContradiction (fun hm=>hno ⟨i,hi,k,hk,hm⟩)));obtain⟨i,hi,k,hk,hm⟩:=hex;have hin:=h0.1.lt i hi;have hkn:=hlt i k hk;have hkN:=h.done i hi k hk (by
    have:(i+1)*n≤n*n:=Nat.mul_le_mul_right n (by omega)
    rw[Nat.succ_mul] at this;omega)
   have:=zc6 (k::N0) N (List.nodup_cons.2 ⟨hm,h0.1.nd⟩) (fun x hx=>by
    rcases List.mem_cons.1 hx with rfl | hx
    ·exact hkN
    ·exact h.sub x hx)
   simp only[List.length_cons] at this;omega
theorem CloN.stop {E:Nat→List Nat} {n:Nat} {ks N:List Nat} (h:CloN E n ks n N) (k:Nat):k∈N↔Reach E ks k:=by
 have hs:zyu E N:=by
  rcases h.2 with h1 | h1
  ·exact h1
  ·have:=zeo n N h.1.nd h.1.lt;omega
 refine⟨h.1.reach k,fun hr=>?_⟩
 induction hr with
 | base hk=>exact h.1.start _ hk
 | step _ hk ih=>exact hs _ ih _ hk
def SheetBad (S:Nat→Addr) (l:List RuleL) (B:Nat) (err:Value) (w':World):Prop :=
 (40<l.length∧err=errI (S 1)) ∨
 (l.length≤40∧∃ i r m g,(∀ j q,j<i→l[j]? = some q→zcy l j q=0)∧l[i]? = some r∧zcy l i r=m+1∧err=.iface 220 (.pointer (some ⟨g,0,none⟩))∧B≤g∧w'.heap[g]? = some (.cells #[.int .i64 (i:Int),errI (S m)] 222 (0,0)))
def zbq (l:List RuleL):Prop:=l.length≤40∧Right l
theorem zgi {S:Nat→Addr} {l:List RuleL} {B:Nat} {e:Ending} {w':World} (h:zrn S l B e w'):(zbq l∧e=.returned .nilIface)∨∃ T x,e=.returned (.iface T x)∧SheetBad S l B (.iface T x) w':=by
 rcases h with ⟨h1,h2,rfl⟩ |⟨h1,rfl⟩ |⟨h0,i,r,m,g,h1,h2,h3,rfl,h5,h6⟩
 ·exact Or.inl ⟨⟨h1,h2⟩,rfl⟩
 ·exact Or.inr ⟨_,_,rfl,Or.inl ⟨h1,rfl⟩⟩
 ·exact Or.inr ⟨_,_,rfl,Or.inr ⟨h0,i,r,m,g,h1,h2,h3,rfl,h5,h6⟩⟩
theorem SheetBad.wrong {S:Nat→Addr} {l:List RuleL} {B:Nat} {err:Value} {w':World} (h:SheetBad S l B err w'):¬ zbq l:=fun hr=>by
 rcases h with ⟨h1,-⟩ |⟨-,i,r,m,g,-,h2,h3,-⟩
 ·have:=hr.1; omega
 ·have:=hr.2 i r h2;omega
theorem zls (p:RV→Bool) (R:List RV):(∃ k,∃ h:k<R.length,idxR p R=(k:Int)∧p R[k]=true)∨(idxR p R = -1∧∀ x∈R,p x=false):=by
 unfold idxR;by_cases h:R.findIdx p<R.length
 ·exact Or.inl ⟨_,h,by rw[if_pos h],List.findIdx_getElem⟩
 ·refine Or.inr ⟨by rw[if_neg h],fun x hx=>Bool.eq_false_iff.2 (fun hp=>h (List.findIdx_lt_length.2 ⟨x,hx,hp⟩))⟩
def PlacesAt (l:List RuleL) (outs:List (List UInt8)) (ks:List Nat):Prop:=(∀ k∈ks,k<l.length)∧ks.map (fun k=>(l.getD k noR).out)=outs
theorem PlacesAt.nil (l:List RuleL):PlacesAt l [] []:=⟨fun k h=>(by cases h),rfl⟩
theorem PlacesAt.snoc {l:List RuleL} {outs:List (List UInt8)} {ks:List Nat} {k:Nat} {s:List UInt8} (h:PlacesAt l outs ks) (hk:k<l.length) (he:l[k].out=s):PlacesAt l (outs++[s]) (ks++[k]):=by
 refine⟨fun j hj=>?_,?_⟩
 ·rcases List.mem_append.1 hj with hj | hj
  ·exact h.1 j hj
  ·obtain rfl:=List.mem_singleton.1 hj;exact hk
 ·rw[List.map_append,h.2,List.map_singleton,List.getD_eq_getElem?_getD,List.getElem?_eq_getElem hk,Option.getD_some,he]
theorem PlacesAt.len {l:List RuleL} {outs:List (List UInt8)} {ks:List Nat} (h:PlacesAt l outs ks):ks.length=outs.length:=by
 rw[← h.2,List.length_map]
theorem PlacesAt.mem {l:List RuleL} {outs:List (List UInt8)} {ks:List Nat} (h:PlacesAt l outs ks) (hr:Right l) {k:Nat} (hk:k<l.length):k∈ks↔l[k].out∈outs:=by
 rw[← h.2,List.mem_map]
 constructor
 ·intro hm;exact⟨k,hm,by rw[List.getD_eq_getElem?_getD,List.getElem?_eq_getElem hk]; rfl⟩
 ·rintro⟨j,hj,e⟩;have hj2:=h.1 j hj;rw[List.getD_eq_getElem?_getD,List.getElem?_eq_getElem hj2,Option.getD_some] at e;have:=hr.outs hj2 hk e;exact this▸hj
def zgj (N:List Nat):List (Int×Bool):=N.map fun (k:Nat)=>((k:Int),true)
theorem zhz (N:List Nat) (k:Nat):zaa (k:Int) (zgj N)=if k∈N then some true else none:=by
 induction N with
 | nil=>rfl
 | cons a N ih =>
  unfold zgj at ih ⊢;rw[List.map_cons];unfold zaa;by_cases h:a=k
  ·subst h;simp
  ·have h1:¬ (a:Int)=(k:Int):=by omega
   have h2:¬ k=a:=fun e=>h e.symm;simp only[h1,if_false,List.mem_cons,h2,false_or];exact ih
theorem zvz {N:List Nat} {k:Nat} (h:k∉N):mupd (k:Int) true (zgj N)=zgj (N++[k]):=by
 have h1:za3 (k:Int) (zgj N)=none:=by
  have h2:=zbh (k:Int) (zgj N);rw[zhz,if_neg h] at h2;cases hp:za3 (k:Int) (zgj N) with
  | none=>rfl
  | some j=>rw[hp] at h2; cases h2
 rw[zjl h1];simp[zgj]
def zv0 (w:World) (b:Nat):Nat:=match w.heap[b]? with
 | some (.map es _)=>es.size
 | _=>0
theorem zoc {κ α:Type} {ek:κ→Value} {ev:α→Value} {w:World} {b:Nat} {l:List (κ×α)} (h:MapIs ek ev w b l):zv0 w b=l.length:=by
 obtain⟨es,clock,h1,h2,-⟩:=h;unfold zv0;rw[h1];have:=congrArg List.length h2;simpa using this
theorem zp7:Tryz.prog.underlying 217=some (.map 3 4):=Tryz.underlying217
theorem zd3:KeyBy Tryz.prog 3 (Value.int .i64):=KeyBy.int Tryz.underlying3
theorem zrr (w:World):(zeroValue 4).run Tryz.prog w=.ok (.bool false) w:=by kernel_rfl
theorem zv1 {w:World} {b:Nat} {N:List Nat} (h:MapIs (Value.int .i64) Value.bool w b (zgj N)) {k:Nat} (hk:k∉N) :
  ∃ W,(Instr.mapUpdate 217 (.map (some b)) (.int .i64 (k:Int)) (.bool true)).run Tryz.prog w=.ok () W∧MapIs (Value.int .i64) Value.bool W b (zgj (N++[k]))∧Fr w.heap.size (fun q=>q=b) w W∧W.heap.size=w.heap.size:=by
 obtain⟨es,c,h1,h2⟩:=MapIs.update zd3 zp7 h (k:Int) true;rw[zvz hk] at h2;exact⟨_,h1,h2,Fr.putMap (S:=fun q=>q=b) (.refl _ _ _) (fun _=>rfl) _ _,by simp[Kf.putMap]⟩
theorem zs4 (N:List Nat) (i:Nat):zbt (i+1) N=zbt i N++if N.contains i then [i] else []:=by
 unfold zbt;rw[List.range_succ,List.filter_append]
 congr 1
 by_cases h:i∈N
 ·simp[h]
 ·simp[h]
theorem zb1 (l:List RuleL) (i:Nat):∀ k∈zae l i,k<l.length:=fun _ hk=>List.mem_range.1 (List.mem_filter.1 hk).1
theorem zv2 (l:List RuleL) (i:Nat):(zae l i).length≤l.length:=by
 unfold zae;exact Nat.le_trans (List.length_filter_le _ _) (by simp)
theorem zs5 (x:RV) (B:Nat) (s:List UInt8) (W:World) (hc:W.cell? ⟨B,0,none⟩=some (str s)) :
  Calls Tryz.prog 150 #[zsx x, .pointer (some ⟨B,0,none⟩)] W fun e w'=>e=.returned (.bool (x.1.out==s))∧Below W.heap.size W w':=by
 obtain⟨⟨x0,x1,x2,x4⟩,x3⟩:=x;simp only;obtain⟨W0,hW0⟩:∃ W0,W.alloc (.cells #[str x0,str x1,str x2,x3] 35)=W0:=⟨_,rfl⟩;have hA:Below W.heap.size W W0:=hW0▸(Below.refl _ W).alloc (Nat.le_refl _) _;have h0:W0.cell? ⟨W.heap.size,0,none⟩=some (str x0):=by rw[← hW0,cell_of_heap (heap_alloc_here W _)]; rfl
 have h1:=(hA.cell (p:=⟨B,0,none⟩) (zad hc)).trans hc;have HA:=Hd hA;obtain⟨b,hb⟩:∃ b,(x0==s)=b:=⟨_,rfl⟩;rw[hb];clear hc hA;go_enter Tryz.func150,Tryz.ntmps150
 go_wp2
 go_ret
 exact⟨rfl,HA.out⟩
theorem zh0 {l:List RuleL} {i k:Nat} (h:k∈zae l i):k<l.length∧zda l i k=true:=by
 obtain⟨h1,h2⟩:=List.mem_filter.1 h;exact⟨List.mem_range.1 h1,h2⟩
theorem zh1 {l:List RuleL} {i k:Nat} (hk:k<l.length) (h:zda l i k=true):k∈zae l i:=List.mem_filter.2 ⟨List.mem_range.2 hk,h⟩
end Go.Proofs.YtgjialbmlhbngaaGreatDoor
