/-
  The reference's BuildFault at any rules and outs. The reference's WantFault at any rules and out; CopyTree. The reference's CopyTree.
-/
import Derived.Test.YtgjialbmlhbngaaGreatDoorPkI
import Derived.Test.YtgjialbmlhbngaaGreatDoorPkM
import Derived.Test.YtgjialbmlhbngaaGreatDoorPkH
import Derived.Laws.CopyOwn
import Derived.Test.YtgjialbmlhbngaaGreatDoorPkQ
import Derived.Test.YtgjialbmlhbngaaGreatDoorPkF
import Derived.Deep.RegionLaw
import Derived.Laws.AppendOwnNone

set_option maxRecDepth 100000
namespace Go.Proofs.YtgjialbmlhbngaaGreatDoor
open Go Go.RowKit Go.Kf Go.Sort Go.Proofs
def zf3 (l:List RuleL) (outs:List (List UInt8)) (c:Nat) (p:Int):Prop :=
 (¬ zbq l∧0<c∧zfn l c p) ∨
 (zbq l∧∃ i,∃ h:i<outs.length,(∀ j (hj:j<outs.length),j<i→outs[j]∈l.map RuleL.out)∧outs[i]∉l.map RuleL.out∧c=6∧p=(i:Int)) ∨
 (zbq l∧∃ (ks N:List Nat),PlacesAt l outs ks∧(∀ k,k∈N↔Reach (zae l) ks k)∧((zau (zae l) (fun k=>N.contains k) l.length=none∧c=9∧p = -1)∨(∃ o,zau (zae l) (fun k=>N.contains k) l.length=some o∧c=0∧p = -1)))
theorem zl0 {l:List RuleL} {p:Int} (h:zfn l 0 p):zbq l∧p = -1:=by
 rcases h with ⟨h1,h2,-,h3⟩ |⟨-,h,-⟩ |⟨-,i,r,m,-,-,-,h,-⟩
 ·exact⟨⟨h1,h2⟩,h3⟩
 ·omega
 ·omega
theorem zow {l:List RuleL} {c:Nat} {p:Int} (h:zfn l c p) (hc:0<c):¬ zbq l:=fun hr=>by
 rcases h with ⟨-,-,h,-⟩ |⟨h,-,-⟩ |⟨-,i,r,m,-,h2,h3,-,-⟩
 ·omega
 ·have:=hr.1; omega
 ·have:=hr.2 i r h2; omega
theorem zhh {B:Nat} {w w':World} (h:Below B w w') {r:Nat} (hr:B≤r) (a b:Value):Below B w ((w'.setCell ⟨r,0,none⟩ a).setCell ⟨r,1,none⟩ b) :=
 (h.setCell (p:=⟨r,0,none⟩) hr a).setCell (p:=⟨r,1,none⟩) hr b
set_option maxHeartbeats 4000000 in
theorem ztu (R:List RV) (v:Value) (outs:List (List UInt8)) (vo:Value) (w:World) (hr:ReadsK 4 w v (R.map zay)) (hx:∀ x∈R,Reads w x.2 (x.1.ins.map str)) (hO:Reads w vo (outs.map str))
  (hb:∀ x∈R,x.1.out.length≤1000000∧x.1.word.length≤100000∧(∀ s∈x.1.ins,s.length≤1000000)∧x.1.ins.length≤1000) (hn:R.length≤1000) (ho:outs.length≤1000) :
  Calls Tryz.prog 33 #[v,vo] w fun e w'=>(∃ c p,zf3 (R.map Prod.fst) outs c p∧e=.returned (zdz c p))∧Below w.heap.size w w':=by
 have hrow:∀ r∈R.map zay,r≠[]:=fun r hr=>by obtain⟨x,-,rfl⟩:=List.mem_map.1 hr; simp[zay]
 obtain⟨W0,hW0⟩:∃ W,w.alloc (.cells #[.int .i64 0, .int .i64 0] 71)=W:=⟨_,rfl⟩;have hA0:Below w.heap.size w W0:=hW0▸(Below.refl _ w).alloc (Nat.le_refl _) _;have hz0:w.heap.size<W0.heap.size:=by rw[← hW0]; simp
 have hg0:W0.heap[w.heap.size]? = some (.cells #[.int .i64 0, .int .i64 0] 71 (0,0)):=hW0▸heap_alloc_here w _;have HRES:Hid (∀ wl,Below W0.heap.size W0 wl→wl.heap[w.heap.size]? = some (.cells #[.int .i64 0, .int .i64 0] 71 (0,0))):=Hd (fun wl hb=>(hb.block _ hz0).trans hg0);have HW:Hid (∀ wl,Below W0.heap.size W0 wl→Below w.heap.size w wl):=Hd (fun wl hb=>hA0.trans (hb.mono (Nat.le_of_lt hz0)));have KS:=Hd (fun wl (hb':Below w.heap.size w wl)=>zgb R v wl (zao hr hrow hb') (fun x h=>(hx x h).below0 hb') hb);have KN:=Hd (fun wl (hb':Below w.heap.size w wl) (hR:zbq (R.map Prod.fst))=>ziq R v outs vo wl (zao hr hrow hb') (fun x h=>(hx x h).below0 hb') (hO.below0 hb') hR hn ho);have KO:=Hd (fun wl (hb':Below w.heap.size w wl) (isB:Nat→Bool) (gs:Nat) (hs:Bits wl gs ((List.range R.length).map isB))=>zin R v isB gs wl (zao hr hrow hb') (fun x h=>(hx x h).below0 hb') hs hn);have hml:(R.map Prod.fst).length=R.length:=List.length_map _;have HML:=Hd hml;have HZ0:=Hd hz0;have HW0:=Hd hW0;clear hr hx hO hb hrow hA0 hg0 hml hz0;go_enter Tryz.func33,Tryz.ntmps33
 go_wp2_with fail
 clear hW0;refine (KS.out W0 (HW.out _ (Below.refl _ _))).mono ?_
 rintro e w1 ⟨⟨c,p,hf,rfl⟩,hb1⟩;have HF:=Hd hf;have HB1:=Hd hb1;obtain⟨W1,hW1⟩:∃ W,w1.alloc (.cells #[.int .i64 (c:Int), .int .i64 p] 71)=W:=⟨_,rfl⟩;have hA1:Below W0.heap.size W0 W1:=hb1.trans (hW1▸((Below.refl W0.heap.size w1).alloc hb1.size _));have hg1:W1.heap[w1.heap.size]? = some (.cells #[.int .i64 (c:Int), .int .i64 p] 71 (0,0)):=hW1▸heap_alloc_here w1 _;have HG1:=Hd hg1;have HA1:=Hd hA1;have HFF:Hid (∀ wl,Below W1.heap.size W1 wl→(∀ k,wl.cell? ⟨w1.heap.size,k,none⟩=(#[.int .i64 (c:Int), .int .i64 p]:Array Value)[k]?)):=Hd (fun wl hb k=>cell_of_heap ((hb.block _ (zab hg1)).trans hg1) k);have HWA:Hid (∀ wl,Below W1.heap.size W1 wl→Below W0.heap.size W0 wl):=Hd (fun wl h=>hA1.trans (h.mono hA1.size));have HW1:=Hd hW1;have hz1:=hA1.size;simp only[zdz];cases c with
 | succ ec =>
  have HANS:Hid (zf3 (R.map Prod.fst) outs (ec+1) p):=Hd (Or.inl ⟨zow hf (Nat.succ_pos _),Nat.succ_pos _,hf⟩);have hpos:(0<((ec+1:Nat):Int))=True:=eq_true (by omega)
  have HR1:Hid (∀ ob,(w1.alloc ob).heap[w.heap.size]? = some (.cells #[.int .i64 0, .int .i64 0] 71 (0,0))):=Hd (fun ob=>Kf.heap_alloc_old (HRES.out w1 hb1) ob);have h50:=fun ob=>(zax (HR1.out ob)).1;have h51:=fun ob=>(zax (HR1.out ob)).2.1;have h52:=fun ob=>(zax (HR1.out ob)).2.2;have hgf:=fun k=>(cell_of_heap (heap_alloc_here w1 (.cells #[.int .i64 ((ec:Int)+1), .int .i64 p] 71)) k);have HBF:Hid (∀ ob,Below w.heap.size w (w1.alloc ob)):=Hd (fun ob=>(HW.out _ hb1).alloc (by have:=(HW.out _ hb1).size; omega) ob)
  clear hb1 hf hA1 hg1 hW1;go_wp2
  refine bodyPost_ret (zcg rfl _ _ w.heap.size _ _ rfl (zb5 (HR1.out _) _ _)) rfl ?_
  exact⟨⟨ec+1,p,HANS.out,rfl⟩,zhh (HBF.out _) (Nat.le_refl _) _ _⟩
 | zero =>
  obtain⟨hrs,rfl⟩:=zl0 hf;have HRS:=Hd hrs;have KN1:=Hd (KN.out W1 (HW.out _ hA1) hrs);have hpos:(0<((0:Nat):Int))=False:=eq_false (by omega)
  have hgf:=HFF.out W1 (Below.refl _ _);rw[← hW1] at hgf;clear hb1 hf hA1 hg1 hW1 hrs;have HW1z:Hid (w1.alloc (.cells #[.int .i64 0, .int .i64 (-1)] 71)=W1):=Hd HW1.out;go_wp2_with fail
  rw[HW1z.out];refine KN1.out.mono ?_
  rintro e w2 ⟨⟨ks,N,hpl,hN,rfl,hbits⟩ |⟨i,hi,h1,h2,rfl⟩,hb2⟩
  ·have HPL:=Hd hpl;have HN:=Hd hN;have hb2':=HWA.out _ hb2;have KO1:=Hd (KO.out w2 (HW.out _ hb2') (fun k=>N.contains k) W1.heap.size hbits);have HB2:=Hd hb2;clear hpl hN hbits hb2 hb2';go_wp2_with fail
   refine KO1.out.mono ?_
   rintro e w3 ⟨⟨o,u,ho,rfl,-⟩ |⟨ho,rfl⟩,hb3⟩
   ·have HB3:=Hd (HB2.out.trans (hb3.mono HB2.out.size));have HANS:Hid (zf3 (R.map Prod.fst) outs 0 (-1)):=Hd (Or.inr (Or.inr ⟨HRS.out,ks,N,HPL.out,HN.out,Or.inr ⟨o,ho,rfl,rfl⟩⟩));have hr3:=HRES.out w3 (HWA.out _ HB3.out);have HR3:=Hd hr3;obtain⟨hcs,hf0,hf1⟩:=zax hr3;have hg3:=HFF.out w3 HB3.out;clear ho hb3 hr3;go_wp2
    refine bodyPost_ret (zcg rfl _ _ w.heap.size _ _ rfl (zb5 HR3.out _ _)) rfl ?_
    exact⟨⟨0,-1,HANS.out,rfl⟩,zhh (HW.out _ (HWA.out _ HB3.out)) (Nat.le_refl _) _ _⟩
   ·have HB3:=Hd (HB2.out.trans (hb3.mono HB2.out.size));have HANS:Hid (zf3 (R.map Prod.fst) outs 9 (-1)):=Hd (Or.inr (Or.inr ⟨HRS.out,ks,N,HPL.out,HN.out,Or.inl ⟨ho,rfl,rfl⟩⟩));have KB:=Hd (zrv 9 w3);clear ho hb3;go_wp2_with fail
    refine KB.out.mono ?_
    rintro e w4 ⟨rfl,hb4⟩;have HB4:=Hd (HB3.out.trans (hb4.mono HB3.out.size));have hr3:=HRES.out w4 (HWA.out _ HB4.out);have HR3:=Hd hr3;obtain⟨hcs,hf0,hf1⟩:=zax hr3;clear hb4 hr3;go_wp2
    refine bodyPost_ret (zcg rfl _ _ w.heap.size _ _ rfl (zb5 HR3.out _ _)) rfl ?_
    exact⟨⟨9,-1,HANS.out,rfl⟩,zhh (HW.out _ (HWA.out _ HB4.out)) (Nat.le_refl _) _ _⟩
  ·have HB2:=Hd hb2;have HANS:Hid (zf3 (R.map Prod.fst) outs 6 (i:Int)):=Hd (Or.inr (Or.inl ⟨HRS.out,i,hi,h1,h2,rfl,rfl⟩));have hr3:=HRES.out w2 (HWA.out _ HB2.out);have HR3:=Hd hr3;obtain⟨hcs,hf0,hf1⟩:=zax hr3;have hin:((i:Int)<0)=False:=eq_false (by omega)
   clear h1 h2 hb2 hr3;go_wp2
   refine bodyPost_ret (zcg rfl _ _ w.heap.size _ _ rfl (zb5 HR3.out _ _)) rfl ?_
   exact⟨⟨6,i,HANS.out,rfl⟩,zhh (HW.out _ (HWA.out _ HB2.out)) (Nat.le_refl _) _ _⟩
theorem zhi {P:Program} {ops:Array Oper} {o:Oper} {a:Act} {w:World} {K:Act→World→Prop} {Q:Exit→Act→World→Prop} {E:Prop}
  (hg:o.guard=none) (s x:Operand) (T:TypeId) (hop:o.op=Op.call { callee:=Callee.builtin Builtin.append,args:=#[s,x],argTypes:=#[T,T] })
  (base:Nat) (e:TypeId) (i:TypeInfo) (size:Nat) (ht:P.underlying T=some (.slice e)) (hi:P.info? e=some i)
  (v:Value) (n:Nat) (xs:List Value) (hs:a.eval s=v) (hown:w.ownsRow base e size v n xs) (hx:a.eval x=.slice none 0 0)
  (h:K (a.put o.dst v) w):if Region.wanted o (yielded ops a.tmps)=true then Oper.wp P o a w K Q else E:=by
 have hw:Region.wanted o (yielded ops a.tmps)=true:=by simp[Region.wanted,hg]
 rw[if_pos hw];have hrun:=run_append_owned_none (P:=P) (w:=w) base T o.type e i size ht hi v n xs hown;unfold Oper.wp;simp[execOp,hop,resolve,invoke,builtin,hs,hx,hrun,Result.andThen];exact h
set_option maxHeartbeats 4000000 in
theorem zwy (base rb:Nat) (lv:Value) (L:List Ent) (w:World) (h:RTAt base w rb lv L) (hn:L.length≤1000) :
  Calls Tryz.prog 91 #[.pointer (some ⟨rb,0,none⟩)] w fun e w'=>∃ lv',e=.returned (.pointer (some ⟨w.heap.size,0,none⟩))∧RTAt w.heap.size w' w.heap.size lv' L∧Below w.heap.size w w':=by
 obtain⟨W1,hW1⟩:∃ W,w.alloc (.cells #[.slice none 0 0] 142)=W:=⟨_,rfl⟩;have hA:Below w.heap.size w W1:=hW1▸(Below.refl _ w).alloc (Nat.le_refl _) _;have h1:=h.below hA;have hg1:W1.heap[w.heap.size]? = some (.cells #[.slice none 0 0] 142 (0,0)):=hW1▸heap_alloc_here w _;have hz1:W1.heap.size=w.heap.size+1:=by rw[← hW1]; simp
 have hrb:rb<w.heap.size:=zab h.blk;have hc1:=h1.cell;have hrd:=h1.reads;have HA:=Hd hA;have HG1:=Hd hg1;have HZ1:=Hd hz1;have hd1:W1.cell? ⟨w.heap.size,0,none⟩=some (.slice none 0 0):=(cell_of_heap hg1 0).trans rfl;have HW1:=Hd hW1;have HST:Hid (∀ (wl:World) (v':Value),wl.heap[w.heap.size]? = some (.cells #[.slice none 0 0] 142 (0,0))→(wl.setCell ⟨w.heap.size,0,none⟩ v').heap[w.heap.size]? = some (.cells #[v'] 142 (0,0))):=Hd (fun wl v' hh=>(Kf.heap_setCell_same hh v').trans rfl);rcases h.row.2 with ⟨rfl,h0⟩ |⟨g,cap,cur,rfl,hg,hh,hnc,hcap,hsz,htake⟩
 ·have hL:L=[]:=List.length_eq_zero_iff.1 (by have:=hrd.len; simpa using this.symm)
  subst hL;obtain⟨i,hi,hi0,hi1,hi2⟩:=info_parts tyFiles.info;have hf1:W1.frozen? ⟨w.heap.size,0,none⟩=false:=zal hg1 0;clear h0 hrd h1 h hg1 hA hz1 hW1;go_enter Tryz.func91,Tryz.ntmps91
  go_wp2_with fail
  rw[HW1.out]
  go_region_law (first
   |(refine zhi rfl (.tmp 10) (.tmp 14) 37 rfl 0 39 i 2 tyFiles.und hi _ 0 [] rfl (World.ownsRow_nil _ _ _ _) rfl ?_))
  all_goals
   go_wp2
   go_ret
   exact⟨_,rfl,⟨HST.out W1 _ HG1.out,World.ownsRow_nil _ _ _ _,fun h=>by cases h⟩,(HA.out.setCell (p:=⟨w.heap.size,0,none⟩) (Nat.le_refl _) _).drew⟩
 ·have hnw:∀ wl,Below W1.heap.size W1 wl→∀ j u,(zav L)[j]? = some u→wl.cell? ((⟨g,0,none⟩:Addr).add j)=some u:=by
   intro wl hb j u hj;obtain⟨r,h1',h2'⟩:=zh8 (by decide) (L.map zam) (fun r hr'=>(zbk r hr').1) j u hj
   obtain⟨a',c',e',-,hc⟩:=zao hrd (fun r hr=>by obtain⟨x,-,rfl⟩:=List.mem_map.1 hr; simp[zam]) hb
   obtain⟨rfl,-,-⟩:=Value.slice.inj e';obtain⟨b,off,e',hcell⟩:=hc _ r h1';cases e'
   have:=hcell _ u h2';rw[show 0+j / 2*2+j % 2=0+j by omega] at this
   rw[zb0 rfl];exact this
  have HNW:=Hd hnw;have hfl:(zav L).length=L.length*2:=by
   clear hnw HNW hnc hcap hsz htake hh hrd h1 h hc1 hn
   induction L with
   | nil=>rfl
   | cons x L ih=>simp only[zav,List.map_cons,List.flatten_cons,List.length_append] at ih ⊢; simp[ih]; omega
  have hone:∀ u∈zav L,u.oneCell'=true:=fun u hu=>by
   obtain⟨r,hr1,hr2⟩:=List.mem_flatten.1 hu;exact (zbk r hr1).2 u hr2
  have HFL:=Hd hfl;have HON:=Hd hone;clear hh hnc hcap hsz htake hrd h1 h hg1 hA hz1 hW1 hnw hfl hone;go_enter Tryz.func91,Tryz.ntmps91
  go_wp2_with fail
  rw[HW1.out]
  go_region_law (first
   |(refine zu2 rfl (.tmp 10) (.tmp 14) 37 rfl tyFiles w.heap.size (.slice none 0 0) 0 [] rfl (World.ownsRow_nil _ _ _ _) ⟨g,0,none⟩ L.length cap (zav L) rfl HFL.out ?_ HON.out (by decide) ?_ ?_ ?_
     ·first | exact HNW.out _ (Below.refl _ _).drew | exact HNW.out _ (Below.refl _ _)
     ·omega
     ·have:=HA.out.size; first | exact this | (simp; omega)
     intro v6 w6 ho6 hg6 hloc6;have hb6:Below W1.heap.size W1 w6:=by
      first
      | exact (Below.refl W1.heap.size W1).drew.grown hg6 (Nat.le_refl _) (fun q hq=>by cases hq)
      | exact (Below.refl W1.heap.size W1).grown hg6 (Nat.le_refl _) (fun q hq=>by cases hq)
     have hg7:=(hb6.block w.heap.size (by have:=HZ1.out; omega)).trans HG1.out
     have d6:w6.cell? ⟨w.heap.size,0,none⟩=some (.slice none 0 0):=(cell_of_heap hg7 0).trans rfl;have f6:w6.frozen? ⟨w.heap.size,0,none⟩=false:=zal hg7 0;obtain⟨a6,c6,hv6⟩:∃ a6 c6,v6=.slice a6 L.length c6:=by
      rcases ho6.2 with ⟨h,h0⟩ |⟨g,cap,cur,h,-⟩
      ·exact⟨none,0,by rw[h,show L.length=0 by omega]⟩
      ·exact⟨_,cap,by rw[h,Nat.zero_add]⟩
     subst hv6;have HG7:=Hd hg7;have HB6:=Hd hb6;have HO6:=Hd ho6;have HL6:=Hd hloc6;clear hg7 hb6 ho6 hg6 hloc6))
  all_goals
   go_wp2
   go_ret
   have hlo:∀ k,(Value.slice a6 L.length c6).ownBlock=some k→k=w.heap.size+1:=fun k hk=>by
    rcases HL6.out with h | h
    ·rw[hk] at h; cases h
    ·rw[hk] at h;have:=Option.some.inj h;have:=HZ1.out
     first | omega | (simp at *; omega)
   refine⟨_,rfl,⟨HST.out w6 _ HG7.out,?_,fun h=>by have:=hlo _ h; omega⟩,(HA.out.trans (HB6.out.mono HA.out.size)).setCell (p:=⟨w.heap.size,0,none⟩) (Nat.le_refl _) _⟩
   have ho:=HO6.out;rw[List.nil_append,Nat.zero_add] at ho;exact zaf (B:=w6.heap.size) (S:=fun q=>q=w.heap.size) ho (Fr.setCell (S:=fun q=>q=w.heap.size) (p:=⟨w.heap.size,0,none⟩) (Fr.refl _ _ _) (fun _=>rfl) _) (fun k hk=>⟨(ho.lt k hk).2,by have:=hlo k hk; omega⟩)
end Go.Proofs.YtgjialbmlhbngaaGreatDoor
