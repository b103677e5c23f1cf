/-
  The reference's yard: Make of outs of the sheet to play with.
-/
import Derived.Test.YtgjialbmlhbngaaGreatDoorRsD
import Derived.Test.YtgjialbmlhbngaaGreatDoorPkT
import Derived.Test.YtgjialbmlhbngaaGreatDoorRbK
import Derived.Test.YtgjialbmlhbngaaGreatDoorRsA
import Derived.Test.YtgjialbmlhbngaaGreatDoorPkI
import Derived.Deep.RegionHeld3

set_option maxRecDepth 100000
namespace Go.Proofs.YtgjialbmlhbngaaGreatDoor
open Go Go.RowKit Go.Kf Go.Sort Go.Proofs
structure RPSt (w1:World) (Z:RY) (a:PS) (L O:List Ent) (w:World):Prop where
 yard:RYAt w1.heap.size Z L O a.c w
 twt:Tw a.m L
 two:Tw a.mo O
 cok:COk (some a.c)
 low:Below w1.heap.size w1 w
theorem RPSt.below {w1 w w':World} {Z:RY} {a:PS} {L O:List Ent} (h:RPSt w1 Z a L O w) (hb:Below w.heap.size w w'):RPSt w1 Z a L O w':=⟨h.yard.below hb,h.twt,h.two,h.cok,h.low.trans (hb.mono h.low.size)⟩
theorem zq3 {outs:List (List UInt8)} {c:Nat} {p:Int} (h:zf3 playL outs c p) (ho:∀ s∈outs,s∈playL.map RuleL.out):c=0∧p = -1:=by
 rcases h with ⟨h,-⟩ |⟨-,i,hi,-,hno,-⟩ |⟨-,ks,N,hpl,hN,⟨hnone,-⟩ |⟨o,-,h1,h2⟩⟩
 ·exact absurd playL_right h
 ·exact absurd (ho _ (List.getElem_mem hi)) hno
 ·exact absurd hnone (znd hN)
 ·exact⟨h1,h2⟩
open Classical in
theorem zub {ks:List Nat} (hk:∀ k∈ks,k<playL.length):∃ P o,(∀ k,k∈P↔Reach (zae playL) ks k)∧Ord playL P o:=by
 have hN:∀ k,k∈(List.range playL.length).filter (fun k=>decide (Reach (zae playL) ks k))↔Reach (zae playL) ks k:=fun k=>by
  rw[List.mem_filter,List.mem_range,decide_eq_true_iff];exact⟨fun h=>h.2,fun h=>⟨h.lt (fun a b hb=>zb1 _ a b hb) hk,h⟩⟩
 generalize (List.range playL.length).filter (fun k=>decide (Reach (zae playL) ks k))=N at hN;have hlt:∀ k∈N,k<playL.length:=fun k h=>((hN k).1 h).lt (fun a b hb=>zb1 _ a b hb) hk;have hm:∀ k,k∈zbt playL.length N↔Reach (zae playL) ks k:=fun k=>by rw[zdp hlt]; exact hN k
 have hne:=znd hm;cases ho:zau (zae playL) (fun i=>(zbt playL.length N).contains i) playL.length with
 | none=>exact absurd ho hne
 | some o=>exact⟨_,o,hm,ord_of playL_right hk hN ho⟩
theorem zpg (R:List RV) (avl:Option Addr) (cvl:Nat) (gs:Nat) (w:World) (hR:R.map Prod.fst=playL) (hr:ReadsK 4 w (.slice avl 6 cvl) (R.map zay)) (hx:∀ x∈R,Reads w x.2 (x.1.ins.map str)) (hs:Bits w gs (List.replicate 6 true)) :
  Calls Tryz.prog 89 #[.slice avl 6 cvl, .slice (some ⟨gs,0,none⟩) 6 6] w fun e w' =>
   ∃ ord u,zau (zae playL) (fun _=>true) playL.length=some ord∧e=.returned (.tuple #[u, .bool true])∧w'.ownsRow w.heap.size 3 1 u ord.length ((za0 ord).map (Value.int .i64))∧Below w.heap.size w w':=by
 have hRl:R.length=6:=by have:=congrArg List.length hR; rw[List.length_map] at this; exact this
 have K:=zp8 R (.slice avl 6 cvl) gs w hr hx (by rw[hRl]; exact hs) (by omega)
 rw[hR,hRl] at K;refine K.mono ?_
 rintro e w' ⟨⟨o,u,h1,rfl,h2⟩ |⟨h1,-⟩,hb⟩
 ·exact⟨o,u,h1,rfl,h2,hb⟩
 ·obtain⟨o,ho⟩:=zfr;rw[ho] at h1;cases h1
set_option maxHeartbeats 8000000 in
theorem zif {w1 w:World} {Z:RY} {a:PS} {L O:List Ent} (h:RPSt w1 Z a L O w) (hR:Z.R.map Prod.fst=playL) (outs:List (List UInt8)) (vo:Value) (hO:Reads w vo (outs.map str)) (hvo:outs=[]→vo=.slice none 0 0) (hn:outs.length≤6) (ho:∀ s∈outs,s∈playL.map RuleL.out) :
  Calls Tryz.prog 45 #[ptrV Z.y,vo] w fun e w'=>∃ u n mo' c' lo' lc' O',e=.returned (.tuple #[u,zdz 0 (-1)])∧MakeRel playL outs (fun p=>zaa p a.m) a.mo a.c n mo' c' ∧
   RPSt w1 { Z with lo:=lo',lc:=lc' } ⟨a.m,mo',c'⟩ L O' w'∧RTurn Z { Z with lo:=lo',lc:=lc' } w w':=by
 obtain⟨W0,hW0⟩:∃ W,w.alloc (.cells #[.int .i64 0, .int .i64 0] 71)=W:=⟨_,rfl⟩;have hA0:Below w.heap.size w W0:=hW0▸(Below.refl _ w).alloc (Nat.le_refl _) _;have hg0:W0.heap[w.heap.size]? = some (.cells #[.int .i64 0, .int .i64 0] 71 (0,0)):=hW0▸heap_alloc_here w _;have hz0:W0.heap.size=w.heap.size+1:=by rw[← hW0]; simp
 obtain⟨avo,cvo,hv,-,-⟩:=id hO;rw[List.length_map] at hv;subst hv;obtain⟨avl,cvl,hvl,-,-⟩:=id h.yard.rules.1;have hRl:Z.R.length=6:=by have:=congrArg List.length hR; rw[List.length_map] at this; exact this
 rw[List.length_map,hRl] at hvl;have HRL:=Hd hRl;have HVL:=Hd hvl;have H:=Hd h;have HR:=Hd hR;have HW0:=Hd hW0;have HA0:=Hd hA0;have HG0:=Hd hg0;have HZ0:=Hd hz0;have HO:=Hd hO;have HVO:=Hd hvo;have HOIN:=Hd ho;have HCL:=Hd (fun wl (hb:Below w.heap.size w wl)=>(by
  have hc:=(h.below hb).yard.cells;rw[hvl] at hc;exact hc:wl.cell? ⟨Z.y,0,none⟩=some (ptrV Z.t)∧wl.cell? ⟨Z.y,1,none⟩=some (ptrV Z.o)∧wl.cell? ⟨Z.y,2,none⟩=some (.slice avl 6 cvl)∧wl.cell? ⟨Z.y,3,none⟩=some (ptrV Z.c)))
 have HRU:=Hd (fun wl (hb:Below w.heap.size w wl)=>(by
  have hc:=(h.below hb).yard.rules;rw[hvl] at hc;exact hc:ReadsK 4 wl (.slice avl 6 cvl) (Z.R.map zay)∧∀ x∈Z.R,Reads wl x.2 (x.1.ins.map str)))
 clear h hR hW0 hA0 hg0 hz0 hO hvo ho hvl;go_enter Tryz.func45,Tryz.ntmps45
 by_cases h0:outs=[]
 case' pos =>
  obtain⟨rfl,rfl⟩:avo=none∧cvo=0:=by
   have:=HVO.out h0;rw[h0] at this;simp only[List.length_nil,Value.slice.injEq] at this;exact⟨this.1,this.2.2⟩
  subst h0;obtain⟨d0,d1,d2,d3⟩:=HCL.out W0 HA0.out;have HOV:Hid (zds playL []=playL.map RuleL.out):=Hd rfl;go_wp2_with fail
  rw[HW0.out]
  go_loopw [1,6] (fun ov iv wl=>∃ j:Nat,j≤6∧iv=.int .i64 j∧wl.ownsRow W0.heap.size 9 1 ov j ((((Z.R.map Prod.fst).take j).map RuleL.out).map str)∧Below W0.heap.size W0 wl) (fun _ iv _=>6 - (intOf iv).toNat)
  case atStart=>exact⟨0,by omega,rfl,World.ownsRow_nil _ _ _ _,Below.refl _ _⟩
  case' round =>
   clear d0 d1 d2 d3;obtain⟨j,hj,rfl,hown,hbj⟩:=hrel;have HOW:=Hd hown;have HB:=Hd hbj;have hzj:=hbj.size;have hwb:=HA0.out.trans (hbj.mono HA0.out.size);obtain⟨d0,d1,d2,d3⟩:=HCL.out wr hwb;by_cases hlt:j<6
   case pos =>
    have hlc:((j:Int)<6)=True:=eq_true (by omega)
    have hltR:j<Z.R.length:=by rw[HRL.out]; exact hlt
    obtain⟨b,o,hix,-,hce⟩:=(HRU.out wr hwb).1.at (P:=Tryz.prog) Tryz.underlying22 (by kernel_rfl) j (by simpa using hltR)
    simp only[List.getElem_map] at hce;have hc0:=hce 0 _ rfl;simp only[Nat.add_zero] at hc0;have HTK:Hid (((Z.R.map Prod.fst).take (j+1)).map RuleL.out=((Z.R.map Prod.fst).take j).map RuleL.out++[Z.R[j].1.out]):=Hd (by
     rw[List.take_succ_eq_append_getElem (by simpa using hltR),List.map_append,List.map_singleton,List.getElem_map])
    generalize ((Z.R.map Prod.fst).take j).map RuleL.out=ys at *;generalize Z.R[j].1.out=x0 at *;clear hown hbj hce hltR;go_wp2_with (first
     |(at_builtin
       refine zah _ rfl _ _ 33 rfl tyStrsK W0.heap.size _ _ _ rfl (HOW.out.alloc _) ⟨wr.heap.size,0,none⟩ 1 1 [str x0] rfl rfl (zap ?_) ?_ (by decide) ?_ ?_ ?_
       ·rw[cell_of_heap (heap_alloc_here wr _)]; rfl
       ·intro u hu; simp at hu; subst hu; rfl
       ·omega
       ·simp; omega
       intro v6 w6 ho6 hg6 hloc6;have HO6:Hid (w6.ownsRow W0.heap.size 9 1 v6 (j+1) ((ys++[x0]).map str)):=Hd (by simpa using ho6)
       have HB6:Hid (Below W0.heap.size W0 w6):=Hd ((HB.out.alloc hzj _).grown hg6 (by simp; omega) (fun q hq=>(HOW.out.lt q hq).1))
       clear ho6 hg6 hloc6))
    go_wp2
    go_roundw
    case rel=>exact⟨j+1,by omega,by go_num,by rw[HTK.out]; exact HO6.out,HB6.out⟩
    case measure=>simp[intOf]; omega
   obtain rfl:j=6:=by omega
   have hlc:((6:Int)<6)=False:=eq_false (by omega)
   have hrd:=zac hown;rw[List.take_of_length_le (by rw[List.length_map,HRL.out]; exact Nat.le_refl _),HR.out] at hrd
   obtain⟨av2,cv2,hv2,-,-⟩:=id hrd;rw[List.length_map] at hv2;replace hv2:u1=.slice av2 6 cv2:=hv2;subst hv2;obtain⟨ov,hov⟩:∃ ov,playL.map RuleL.out=ov:=⟨_,rfl⟩;rw[hov] at hrd;have HRDA:=Hd hrd;have HOIN2:Hid (∀ s∈ov,s∈playL.map RuleL.out):=Hd (fun s h=>by rw[hov]; exact h)
   have hnl:ov.length=6:=by rw[← hov]; rfl
   have HOV2:Hid (zds playL []=ov):=Hd (HOV.out.trans hov);clear hrd hown hbj hwb HOW hov;obtain⟨WA,rfl⟩:∃ W,W=wr:=⟨_,rfl⟩
 rotate_left
 have hlen:0<outs.length:=by
  rcases Nat.eq_zero_or_pos outs.length with e | e
  ·exact absurd (List.length_eq_zero_iff.1 e) h0
  ·exact e
 have he0:((outs.length:Int)==0)=false:=by simp; omega
 have he1:((outs.length:Int)=0)=False:=eq_false (by omega)
 have HOV:Hid (zds playL outs=outs):=Hd (by unfold zds; rw[if_neg h0])
 obtain⟨d0,d1,d2,d3⟩:=HCL.out W0 HA0.out;rw[← HW0.out] at d0 d1 d2 d3;have HB:Hid (Below W0.heap.size W0 W0):=Hd (Below.refl _ _);have HOIN2:=Hd HOIN.out;have HOV2:=Hd HOV.out;have HRDA:=Hd (HO.out.below0 HA0.out);obtain⟨WA,rfl⟩:∃ W,W=W0:=⟨_,rfl⟩;obtain⟨ov,rfl⟩:∃ o,o=outs:=⟨_,rfl⟩
 all_goals
  have HWA:=Hd (HA0.out.trans (HB.out.mono HA0.out.size));have KBF:=Hd (ztu Z.R (.slice avl 6 cvl) ov _ WA (HRU.out WA HWA.out).1 (HRU.out WA HWA.out).2 HRDA.out (fun x hx=>zhr x.1 (HR.out▸List.mem_map.2 ⟨x,hx,rfl⟩)) (by omega) (by omega))
  go_wp2_with fail
  try rw[HW0.out]
  refine KBF.out.mono ?_
  rintro e wf ⟨⟨c0,p0,hbf,rfl⟩,hbB⟩;obtain⟨rfl,rfl⟩:=zq3 (by rw[← HR.out]; exact hbf) HOIN2.out
  obtain⟨W2,hW2⟩:∃ W,wf.alloc (.cells #[.int .i64 0, .int .i64 (-1)] 71)=W:=⟨_,rfl⟩;have hA2:Below wf.heap.size wf W2:=hW2▸(Below.refl _ wf).alloc (Nat.le_refl _) _;have hg2:W2.heap[wf.heap.size]? = some (.cells #[.int .i64 0, .int .i64 (-1)] 71 (0,0)):=hW2▸heap_alloc_here wf _;have HG2:=Hd hg2;have HWF0:=Hd (Nat.le_trans HB.out.size hbB.size);have HW2:=Hd hW2;have hc0:W2.cell? ⟨wf.heap.size,0,none⟩=some (.int .i64 0):=(cell_of_heap hg2 0).trans rfl;have HA2:Hid (Below WA.heap.size WA W2):=Hd (hbB.trans (hA2.mono hbB.size));have HF2:Hid (Below w.heap.size w W2):=Hd (HWA.out.trans (HA2.out.mono HWA.out.size));have HF2D:Hid (Below w.heap.size w W2.drew):=Hd HF2.out.drew;have HGT:Hid (W2.heap[w.heap.size]? = some (.cells #[.int .i64 0, .int .i64 0] 71 (0,0))):=Hd (((HB.out.trans (HA2.out.mono HB.out.size)).block _ (by rw[HZ0.out]; exact Nat.lt_succ_self _)).trans HG0.out)
  have hLn:=H.out.twt.many;have hLp:=H.out.twt.perm.length_eq;have KRN:=Hd (zzj Z.R (.slice avl 6 cvl) ov _ w1.heap.size Z.t Z.lt L (some ⟨Z.c,0,none⟩) W2.drew (HRU.out _ HF2D.out).1 (HRU.out _ HF2D.out).2 (HRDA.out.below0 HA2.out.drew) (by rw[HR.out]; exact playL_right) (by omega) (by omega) (by rw[HR.out]; exact HOIN2.out) (H.out.yard.below HF2D.out).tree (by omega))
  rw[HR.out] at KRN;have HNC:=Hd (fun wl (hb:Below w.heap.size w wl)=>(⟨(HCL.out wl hb).1,(HCL.out wl hb).2.2.1,(HCL.out wl hb).2.2.2⟩:wl.cell? ⟨Z.y,0,none⟩=some (ptrV Z.t)∧wl.cell? ⟨Z.y,2,none⟩=some (.slice avl 6 cvl)∧wl.cell? ⟨Z.y,3,none⟩=some (ptrV Z.c)));obtain⟨e0,e2,e3⟩:=HNC.out W2 HF2.out;clear d0 d1 d2 d3 hbf hbB hA2 hg2 hW2 KBF hLn hLp;unfold zdz;go_wp2_with fail
  try rw[HW2.out]
  go_region_held3 (fun w'=>w'.cell? ⟨Z.y,0,none⟩=some (ptrV Z.t)∧w'.cell? ⟨Z.y,2,none⟩=some (.slice avl 6 cvl)∧w'.cell? ⟨Z.y,3,none⟩=some (ptrV Z.c))
   (first | exact HNC.out _ (HF2D.out.trans (hb3.mono HF2D.out.size)) | exact HNC.out _ HF2D.out)
   (first
    |(go_at_call 35
      refine KRN.out.mono ?_
      rintro e w3 ⟨X,lvt,ks,rfl,hpl,hrb,hb3⟩))
  have HB3:Hid (Below w.heap.size w w3):=Hd (HF2D.out.trans (hb3.mono HF2D.out.size));have HGT3:=Hd ((hb3.block _ (zab HGT.out)).trans HGT.out);have HG3:=Hd ((hb3.block _ (zab HG2.out)).trans HG2.out);have HPL:=Hd hpl;obtain⟨P,o,hPR,hord⟩:=zub hpl.1;have HPR:=Hd hPR;have HORD:=Hd hord;obtain⟨base,hbase⟩:∃ b,W2.drew.heap.size=b:=⟨_,rfl⟩;have hbl:w.heap.size≤base:=hbase▸HF2D.out.size;have hrb2:=hrb P hPR;rw[hbase,HRL.out] at hrb2;have HRB:=Hd hrb2;have HBL:Hid (w.heap.size<base∧wf.heap.size<base):=Hd ⟨hbase▸zab HGT.out,hbase▸zab HG2.out⟩;have HFB:Hid (∀ q,X.foot q→base≤q):=Hd (fun q hq=>(HRB.out.foot_base q hq).1);have HYL:Hid (∀ i q,Z.sec i q→q<w.heap.size):=Hd H.out.yard.lt;have HY3:=Hd (H.out.yard.below HB3.out);have HRO:Hid (ROE X Z.R (.slice avl 6 cvl) lvt a.m L P (ptrV Z.c) Z.c Z.lc w1.heap.size base w3 (some a.c) (fun _=>st0) w3):=Hd
   ⟨by rw[HRL.out]; exact HRB.out,⟨rfl,Nat.lt_of_lt_of_le (HYL.out 3 _ (Or.inl rfl)) hbl,HY3.out.cache,fun k hk hf=>by have h1:=HFB.out k hf; have h2:=HYL.out 3 k (Or.inr hk); omega⟩,H.out.cok,BInv.zero _ _ _,
    fun wl hf=>by
    have h1:=HY3.out.rules_fr hf (fun q hq hs=>by
     rcases hs with hs |⟨-,hs⟩
     ·have h1:=HFB.out q hs; have h2:=HYL.out 4 q hq; omega
     ·exact HY3.out.far (i:=4) (j:=3) hq (by decide) (Or.inl hs))
    rw[HVL.out] at h1;exact⟨h1.1,h1.2,H.out.twt,by rw[HR.out]; exact fun r hr=>by (obtain⟨h1,h2,h3,h4,h5,h6⟩:=zcz r hr; exact⟨by omega,by omega,by omega,fun s hs=>by have:=h5 s hs; omega,by omega⟩),by omega⟩,
    Fr.refl _ _ _,Nat.le_trans H.out.low.size hbl⟩
  have KA:=Hd (zxn HRO.out (o:=o) (by rw[HR.out]; exact hord))
  rw[HR.out] at KA;clear hpl hrb hb3 hPR hord hrb2 hbase hbl KRN hc0 e0 e2 e3;go_wp2_with fail
  refine KA.out.mono ?_
  rintro e w4 ⟨uj,js,c',st',lvc',rfl,hal,-,hro,hfr,hl,hsm⟩;obtain⟨c4,rfl⟩:∃ c4,c'=some c4:=Option.isSome_iff_exists.1 hsm;have HAR:=Hd hal;have HBI:=Hd hro.inv;have hfx:∀ q,q<w.heap.size→¬ Z.sec 3 q→¬ zcl X Z.c (some a.c).isSome q:=fun q hq hn hs=>by
   rcases hs with hs |⟨-,hs⟩
   ·have h1:=HFB.out q hs; have h2:=HBL.out.1; omega
   ·exact hn (Or.inl hs)
  have HCO4:=Hd hro.cok;have HRB4:=Hd hro.at_;rw[HRL.out] at HRB4;have HF4:Hid (Fr w3.heap.size (fun k=>X.foot k∨k=Z.c) w3 w4):=Hd (hfr.mono (Nat.le_refl _) (fun q _ hs=>hs.elim Or.inl (fun h=>Or.inr h.2)));have HLC:=Hd hl;have HNF:Hid (∀ i q,Z.sec i q→¬ X.foot q):=Hd (fun i q hq hf=>by have h1:=HFB.out q hf; have h2:=HYL.out i q hq; have h3:=HBL.out.1; omega)
  have HY4:=Hd (HY3.out.cstep (Q:=X.foot) hro.cache.2.2.1 HF4.out HNF.out hl);have HNG:Hid (∀ q,q<base→q≠Z.c→¬ (X.foot q∨q=Z.c)):=Hd (fun q hq hn hs=>hs.elim (fun h=>by have:=HFB.out q h; omega) hn)
  have HZC:Hid (Z.c<w.heap.size):=Hd (HYL.out 3 _ (Or.inl rfl));have HGT4:=Hd ((HF4.out.block _ (zab HGT3.out) (HNG.out _ HBL.out.1 (fun e=>by have:=HZC.out; omega))).trans HGT3.out)
  have HWF:Hid (w.heap.size<wf.heap.size):=Hd (by have h1:=HZ0.out; have h2:=HWF0.out; omega)
  have HG4:=Hd ((HF4.out.block _ (zab HG3.out) (HNG.out _ HBL.out.2 (fun e=>by have:=HZC.out; have:=HWF.out; omega))).trans HG3.out)
  have HCL4:=Hd (fun wl (hb:Below w4.heap.size w4 wl)=>(by
   have hc:=(HY4.out.below hb).cells.2.2.1;exact hc.trans (congrArg some HVL.out):wl.cell? ⟨Z.y,2,none⟩=some (.slice avl 6 cvl)))
  have HRU4:=Hd (fun wl (hb:Below w4.heap.size w4 wl)=>(by
   have hc:=(HY4.out.below hb).rules;simp only[HVL.out] at hc;exact hc:ReadsK 4 wl (.slice avl 6 cvl) (Z.R.map zay)∧∀ x∈Z.R,Reads wl x.2 (x.1.ins.map str)))
  have KAL:=Hd (zv5 6 w4.drew (by omega))
  have KOO:=Hd (fun wl gs (hb:Below w4.heap.size w4 wl) (hbt:Bits wl gs (List.replicate 6 true))=>zpg Z.R avl cvl gs wl HR.out (HRU4.out wl hb).1 (HRU4.out wl hb).2 hbt);have d2:=HCL4.out w4 (Below.refl _ _);clear hal hro hfr hl hsm hfx KA;go_wp2_with fail
  go_region_held3 (fun w'=>w'.cell? ⟨Z.y,2,none⟩=some (.slice avl 6 cvl))
   (first | exact HCL4.out _ HB6.out | exact HCL4.out _ HB5.out | exact HCL4.out _ (Below.refl _ _).drew)
   (first
    |(go_at_call 113
      refine KAL.out.mono ?_
      rintro e w5 ⟨rfl,hbt5,hb5⟩;have HBT5:=Hd hbt5;have HB5:=Hd ((Below.refl w4.heap.size w4).drew.trans (hb5.mono (Nat.le_refl _))))
    |(go_at_call 89
      refine (KOO.out w5 _ HB5.out HBT5.out).mono ?_
      rintro e w6 ⟨ord,uo,hord,rfl,how6,hb6⟩;have HB6:=Hd (HB5.out.trans (hb6.mono HB5.out.size))))
  have HORD6:=Hd hord;have HOW6:=Hd how6;obtain⟨au,cu,hu,-,-⟩:=id (zbp how6);rw[List.length_map] at hu;subst hu;clear hbt5 hb5 hord how6 hb6 KAL KOO d2;go_wp2_with fail
  have HY6:=Hd (HY4.out.below HB6.out);have HRB6:=Hd (HRB4.out.below HB6.out);have HGT6:=Hd ((HB6.out.block _ (zab HGT4.out)).trans HGT4.out);have HG6:=Hd ((HB6.out.block _ (zab HG4.out)).trans HG4.out);have HOL:Hid (ord.length≤6):=Hd (by
   have h1:=zc6 ord (List.range playL.length) (zbv HORD6.out).1.nd (fun x hx=>List.mem_range.2 ((zbv HORD6.out).1.lt x hx).1);rw[List.length_range] at h1;exact h1)
  have hol:=HOL.out;have HZ6:Hid (w.heap.size≤w6.heap.size∧w4.heap.size≤w6.heap.size∧w3.heap.size≤w4.heap.size):=Hd ⟨by have h1:=HB3.out.size; have h2:=HF4.out.size; have h3:=HB6.out.size; omega,HB6.out.size,HF4.out.size⟩
  go_loopw [11] (fun iv wl=>∃ (j:Nat) (lo':Value) (O':List Ent),j≤ord.length∧iv=.int .i64 j∧Tw ((ord.take j).foldl (za9 playL P st') a.mo) O'∧RYAt w1.heap.size { Z with lc:=lvc',lo:=lo' } L O' c4 wl∧(∀ k,lo'.ownBlock=some k→Z.lo.ownBlock=some k∨w6.heap.size≤k)∧Fr w6.heap.size (fun k=>k=Z.o∨Z.lo.ownBlock=some k) w6 wl) (fun iv _=>ord.length - (intOf iv).toNat)
  case atStart=>exact⟨0,Z.lo,O,by omega,rfl,H.out.two,HY6.out,fun k hk=>Or.inl hk,Fr.refl _ _ _⟩
  case round =>
   obtain⟨j,lo1,O1,hj,rfl,htw,hya,hlo,hfr⟩:=hrel;have HTW:=Hd htw;have HYA:=Hd hya;have HLO:=Hd hlo;have HFR:=Hd hfr;have hzr:=hfr.size;have HOX:Hid (∀ q,base≤q→¬ (q=Z.o∨Z.lo.ownBlock=some q)):=Hd (fun q hq e=>by have h1:=HYL.out 2 q e; have h2:=HBL.out.1; omega)
   have hrb:=HRB6.out.of_fr hfr (Nat.le_refl _) (fun q _ hb=>HOX.out q hb);have HRBR:=Hd hrb;by_cases hlt:j<ord.length
   ·have hlc:((j:Int)<(ord.length:Int))=True:=eq_true (by omega)
    have hkm:ord[j]<playL.length:=((zbv HORD6.out).1.lt _ (List.getElem_mem hlt)).1;have hk6:ord[j]<6:=hkm;have hfold:(ord.take (j+1)).foldl (za9 playL P st') a.mo=za9 playL P st' ((ord.take j).foldl (za9 playL P st') a.mo) ord[j]:=by
     rw[List.take_succ_eq_append_getElem hlt,List.foldl_append];rfl
    have HFO:=Hd hfold;obtain⟨b5,o5,hix5,hce5⟩:=(zbp (zaf HOW6.out hfr (fun q hq=>⟨(HOW6.out.lt q hq).2,fun e=>by have h1:=(HOW6.out.lt q hq).1; have h2:=HYL.out 2 q e; have h3:=HZ6.out; have h4:=HB5.out.size; have h5:=HF4.out.size; have h6:=HB3.out.size; omega⟩))).at (P:=Tryz.prog) Tryz.underlying53 (by kernel_rfl) j (by simpa using hlt)
    simp only[List.getElem_map] at hce5;have hri:ord[j]<Z.R.length:=by rw[HRL.out]; exact hk6
    have hru:=hya.rules.1;simp only[HVL.out] at hru;obtain⟨rb,ro,hixr,hab,hcr⟩:=hru.at (P:=Tryz.prog) Tryz.underlying22 (by kernel_rfl) ord[j] (by rw[List.length_map]; exact hri)
    simp only[List.getElem_map] at hcr;have hcx:=hcr 0 _ rfl;simp only[Nat.add_zero] at hcx;have hpth:(playL.getD ord[j] noR).out=Z.R[ord[j]].1.out:=by
     rw[← HR.out,zat (by rw[List.length_map]; exact hri),List.getElem_map]
    have hpl:(playL.getD ord[j] noR).out.length≤100:=by
     have h100:∀ r∈playL,r.out.length≤100:=by decide +kernel
     rw[zat hkm];exact h100 _ (List.getElem_mem _)
    have hls:za9 playL P st' ((ord.take j).foldl (za9 playL P st') a.mo) ord[j]=(if rSt P st' ord[j]=zak 2 then putM (playL.getD ord[j] noR).out (st' ord[j]).out ((ord.take j).foldl (za9 playL P st') a.mo) else if rSt P st' ord[j]=zak 3∨rSt P st' ord[j]=zak 4 then mdel (playL.getD ord[j] noR).out ((ord.take j).foldl (za9 playL P st') a.mo) else ((ord.take j).foldl (za9 playL P st') a.mo)):=rfl
    rw[hpth] at hpl hls;generalize Z.R[ord[j]].1.out=pth at *;generalize ord[j]=k at *;generalize (ord.take j).foldl (za9 playL P st') a.mo=mo1 at *;have HLO0:=Hd hls;have HPL0:=Hd hpl;have hx2:wr.cell? ⟨X.b,2,none⟩=some (slN X.s 6):=hrb.box.cell rfl;have hx3:wr.cell? ⟨X.b,3,none⟩=some (slN X.o 6):=hrb.box.cell rfl;have hxs:wr.cell? ⟨X.s,k,none⟩=some (str (rSt P st' k)):=hrb.state.cell (by rw[List.getElem?_map,List.getElem?_range hk6]; rfl)
    have hxo:wr.cell? ⟨X.o,k,none⟩=some (str (st' k).out):=hrb.out.cell (by rw[List.getElem?_map,List.getElem?_range hk6]; rfl)
    have hixs:=zbm (P:=Tryz.prog) (T:=33) (E:=9) Tryz.underlying33 (by kernel_rfl) X.s 6 6 k hk6
    have hixo:=zbm (P:=Tryz.prog) (T:=33) (E:=9) Tryz.underlying33 (by kernel_rfl) X.o 6 6 k hk6
    have hcb1:=hya.cells.2.1;have hcb2:=hya.cells.2.2.1;replace hcb2:=hcb2.trans (congrArg some HVL.out);have HXF:Hid (∀ q,base≤q→q<w6.heap.size→¬ (q=Z.o∨lo1.ownBlock=some q)):=Hd (fun q hq hl e=>by
     rcases e with e | e
     ·exact HOX.out q hq (Or.inl e)
     ·rcases hlo q e with h | h
      ·exact HOX.out q hq (Or.inr h)
      ·omega)
    have hbx:=HRB6.out.base;have hbxl:X.b<w6.heap.size∧X.o<w6.heap.size:=⟨HRB6.out.box.lt,HRB6.out.out.lt⟩;have HCF:=Hd (fun wl (hf:Fr wr.heap.size (fun k=>k=Z.o∨lo1.ownBlock=some k) wr wl)=>(⟨(hf.cell (p:=⟨Z.y,1,none⟩) (zad hcb1) (fun e=>hya.far (i:=0) (j:=2) rfl (by decide) e)).trans hcb1,(hf.cell (p:=⟨Z.y,2,none⟩) (zad hcb2) (fun e=>hya.far (i:=0) (j:=2) rfl (by decide) e)).trans hcb2,
      (hf.cell (p:=⟨rb,ro,none⟩) (zad hcx) (fun e=>hya.far (i:=4) (j:=2) (q:=rb) (Or.inl (by rw[HVL.out,hab]; rfl)) (by decide) e)).trans hcx,
      (hf.cell (p:=⟨X.b,3,none⟩) (zad hx3) (HXF.out _ hbx.1 hbxl.1)).trans hx3,(hf.cell (p:=⟨X.o,k,none⟩) (zad hxo) (HXF.out _ hbx.2.2.2.1 hbxl.2)).trans hxo⟩ :
      wl.cell? ⟨Z.y,1,none⟩=some (ptrV Z.o)∧wl.cell? ⟨Z.y,2,none⟩=some (.slice avl 6 cvl)∧wl.cell? ⟨rb,ro,none⟩=some (str pth)∧wl.cell? ⟨X.b,3,none⟩=some (slN X.o 6)∧wl.cell? ⟨X.o,k,none⟩=some (str (st' k).out)))
    have hOl:=htw.many;have hOp:=htw.perm.length_eq;have KPUT:=Hd (fun so=>zry w1.heap.size Z.o lo1 O1 pth so wr.drew (hya.below (Below.refl _ _).drew).out (hya.below (Below.refl _ _).drew).hB (by omega) (by omega))
    have KREM:=Hd (zkb w1.heap.size Z.o lo1 O1 pth wr.drew (hya.below (Below.refl _ _).drew).out (hya.below (Below.refl _ _).drew).hB (by omega))
    generalize (st' k).out=so at *;generalize hrk:rSt P st' k=rk at *;clear htw hya hlo hfr hrb hpth hfold hls hcb1 hcb2 hab hcr hru hbx hbxl hOl hOp hpl hkm hri;by_cases hd:rk=[100,111,110,101]
    ·subst hd;have HLY:Hid (za9 playL P st' mo1 k=putM pth so mo1):=Hd (by have h:=HLO0.out; simp only[zak] at h; rw[h]; first | exact if_pos trivial | exact if_pos rfl)
     clear HLO0;go_wp2_with fail
     go_region_held3 (fun w'=>w'.cell? ⟨Z.y,1,none⟩=some (ptrV Z.o)∧w'.cell? ⟨Z.y,2,none⟩=some (.slice avl 6 cvl)∧w'.cell? ⟨rb,ro,none⟩=some (str pth)∧w'.cell? ⟨X.b,3,none⟩=some (slN X.o 6)∧w'.cell? ⟨X.o,k,none⟩=some (str so))
      (first | exact HCF.out _ ((Fr.refl _ _ _).drew.trans hf8) | exact HCF.out _ (Fr.refl _ _ _).drew)
      (first
       |(go_at_call 42
         refine (KPUT.out so).mono ?_
         rintro e w8 ⟨rfl,lo2,ht8,hf8,hl8⟩))
     have HY8:=Hd ((HYA.out.below (Below.refl _ _).drew).ostep ht8 hf8 hl8);have HF8:Hid (Fr w6.heap.size (fun k=>k=Z.o∨Z.lo.ownBlock=some k) w6 w8):=Hd (HFR.out.trans (((Fr.refl _ _ wr).drew.trans hf8).mono hzr (fun q hq e=>e.elim Or.inl (fun e=>(HLO.out q e).elim Or.inr (fun h=>absurd hq (Nat.not_lt.2 h))))));have HL8:Hid (∀ k,lo2.ownBlock=some k→Z.lo.ownBlock=some k∨w6.heap.size≤k):=Hd (fun q hq=>(hl8 q hq).elim (HLO.out q) (fun h=>Or.inr (Nat.le_trans hzr h)));clear ht8 hf8 hl8;go_wp2
     go_roundw
     case rel=>exact⟨j+1,lo2,zh9 pth so O1,by omega,by go_num,by rw[HFO.out,HLY.out]; exact HTW.out.put HPL0.out,HY8.out.1,HL8.out,HF8.out⟩
     case measure=>simp[intOf]; omega
    ·have f1:(rk==[100,111,110,101])=false:=by simpa using hd
     have f2:(rk=[100,111,110,101])=False:=eq_false hd;by_cases hq:rk=[102,97,105,108,101,100]∨rk=[108,101,102,116]
     ·have HLY:Hid (za9 playL P st' mo1 k=mdel pth mo1):=Hd (by have h:=HLO0.out; simp only[zak] at h; rw[h,if_neg hd,if_pos hq])
      clear hd HLO0;rcases hq with hq | hq
      all_goals
       subst hq;clear f1 f2;go_wp2_with fail
       go_region_held3 (fun w'=>w'.cell? ⟨Z.y,1,none⟩=some (ptrV Z.o)∧w'.cell? ⟨Z.y,2,none⟩=some (.slice avl 6 cvl)∧w'.cell? ⟨rb,ro,none⟩=some (str pth)∧w'.cell? ⟨X.b,3,none⟩=some (slN X.o 6)∧w'.cell? ⟨X.o,k,none⟩=some (str so))
        (first | exact HCF.out _ ((Fr.refl _ _ _).drew.trans (hf8.mono (Nat.le_refl _) (fun _ _ h=>Or.inl h))) | exact HCF.out _ (Fr.refl _ _ _).drew)
        (first
         |(go_at_call 43
           refine KREM.out.mono ?_
           rintro e w8 ⟨rfl,lo2,ht8,hf8,hl8⟩))
       have HY8:=Hd ((HYA.out.below (Below.refl _ _).drew).ostep ht8 (hf8.mono (Nat.le_refl _) (fun _ _ h=>Or.inl h)) hl8);have HF8:Hid (Fr w6.heap.size (fun k=>k=Z.o∨Z.lo.ownBlock=some k) w6 w8):=Hd (HFR.out.trans (((Fr.refl _ _ wr).drew.trans hf8).mono hzr (fun q hq e=>Or.inl e)));have HL8:Hid (∀ k,lo2.ownBlock=some k→Z.lo.ownBlock=some k∨w6.heap.size≤k):=Hd (fun q hq=>(hl8 q hq).elim (HLO.out q) (fun h=>Or.inr (Nat.le_trans hzr h)));clear ht8 hf8 hl8;go_wp2
       go_roundw
       case rel=>exact⟨j+1,lo2,mdel pth O1,by omega,by go_num,by rw[HFO.out,HLY.out]; exact HTW.out.del pth,HY8.out.1,HL8.out,HF8.out⟩
       case measure=>simp[intOf]; omega
     ·have HLY:Hid (za9 playL P st' mo1 k=mo1):=Hd (by have h:=HLO0.out; simp only[zak] at h; rw[h,if_neg hd,if_neg hq])
      have g1:(rk==[102,97,105,108,101,100])=false:=by simpa using fun e=>hq (Or.inl e)
      have g2:(rk=[102,97,105,108,101,100])=False:=eq_false (fun e=>hq (Or.inl e));have g3:(rk==[108,101,102,116])=false:=by simpa using fun e=>hq (Or.inr e)
      have g4:(rk=[108,101,102,116])=False:=eq_false (fun e=>hq (Or.inr e));clear hd hq HLO0;go_wp2
      go_roundw
      case rel=>exact⟨j+1,lo1,O1,by omega,by go_num,by rw[HFO.out,HLY.out]; exact HTW.out,HYA.out,HLO.out,HFR.out⟩
      case measure=>simp[intOf]; omega
   ·obtain rfl:j=ord.length:=by omega
    have hlc:((ord.length:Int)<(ord.length:Int))=False:=eq_false (by omega)
    rw[List.take_length] at HTW;have HGTR:=Hd ((hfr.block _ (zab HGT6.out) (fun e=>by have h1:=HYL.out 2 _ e; omega)).trans HGT6.out)
    have HGR:=Hd ((hfr.block _ (zab HG6.out) (fun e=>by have h1:=HYL.out 2 _ e; have h2:=HWF.out; omega)).trans HG6.out)
    have KM:=Hd (fun s b=>zxg X 6 (.slice avl 6 cvl) lvt L P (ptrV Z.c) base wr.drew st' (hrb.below (Below.refl _ _).drew) ⟨avl,cvl,rfl⟩ (by omega) s b)
    have HKS:=Hd (fun wl (hf:Fr wr.heap.size (fun k=>k=w.heap.size) wr wl)=>(by
     have h1:=(hf.block _ (zab HGR.out) (fun e=>by have h2:=HWF.out; omega)).trans HGR.out
     exact⟨(cell_of_heap h1 0).trans rfl,(cell_of_heap h1 1).trans rfl⟩:wl.cell? ⟨wf.heap.size,0,none⟩=some (.int .i64 0)∧wl.cell? ⟨wf.heap.size,1,none⟩=some (.int .i64 (-1))))
    have HSA:Hid (∀ o,Fr wr.heap.size (fun k=>k=w.heap.size) wr (wr.alloc o)):=Hd (fun o=>(Fr.refl _ _ _).alloc (Nat.le_refl _) o);have HSB:Hid (∀ o x y,Fr wr.heap.size (fun k=>k=w.heap.size) wr (((wr.alloc o).setCell ⟨w.heap.size,0,none⟩ x).setCell ⟨w.heap.size,1,none⟩ y)):=Hd (fun o x y=>Fr.setCell (S:=fun k=>k=w.heap.size) (p:=⟨w.heap.size,1,none⟩) (Fr.setCell (S:=fun k=>k=w.heap.size) (p:=⟨w.heap.size,0,none⟩) (HSA.out o) (fun _=>rfl) x) (fun _=>rfl) y);have HGA:Hid (∀ wl,Below wr.heap.size wr wl→wl.heap[w.heap.size]? = some (.cells #[.int .i64 0, .int .i64 0] 71 (0,0))):=Hd (fun wl hb=>(hb.block _ (zab HGTR.out)).trans HGTR.out);have t0:∀ o k,(wr.alloc o).cell? ⟨w.heap.size,k,none⟩=(#[.int .i64 0, .int .i64 0]:Array Value)[k]? := fun o=>(zax (HGA.out _ ((Below.refl _ _).alloc (Nat.le_refl _) o))).1;have t1:∀ o,(wr.alloc o).frozen? ⟨w.heap.size,0,none⟩=false:=fun o=>(zax (HGA.out _ ((Below.refl _ _).alloc (Nat.le_refl _) o))).2.1;have t2:∀ o,(wr.alloc o).frozen? ⟨w.heap.size,1,none⟩=false:=fun o=>(zax (HGA.out _ ((Below.refl _ _).alloc (Nat.le_refl _) o))).2.2;have HTOT:Hid (∀ wl,Fr wr.heap.size (fun k=>k=w.heap.size) wr wl→Fr w.heap.size (fun q=>∃ i,i<4∧Z.sec i q) w wl):=Hd (fun wl hf=>by
     have h1:Fr w.heap.size (fun q=>∃ i,i<4∧Z.sec i q) w w3:=Fr.of_below HB3.out;have h2:=h1.trans (HF4.out.mono h1.size (fun q hq hs=>by
      rcases hs with hs | hs
      ·have h3:=HFB.out q hs; have h4:=HBL.out.1; omega
      ·exact⟨3,by omega,Or.inl hs⟩))
     have h3:=h2.trans ((Fr.of_below HB6.out).mono h2.size (fun _ _ h=>h));have h4:=h3.trans (HFR.out.mono h3.size (fun q hq hs=>⟨2,by omega,hs⟩))
     exact h4.trans (hf.mono h4.size (fun q hq e=>by omega)))
    clear htw hya hlo hfr hrb;go_wp2_with fail
    go_region_held3 (fun w'=>w'.cell? ⟨wf.heap.size,0,none⟩=some (.int .i64 0)∧w'.cell? ⟨wf.heap.size,1,none⟩=some (.int .i64 (-1)))
     (first | exact HKS.out _ (Fr.refl _ _ _) | exact HKS.out _ (Fr.refl _ _ _).drew | exact HKS.out _ (HSA.out _) | exact HKS.out _ (HSA.out _).drew | exact HKS.out _ (HSB.out _ _ _) | exact HKS.out _ (HSB.out _ _ _).drew)
     (first
      |(go_at_call 110
        refine (KM.out _ _).mono ?_
        rintro e w8 ⟨rfl,rfl⟩))
    all_goals
     go_wp2
     refine bodyPost_ret (zma rfl _ _ w.heap.size _ _ rfl (zb5 (HGA.out _ ((Below.refl _ _).drew.alloc (Nat.le_refl _) _)) _ _)) rfl ?_
     have hset:=(HSB.out (.cells #[intE (zho 6 P st' [100,111,110,101] false),intE (zho 6 P st' [100,111,110,101] true),intE (zho 6 P st' [102,97,105,108,101,100] false),intE (zho 6 P st' [108,101,102,116] false)] 3) (.int .i64 0) (.int .i64 (-1))).drew;refine⟨_,fun i=>[cntP P st' zgp,cntP P st' zgq,cntP P st' zbz,cntP P st' zdv].getD i 0,_,c4,lo1,lvc',O1,rfl,⟨P,o,ks,js,ord,st',by rw[HOV2.out]; exact HPL.out,HPR.out,HORD.out,HAR.out,HORD6.out,rfl,rfl,rfl,rfl,rfl⟩,?_,HTOT.out _ hset,?_⟩
     ·refine⟨HYA.out.fr hset (fun i q hq e=>?_),H.out.twt,HTW.out,HCO4.out,H.out.low.trans (((HTOT.out _ hset).mono H.out.low.size (fun _ _ h=>h)).below (fun q hq hs=>by obtain⟨i,hi,h1⟩:=hs; have h2:=H.out.yard.low i q hi h1; omega))⟩
      subst e
      match i,hq with
      | 0,hq=>have h1:=HYL.out 0 _ hq; omega
      | 1,hq=>have h1:=HYL.out 1 _ hq; omega
      | 2,hq =>
       rcases hq with h1 | h1
       ·have h2:=HYL.out 2 _ (Or.inl h1); omega
       ·rcases HLO.out _ h1 with h2 | h2
        ·have h3:=HYL.out 2 _ (Or.inr h2); omega
        ·have h3:=HB6.out.size; have h4:=zab HGT4.out; omega
      | 3,hq =>
       rcases hq with h1 | h1
       ·have h2:=HYL.out 3 _ (Or.inl h1); omega
       ·rcases HLC.out _ h1 with h2 | h2
        ·have h3:=HYL.out 3 _ (Or.inr h2); omega
        ·have h4:=zab HGT3.out; omega
      | 4,hq=>have h1:=HYL.out 4 _ hq; omega
      | _+5,hq=>exact absurd hq id
     ·intro i q hq
      match i,hq with
      | 0,hq=>exact Or.inl hq
      | 1,hq=>exact Or.inl hq
      | 2,hq =>
       rcases hq with h1 | h1
       ·exact Or.inl (Or.inl h1)
       ·rcases HLO.out _ h1 with h2 | h2
        ·exact Or.inl (Or.inr h2)
        ·exact Or.inr (by have h3:=HZ6.out.1; omega)
      | 3,hq =>
       rcases hq with h1 | h1
       ·exact Or.inl (Or.inl h1)
       ·rcases HLC.out _ h1 with h2 | h2
        ·exact Or.inl (Or.inr h2)
        ·exact Or.inr (by have h3:=HB3.out.size; omega)
      | 4,hq=>exact Or.inl hq
      | _+5,hq=>exact absurd hq id
end Go.Proofs.YtgjialbmlhbngaaGreatDoor
