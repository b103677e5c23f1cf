/-
  Proved here: whatever the script, PlayRuns returns true and leaves its arguments as they were (the card of the law PlayRuns; the listed variables, twelve errors of package api, two errors of strconv and five tables, hold what the program lays).
-/
import Derived.Test.YtgjialbmlhbngaaGreatDoorRsE
import Derived.Test.YtgjialbmlhbngaaGreatDoorPkS
import Derived.Test.YtgjialbmlhbngaaGreatDoorRsF
import Derived.Test.YtgjialbmlhbngaaGreatDoorPkP
import Derived.Test.YtgjialbmlhbngaaGreatDoorRsB
import Derived.Deep.RegionHeld3
import Derived.Test.YtgjialbmlhbngaaGreatDoorPkK
import Derived.Test.YtgjialbmlhbngaaGreatDoorRows
import Derived.LaidMore
import Derived.Test.YtgjialbmlhbngaaGreatDoorPkB
import Derived.Test.YtgjialbmlhbngaaGreatDoorCards
import Derived.Test.YtgjialbmlhbngaaGreatDoorTie
import Derived.Test.YtgjialbmlhbngaaGreatDoorPkU
import Derived.Lay
import Derived.Deep.DeepHandedRow
import Derived.Deep.DeepWitnessRowRef
import Derived.ProofKit
import Derived.ChangeMaps5

set_option maxRecDepth 100000
namespace Go.Proofs.YtgjialbmlhbngaaGreatDoor
open Go Go.RowKit Go.Kf Go.Sort Go.Proofs
theorem zxp {w1 w:World} {Z:RY} {a:PS} {L O:List Ent} (h:RPSt w1 Z a L O w) (hR:Z.R.map Prod.fst=playL):RCtx Z.R Z.vl w1.heap.size Z.t Z.lt a.m L w:=by
 have hRl:Z.R.length=6:=by have:=congrArg List.length hR; rw[List.length_map] at this; exact this
 refine⟨h.yard.rules.1,h.yard.rules.2,h.yard.tree,h.twt,by rw[hR]; exact playL_right.2,fun x hx=>?_,by omega⟩
 have:=zhr x.1 (hR▸List.mem_map.2 ⟨x,hx,rfl⟩);exact⟨by omega,this.2.2.2⟩
theorem zr8 {p b:List UInt8}:∀ {L:List Ent},zaa p L=some b→∃ i,za3 p L=some i∧∃ h:i<L.length,L[i].2=b
 | [],h=>by simp[zaa] at h
 | x::L,h=>by
  unfold zaa at h;unfold za3;by_cases hx:x.1=p
  ·rw[if_pos hx] at h;exact⟨0,by rw[if_pos hx],by simp,by simpa using h⟩
  ·rw[if_neg hx] at h;obtain⟨i,h1,h2,h3⟩:=zr8 h;exact⟨i+1,by rw[if_neg hx,h1]; rfl,by simpa using h2,by simpa using h3⟩
theorem zxq {w1 w:World} {Z:RY} {a:PS} {L O:List Ent} (h:RPSt w1 Z a L O w) (hR:Z.R.map Prod.fst=playL) (i:Nat) (hi:i<6) (W:World) (hW:Below w.heap.size w W) :
  Calls Tryz.prog 115 #[.pointer (some ⟨Z.t,0,none⟩),Z.vl,str (playL.getD i noR).out] W (zhg (zbg playL (fun p=>zaa p a.m) (playL.getD i noR).out) W):=by
 obtain⟨o,ho⟩:=zfr;obtain⟨h1,h2⟩:=zbv ho;have hin:i∈o:=h2 i hi rfl;obtain⟨t,ht,e⟩:=List.mem_iff_getElem.1 hin;have K:=ztt (zxp h hR) (isB:=fun _=>true) (o:=o) (by rw[hR]; exact h1) t ht (by rw[hR,e]; exact hi) W hW
 have he:(Z.R.map Prod.fst)[o[t]]'(by rw[hR,e]; exact hi)=playL.getD i noR:=by
  rw[zat (show i<playL.length from hi)];simp only[hR,e]
 rw[he,hR] at K;exact K
set_option maxHeartbeats 4000000 in
theorem zue {w1 w:World} {Z:RY} {a:PS} {L O:List Ent} (h:RPSt w1 Z a L O w) (hR:Z.R.map Prod.fst=playL) :
  Calls Tryz.prog 49 #[ptrV Z.y] w fun e w'=>∃ u,e=.returned u∧w'.ownsRow w.heap.size 9 1 u (zb9 (zc8 playL (fun p=>zaa p a.m) a.mo)).length ((zb9 (zc8 playL (fun p=>zaa p a.m) a.mo)).map str)∧Below w.heap.size w w':=by
 have hRl:Z.R.length=6:=by have:=congrArg List.length hR; rw[List.length_map] at this; exact this
 have HRL:=Hd hRl;obtain⟨avl,cvl,hvl,-,-⟩:=id h.yard.rules.1;rw[List.length_map,hRl] at hvl;have H:=Hd h;have HR:=Hd hR;have KW:=Hd (fun i hi W hW=>zxq h hR i hi W hW);have KF:=Hd (fun p wl (hb:Below w.heap.size w wl)=>zfo w1.heap.size Z.o Z.lo O p wl (h.yard.below hb).out);have HCL:=Hd (fun wl (hb:Below w.heap.size w wl)=>(by
  have hc:=(h.below hb).yard.cells;rw[hvl] at hc;exact⟨hc.1,hc.2.1,hc.2.2.1⟩:wl.cell? ⟨Z.y,0,none⟩=some (ptrV Z.t)∧wl.cell? ⟨Z.y,1,none⟩=some (ptrV Z.o)∧wl.cell? ⟨Z.y,2,none⟩=some (.slice avl 6 cvl)))
 have HRU:=Hd (fun wl (hb:Below w.heap.size w wl)=>(by
  have hc:=(h.below hb).yard.rules.1;rw[hvl] at hc;exact hc:ReadsK 4 wl (.slice avl 6 cvl) (Z.R.map zay)))
 rw[hvl] at KW;clear h hR hvl hRl;go_enter Tryz.func49,Tryz.ntmps49
 go_wp2_with fail
 go_loopw [3,4] (fun ov iv wl=>∃ (i:Nat) (R:List (List UInt8)),i≤6∧iv=.int .i64 i∧wl.ownsRow w.heap.size 9 1 ov R.length (R.map str)∧R.Pairwise (·≤·)∧R.Perm (((playL.map RuleL.out).take i).filter (zb3 playL (fun p=>zaa p a.m) a.mo))∧Below w.heap.size w wl) (fun _ iv _=>6 - (intOf iv).toNat)
 case atStart=>exact⟨0,[],by omega,rfl,World.ownsRow_nil _ _ _ _,List.Pairwise.nil,List.Perm.nil,Below.refl _ _⟩
 case round =>
  obtain⟨i,R,hi,rfl,hown,hsort,hperm,hbi⟩:=hrel;have HO:=Hd hown;have HS:=Hd hsort;have HP:=Hd hperm;have HB:=Hd hbi;have hzi:=hbi.size;obtain⟨d0,d1,d2⟩:=HCL.out wr hbi;by_cases hlt:i<6
  ·have hlc:((i:Int)<6)=True:=eq_true (by omega)
   have hri:i<Z.R.length:=by rw[HRL.out]; exact hlt
   obtain⟨rb,ro,hix,-,hce⟩:=(HRU.out wr hbi).at (P:=Tryz.prog) Tryz.underlying22 (by kernel_rfl) i (by rw[List.length_map]; exact hri)
   simp only[List.getElem_map] at hce;have hc0:=hce 0 _ rfl;simp only[Nat.add_zero] at hc0;have hro:Z.R[i].1.out=(playL.getD i noR).out:=by
    rw[← HR.out,zat (by rw[List.length_map]; exact hri),List.getElem_map]
   rw[hro] at hc0;have KWI:=Hd (KW.out i hlt wr.drew hbi.drew);have HLK:=Hd (H.out.two.look (playL.getD i noR).out);have hTK:((playL.map RuleL.out).take (i+1)).filter (zb3 playL (fun p=>zaa p a.m) a.mo)=((playL.map RuleL.out).take i).filter (zb3 playL (fun p=>zaa p a.m) a.mo)++if zb3 playL (fun p=>zaa p a.m) a.mo (playL.getD i noR).out=true then [(playL.getD i noR).out] else []:=by
    have hjl:i<(playL.map RuleL.out).length:=hlt;have hpe:(playL.map RuleL.out)[i]=(playL.getD i noR).out:=by rw[List.getElem_map,zat (show i<playL.length from hlt)]
    rw[List.take_succ_eq_append_getElem hjl,List.filter_append,hpe];rw[List.filter_cons,List.filter_nil]
   have HTK:=Hd hTK;clear hTK hce hro hri hown hsort hperm;generalize (playL.getD i noR).out=p at *;go_wp2_with fail
   have HC2:=Hd (fun wl hb=>(⟨(HCL.out wl hb).1,(HCL.out wl hb).2.2⟩:wl.cell? ⟨Z.y,0,none⟩=some (ptrV Z.t)∧wl.cell? ⟨Z.y,2,none⟩=some (.slice avl 6 cvl)))
   go_region_held3 (fun w'=>w'.cell? ⟨Z.y,0,none⟩=some (ptrV Z.t)∧w'.cell? ⟨Z.y,2,none⟩=some (.slice avl 6 cvl))
    (first | exact HC2.out _ (HB.out.drew.trans (hb2.mono hzi)) | exact HC2.out _ HB.out.drew)
    (first
     |(go_at_call 115
       refine KWI.out.mono ?_
       rintro e w2 ⟨rfl,hb2⟩))
   have HB2:Hid (Below w.heap.size w w2):=Hd (HB.out.drew.trans (hb2.mono hzi));have HO2:=Hd (zaf (S:=fun _=>False) HO.out (Fr.of_below ((Below.refl wr.heap.size wr).drew.trans hb2)) (fun k hk=>⟨(HO.out.lt k hk).2,id⟩));have KFI:=Hd (KF.out p w2 HB2.out);obtain⟨-,d1',-⟩:=HCL.out w2 HB2.out;have HSB:Hid (zb3 playL (fun p=>zaa p a.m) a.mo p=(((zaa p O).isSome != ((zbg playL (fun p=>zaa p a.m) p).1==0))||((zaa p O).isSome&&((zaa p O).getD [] != (zbg playL (fun p=>zaa p a.m) p).2)))):=Hd (by unfold zb3; rw[HLK.out])
   clear hb2 d0 d1 d2 hc0 hix KWI hbi;generalize zbg playL (fun p=>zaa p a.m) p=wv at *;obtain⟨wc,wb⟩:=wv;simp only at HSB;go_wp2_with fail
   refine KFI.out.mono ?_
   rintro e w3 ⟨rfl,e3⟩;subst e3;have skip:zb3 playL (fun p=>zaa p a.m) a.mo p=false→R.Perm (((playL.map RuleL.out).take (i+1)).filter (zb3 playL (fun p=>zaa p a.m) a.mo)):=fun h=>by
    rw[HTK.out,h];simpa using HP.out
   have SKIP:=Hd skip;have ADD:Hid (zb3 playL (fun p=>zaa p a.m) a.mo p=true→∀ R3:List (List UInt8),R3.Perm (p::R)→R3.Perm (((playL.map RuleL.out).take (i+1)).filter (zb3 playL (fun p=>zaa p a.m) a.mo))):=Hd (fun h R3 h3=>by
    rw[HTK.out,h,if_pos rfl];exact (h3.trans (List.Perm.cons _ HP.out)).trans (List.perm_append_singleton _ _).symm)
   clear skip;rcases hk:zaa p O with _ | b
   case' none =>
    rw[hk] at HSB;have hf:zdb p O = -1:=by unfold zdb; rw[zch hk]
    have hf1:(zdb p O<0)=True:=eq_true (by omega)
    have hf2:(zdb p O≥0)=False:=eq_false (by omega)
    have hf3:(0≤zdb p O)=False:=eq_false (by omega)
    clear hf hk;generalize zdb p O=fn at *;by_cases hw:wc=0
    case neg =>
     have hw1:((wc:Int) > 0)=True:=eq_true (by omega)
     have hw2:((0:Int)<(wc:Int))=True:=eq_true (by omega)
     have hw3:(0<wc)=True:=eq_true (by omega)
     have HST:=Hd (SKIP.out (by rw[HSB.out]; simp[hw]))
     have hw4:((wc:Int)==0)=false:=by simp; omega
     go_wp2
     go_roundw
     case rel=>exact⟨i+1,R,by omega,by go_num,HO2.out,HS.out,HST.out,HB2.out⟩
     case measure=>simp[intOf]; omega
    subst hw;have HSTA:=Hd (ADD.out (by rw[HSB.out]; simp))
   rotate_left
   case' some =>
    rw[hk] at HSB;obtain⟨q,hq,hql,hqb⟩:=zr8 hk;have hf:zdb p O=(q:Int):=by unfold zdb; rw[hq]
    have hot:=(H.out.below HB2.out).yard.out;have c0:=hot.cell;have hor:=hot.reads;obtain⟨alo,clo,hlo,-,-⟩:=id hor;rw[List.length_map] at hlo;rw[hlo] at hor c0;obtain⟨bx,ox,hixo,-,hceo⟩:=hor.at (P:=Tryz.prog) Tryz.underlying37 (by kernel_rfl) q (by simpa using hql)
    have e1:w2.cell? ⟨bx,ox+1,none⟩=some (str O[q].2):=hceo 1 _ (by simp)
    rw[hqb] at e1;have hf1:((q:Int)<0)=False:=eq_false (by omega)
    have hf2:((q:Int)≥0)=True:=eq_true (by omega)
    have hf3:((0:Int)≤(q:Int))=True:=eq_true (by omega)
    rw[hf];clear hf hk hot hceo hq hqb hor hlo;by_cases hw:wc=0
    case' pos =>
     subst hw;by_cases hbw:b=wb
     case pos =>
      subst hbw;have HST:=Hd (SKIP.out (by rw[HSB.out]; simp))
      go_wp2
      go_roundw
      case rel=>exact⟨i+1,R,by omega,by go_num,HO2.out,HS.out,HST.out,HB2.out⟩
      case measure=>simp[intOf]; omega
     have HSTA:=Hd (ADD.out (by rw[HSB.out]; simp[hbw]))
     have hbq:(b==wb)=false:=by simpa using hbw
    rotate_left
    have HSTA:=Hd (ADD.out (by rw[HSB.out]; simp[hw]))
    have hw1:((wc:Int) > 0)=True:=eq_true (by omega)
    have hw2:((0:Int)<(wc:Int))=True:=eq_true (by omega)
    have hw3:(0<wc)=True:=eq_true (by omega)
    have hw4:((wc:Int)==0)=false:=by simp; omega
   all_goals
    rcases HO2.out.2 with ⟨rfl,h0⟩ |⟨g,cap,cur,rfl,hg,hh,hcn,hcap,hsz,htake⟩
    ·obtain rfl:=List.length_eq_zero_iff.1 h0;obtain⟨ti,hti,hz0,hz1,hz2⟩:=info_parts tyStrsK.info;clear h0;go_wp2_with fail
     go_loopw [10] (fun kv wl=>kv=.int .i64 0∧wl=w2) (fun _ _=>0)
     case atStart=>exact⟨rfl,rfl⟩
     case round =>
      obtain⟨rfl,rfl⟩:=hrel;have hzw:=HB2.out.size;go_wp2_with (first
       |(at_builtin; refine wpList_append_own_none rfl (.tmp 89) (.tmp 92) 33 rfl w.heap.size 9 ti 1 tyStrsK.und hti _ 0 [] rfl (World.ownsRow_nil _ _ _ _) rfl ?_)
       |(at_builtin
         refine zah _ rfl (.tmp 94) (.tmp 96) 33 rfl tyStrsK w.heap.size _ 0 [] rfl (World.ownsRow_nil _ _ _ _) ⟨wr.heap.size,0,none⟩ 1 1 [str p] rfl rfl (zap ?_) ?_ (by decide) ?_ ?_ ?_
         ·simp[go_sem]
         ·intro u hu; simp at hu; subst hu; rfl
         ·omega
         ·simp; omega
         intro v5 w5 ho5 hg5 hloc5;have HB5:Hid (Below w.heap.size w w5):=Hd ((HB2.out.alloc hzw _).grown hg5 (by simp; omega) (fun k hk=>by cases hk))
         have HO5:=Hd ho5;clear ho5 hg5 hloc5)
       |(at_builtin; refine wpList_append_own_none rfl (.tmp 98) (.tmp 101) 33 rfl w.heap.size 9 ti 1 tyStrsK.und hti v5 1 [str p] rfl HO5.out rfl ?_))
      go_wp2
      go_roundw
      case rel=>exact⟨i+1,[p],by omega,by go_num,HO5.out,by simp,HSTA.out [p] (List.Perm.refl _),HB5.out⟩
      case measure=>simp[intOf]; omega
    ·have hR6:R.length≤1000000:=by
      have h1:=HP.out.length_eq;have h2:=List.length_filter_le (zb3 playL (fun p=>zaa p a.m) a.mo) ((playL.map RuleL.out).take i);rw[List.length_take] at h2;omega
     have hcap2:R.length≤cap:=hcn;have hzw:=HB2.out.size;have hr:=zac HO2.out;have hgl:=zab hh;have hcell:∀ (wl:World),Below w2.heap.size w2 wl→∀ j x,R[j]? = some x→wl.cell? ⟨g,j,none⟩=some (str x):=fun wl hb j x hj=>by
      obtain⟨a',c',e,-,hc⟩:=hr;rw[List.length_map] at e;cases e
      obtain⟨b',o',e,hcj⟩:=hc j (str x) (by rw[List.getElem?_map,hj]; rfl)
      cases e
      rw[Nat.zero_add] at hcj;exact (hb.cell (p:=⟨g,j,none⟩) hgl).trans hcj
     have HC:=Hd hcell;clear hr hcell hg hh hcn hsz htake;go_wp2_with fail
     go_loopw [10] (fun kv wl=>∃ k:Nat,k≤R.length∧kv=.int .i64 k∧(∀ j (h:j<R.length),k≤j→p<R[j])∧wl=w2) (fun kv _=>(intOf kv).toNat)
     case atStart=>exact⟨R.length,Nat.le_refl _,rfl,fun j h hj=>by omega,rfl⟩
     case round =>
      obtain⟨k,hk,rfl,hgt,rfl⟩:=hrel;have HGT:=Hd hgt;clear hgt;have fin:(∀ h:k - 1<R.length,0<k→¬ p<R[k - 1])→Hid (layB R p=R.take k++p::R.drop k):=fun h=>Hd (zwd hk HGT.out h);have FIN:=Hd fin;clear fin;by_cases hk0:k=0
      ·subst hk0;have HF:=FIN.out (fun _ h=>by omega)
       clear FIN;go_wp2_with (first
        |(at_builtin
          refine zah _ rfl (.tmp 89) (.tmp 92) 33 rfl tyStrsK wr.heap.size _ 0 [] rfl (World.ownsRow_nil _ _ _ _) ⟨g,0,none⟩ 0 cap [] rfl rfl (fun j u h=>by simp at h) (fun u h=>by simp at h) (by decide) (by omega) (Nat.le_refl _) ?_
          intro v4 w4 ho4 hg4 hloc4;have HB4:Hid (Below wr.heap.size wr w4):=Hd ((Below.refl _ wr).grown hg4 (Nat.le_refl _) (fun k hk=>by cases hk))
          have HO4:=Hd ho4;clear ho4 hg4 hloc4;have hz4:=HB4.out.size)
        |(at_builtin
          refine zah _ rfl (.tmp 94) (.tmp 96) 33 rfl tyStrsK wr.heap.size v4 _ _ rfl (HO4.out.alloc _) ⟨w4.heap.size,0,none⟩ 1 1 [str p] rfl rfl (zap ?_) ?_ (by decide) ?_ ?_ ?_
          ·simp[go_sem]
          ·intro u hu; simp at hu; subst hu; rfl
          ·omega
          ·simp; omega
          intro v5 w5 ho5 hg5 hloc5;have HB5:Hid (Below wr.heap.size wr w5):=Hd ((HB4.out.alloc hz4 _).grown hg5 (by simp; omega) (fun k hk=>(HO4.out.lt k hk).1))
          have HO5:=Hd ho5;clear ho5 hg5 hloc5;have hz5:=HB5.out.size)
        |(at_builtin
          refine zah _ rfl (.tmp 98) (.tmp 101) 33 rfl tyStrsK wr.heap.size v5 _ _ rfl HO5.out ⟨g,0,none⟩ R.length cap (R.map str) rfl (List.length_map _) (fun j u hj=>?_) (fun u hu=>?_) (by decide) ?_ hz5 ?_
          ·rw[zb0 rfl,Nat.zero_add];rw[List.getElem?_map] at hj;obtain⟨x,hx,rfl⟩:=Option.map_eq_some_iff.1 hj;exact HC.out _ HB5.out j x hx
          ·obtain⟨x,-,rfl⟩:=List.mem_map.1 hu;rfl
          ·omega
          intro v6 w6 ho6 hg6 hloc6;have HB6:Hid (Below wr.heap.size wr w6):=Hd (HB5.out.grown hg6 hz5 (fun k hk=>(HO5.out.lt k hk).1));have HO6:=Hd ho6;clear ho6 hg6 hloc6))
       have hrow:=zaj HO6.out hzw;have HROW:Hid (w6.ownsRow w.heap.size 9 1 v6 (layB R p).length ((layB R p).map str)):=Hd (by
        rw[HF.out];simpa[Nat.add_comm,Nat.add_left_comm] using hrow)
       clear hrow;go_wp2
       go_roundw
       case rel=>exact⟨i+1,layB R p,by omega,by go_num,HROW.out,zer p HS.out,HSTA.out _ (zhc R p),HB2.out.trans (HB6.out.mono hzw)⟩
       case measure=>simp[intOf]; omega
      ·obtain⟨q,rfl⟩:∃ q,k=q+1:=⟨k - 1,by omega⟩
       have hcq:=HC.out wr (Below.refl _ _) q _ (List.getElem?_eq_getElem (by omega))
       have hixq:=zbm (P:=Tryz.prog) (T:=33) (E:=9) Tryz.underlying33 (by kernel_rfl) g R.length cap q (by omega)
       have hsub:(q:Int)+1 - 1=(q:Int):=by omega
       have hw1:IntKind.i64.wrap ((q:Int)+1 - 1)=(q:Int):=by rw[hsub]; exact IntWalk.i64_in _ (by omega)
       have hw2:IntKind.i64.wrap (q:Int)=(q:Int):=IntWalk.i64_in _ (by omega)
       have hkp:((0:Int)<(q:Int)+1)=True:=eq_true (by omega)
       by_cases hlt:p<R[q]'(by omega)
       ·have HN:Hid (∀ j (h:j<R.length),q≤j→p<R[j]):=Hd (fun j h hj=>by
         by_cases hjq:j=q
         ·subst hjq; exact hlt
         ·exact HGT.out j h (by omega))
        have hb:Op.bytesLess (R[q]'(by omega)) p=false:=by rw[bytesLess_eq]; exact decide_eq_false (fun h=>List.lt_irrefl _ (List.lt_trans h hlt))
        have hb2:((R[q]'(by omega))==p)=false:=by
         rw[beq_eq_false_iff_ne];intro e;rw[e] at hlt;exact List.lt_irrefl _ hlt
        clear FIN hlt;generalize R[q]'(by omega)=x at *
        go_wp2
        go_roundw
        case rel=>exact⟨q,by omega,rfl,HN.out,by first | rfl | trivial⟩
        case measure=>simp[intOf]
       ·have HF:=FIN.out (fun _ _=>by simpa using hlt)
        have hor:Op.bytesLess (R[q]'(by omega)) p=true∨(Op.bytesLess (R[q]'(by omega)) p=false∧((R[q]'(by omega))==p)=true):=by
         rcases List.le_iff_lt_or_eq.1 (List.not_lt.1 hlt) with h | h
         ·left
          rw[bytesLess_eq];exact decide_eq_true h
         ·right
          rw[h];refine⟨?_,by simp⟩
          rw[bytesLess_eq];exact decide_eq_false (List.lt_irrefl _)
        have hkl:(q+1≤R.length)=True:=eq_true hk;have hkl2:((q:Int)+1≤(R.length:Int))=True:=eq_true (by omega)
        have hkc2:((q:Int)+1≤(cap:Int))=True:=eq_true (by omega)
        have hkc:(q+1≤cap)=True:=eq_true (by omega)
        have htn:((q:Int)+1).toNat=q+1:=by omega
        clear FIN hlt;generalize R[q]'(by omega)=x at *
        have hcc:(cap=q+1∧Hid (R.length=q+1))∨((cap=q+1)=False∧(q+1=cap)=False):=by
         by_cases h:cap=q+1
         ·exact Or.inl ⟨h,Hd (by omega)⟩
         ·exact Or.inr ⟨eq_false h,eq_false (fun e=>h e.symm)⟩
        rcases hor with hb |⟨hb,hb2⟩
        all_goals rcases hcc with ⟨rfl,hll⟩ |⟨hc8,hc9⟩
        all_goals
         go_wp2_with (first
          |(at_builtin
            refine zah _ rfl (.tmp 89) (.tmp 92) 33 rfl tyStrsK wr.heap.size _ 0 [] rfl (World.ownsRow_nil _ _ _ _) ⟨g,0,none⟩ (q+1) _ ((R.take (q+1)).map str) rfl (by rw[List.length_map,List.length_take]; omega) (fun j u hj=>?_) (fun u hu=>?_) (by decide) (by omega) (Nat.le_refl _) ?_
            ·rw[zb0 rfl,Nat.zero_add];rw[List.getElem?_map] at hj;obtain⟨x,hx,rfl⟩:=Option.map_eq_some_iff.1 hj;rw[List.getElem?_take] at hx
             split at hx
             ·exact HC.out _ (Below.refl _ _) j x hx
             ·cases hx
            ·obtain⟨x,-,rfl⟩:=List.mem_map.1 hu;rfl
            intro v4 w4 ho4 hg4 hloc4;have HB4:Hid (Below wr.heap.size wr w4):=Hd ((Below.refl _ wr).grown hg4 (Nat.le_refl _) (fun k hk=>by cases hk))
            have HO4:=Hd ho4;clear ho4 hg4 hloc4;have hz4:=HB4.out.size)
          |(at_builtin
            refine zah _ rfl (.tmp 94) (.tmp 96) 33 rfl tyStrsK wr.heap.size v4 _ _ rfl (HO4.out.alloc _) ⟨w4.heap.size,0,none⟩ 1 1 [str p] rfl rfl (zap ?_) ?_ (by decide) ?_ ?_ ?_
            ·simp[go_sem]
            ·intro u hu; simp at hu; subst hu; rfl
            ·omega
            ·simp; omega
            intro v5 w5 ho5 hg5 hloc5;have HB5:Hid (Below wr.heap.size wr w5):=Hd ((HB4.out.alloc hz4 _).grown hg5 (by simp; omega) (fun k hk=>(HO4.out.lt k hk).1))
            have HO5:=Hd ho5;clear ho5 hg5 hloc5;have hz5:=HB5.out.size)
          |(at_builtin
            refine zah _ rfl (.tmp 98) (.tmp 101) 33 rfl tyStrsK wr.heap.size v5 _ _ rfl HO5.out ⟨g,0,none⟩ 0 0 [] rfl rfl (fun j u h=>by simp at h) (fun u h=>by simp at h) (by decide) ?_ hz5 ?_
            ·omega
            intro v6 w6 ho6 hg6 hloc6;have HB6:Hid (Below wr.heap.size wr w6):=Hd (HB5.out.grown hg6 hz5 (fun k hk=>(HO5.out.lt k hk).1));have HO6:Hid (w6.ownsRow wr.heap.size 9 1 v6 (0+(q+1)+1+(R.length - (q+1))) (([]++(R.take (q+1)).map str++[str p])++(R.drop (q+1)).map str)):=Hd (by
             have h:=hll.out;rw[show R.length - (q+1)=0 by omega,List.drop_of_length_le (by omega)]
             exact ho6)
            clear ho6 hg6 hloc6)
          |(at_builtin
            refine zah _ rfl (.tmp 98) (.tmp 101) 33 rfl tyStrsK wr.heap.size v5 _ _ rfl HO5.out ⟨g,_,none⟩ (R.length - (q+1)) _ ((R.drop (q+1)).map str) rfl (by rw[List.length_map,List.length_drop]) (fun j u hj=>?_) (fun u hu=>?_) (by decide) ?_ hz5 ?_
            ·rw[zb0 rfl];rw[List.getElem?_map] at hj;obtain⟨x,hx,rfl⟩:=Option.map_eq_some_iff.1 hj;rw[List.getElem?_drop] at hx;exact HC.out _ HB5.out (q+1+j) x hx
            ·obtain⟨x,-,rfl⟩:=List.mem_map.1 hu;rfl
            ·omega
            intro v6 w6 ho6 hg6 hloc6;have HB6:Hid (Below wr.heap.size wr w6):=Hd (HB5.out.grown hg6 hz5 (fun k hk=>(HO5.out.lt k hk).1));have HO6:=Hd ho6;clear ho6 hg6 hloc6))
         have hrow:=zaj HO6.out hzw;have HROW:Hid (w6.ownsRow w.heap.size 9 1 v6 (layB R p).length ((layB R p).map str)):=Hd (by
          rw[HF.out];have hlen:(R.take (q+1)++p::R.drop (q+1)).length=0+(q+1)+1+(R.length - (q+1)):=by
           rw[List.length_append,List.length_cons,List.length_take,List.length_drop];omega
          have hlist:(R.take (q+1)++p::R.drop (q+1)).map str=[]++(R.take (q+1)).map str++[str p]++(R.drop (q+1)).map str:=by simp
          rw[hlen,hlist];exact hrow)
         clear hrow;go_wp2
         go_roundw
         case rel=>exact⟨i+1,layB R p,by omega,by go_num,HROW.out,zer p HS.out,HSTA.out _ (zhc R p),HB2.out.trans (HB6.out.mono hzw)⟩
         case measure=>simp[intOf]; omega
  ·obtain rfl:i=6:=by omega
   have hlc:((6:Int)<6)=False:=eq_false (by omega)
   have HEQ:Hid (R=zb9 (zc8 playL (fun p=>zaa p a.m) a.mo)):=Hd (zkf HS.out (by
    have h:=HP.out;rw[List.take_of_length_le (show (playL.map RuleL.out).length≤6 from by decide)] at h
    exact h))
   clear hown hsort hperm;go_wp2
   go_ret
   exact⟨_,rfl,by rw[← HEQ.out]; exact HO.out,HB.out⟩
set_option maxHeartbeats 2000000 in
theorem zz0 {w1 w:World} {Z:RY} {a:PS} {L O:List Ent} (h:RPSt w1 Z a L O w) (hR:Z.R.map Prod.fst=playL) :
  Calls Tryz.prog 56 #[ptrV Z.y] w fun e w'=>e=.returned (str (sumL a.m a.mo))∧Below w.heap.size w w':=by
 have hOm:=h.two.many;have hOl:=h.two.perm.length_eq;have hpb:∀ x∈O,x.1.length≤1000∧x.2.length≤10000:=fun x hx=>by have:=h.two.path x hx; omega
 have HLL:Hid ((zcw O).length≤12000*60):=Hd (Nat.le_trans (zh7 hpb) (by omega))
 have KT:=Hd (zor w1.heap.size Z.o Z.lo O w h.yard.out (by omega) hpb)
 have KS:=Hd (fun wl (hb:Below w.heap.size w wl)=>zue (h.below hb) hR);have HEQ:Hid (sumL a.m a.mo=(zcw O++[10])++Lib.join (zb9 (zc8 playL (fun p=>zaa p a.m) a.mo)) [32]):=Hd (by unfold sumL; rw[h.two.lines])
 have HSL:Hid ((zb9 (zc8 playL (fun p=>zaa p a.m) a.mo)).length≤50∧∀ s∈zb9 (zc8 playL (fun p=>zaa p a.m) a.mo),s.length≤10000):=Hd (by
  have hp:=zbw (zc8 playL (fun p=>zaa p a.m) a.mo);refine⟨?_,fun s hs=>?_⟩
  ·rw[hp.length_eq];exact Nat.le_trans (List.length_filter_le _ _) (by decide)
  ·have h1:=(List.mem_filter.1 (hp.mem_iff.1 hs)).1;obtain⟨r,hr,rfl⟩:=List.mem_map.1 h1;have:=(zcz r hr).1;omega)
 obtain⟨-,d1,-⟩:=h.yard.cells;rw[HEQ.out];clear h hR hpb HEQ hOm hOl;generalize zb9 (zc8 playL (fun p=>zaa p a.m) a.mo)=sl at *;have hjb:=zmb sl HSL.out.2;have hsl:=HSL.out.1;have hll:=HLL.out;generalize zcw O=tx at *;obtain⟨jn,hjn⟩:∃ j,Lib.join sl [32]=j:=⟨_,rfl⟩;have HJ:=Hd hjn;rw[hjn] at hjb ⊢;clear hjn;go_enter Tryz.func56,Tryz.ntmps56
 go_wp2_with fail
 refine KT.out.mono ?_
 rintro e w2 ⟨rfl,hb2⟩;have l1:¬ (9223372036854775807<tx.length+1):=by omega
 have KS2:=Hd (KS.out w2 hb2);have HB2:=Hd hb2;clear hb2;go_wp2_with fail
 refine KS2.out.mono ?_
 rintro e w3 ⟨u,rfl,ho3,hb3⟩;have KJ:=Hd (zq4 sl u w3 (zac ho3) HSL.out.1 HSL.out.2);rw[HJ.out] at KJ;have HB3:=Hd (HB2.out.trans (hb3.mono HB2.out.size));clear ho3 hb3;go_wp2_with fail
 refine KJ.out.mono ?_
 rintro e w4 ⟨rfl,e4⟩;have e5:=e4.symm;subst e5;clear e4;have l2:¬ (9223372036854775807<tx.length+1+jn.length):=by omega
 go_wp2
 go_ret
 exact⟨by first | rfl | simp[zar,str],HB3.out⟩
theorem zz1 {w1 w w':World} {Z:RY} (hb1:Below w1.heap.size w1 w) (h:RYAt w.heap.size Z [] [] ⟨8,[],[]⟩ w') (hb:Below w.heap.size w w'):RPSt w1 Z PS.new [] [] w' :=
 ⟨⟨h.box,h.tree.baseM hb1.size,h.out.baseM hb1.size,h.rules,h.rlt,⟨Nat.le_trans hb1.size h.cache.low,h.cache.at_,fun k hk=>⟨Nat.le_trans hb1.size (h.cache.own k hk).1,(h.cache.own k hk).2⟩⟩,fun i q hi hq=>Nat.le_trans hb1.size (h.low i q hi hq),h.apart⟩,Tw.init,Tw.init,fun c0 e=>by cases e; exact⟨CSt.zero (by decide) (by decide),CInv.zero _⟩,hb1.trans (hb.mono hb1.size)⟩
structure Duo (w:World) (Y:YPl) (vl lv:Value) (R:List RV) (a:PS) (Z:RY) (b:PS) (L O:List Ent) (w':World):Prop where
 fst:FSt w.heap.size w Y vl R a.m a.mo a.c lv w'
 rps:RPSt w Z b L O w'
 ap:∀ i j q,ysec Y lv vl R i q→Z.sec j q→False
section
variable {w w' w2 : World} {Y : YPl} {vl lv lv' : Value} {R : List RV} {a a' b b' : PS} {Z Z' : RY} {L O L' O' : List Ent}
theorem Duo.below (h:Duo w Y vl lv R a Z b L O w') (hb:Below w'.heap.size w' w2):Duo w Y vl lv R a Z b L O w2:=⟨h.fst.below hb,h.rps.below hb,h.ap⟩
theorem Duo.drew (h:Duo w Y vl lv R a Z b L O w'):Duo w Y vl lv R a Z b L O w'.drew:=h.below (Below.refl _ _).drew
theorem Duo.low (h:Duo w Y vl lv R a Z b L O w'):Below w.heap.size w w':=h.fst.low
theorem Duo.left (h:Duo w Y vl lv R a Z b L O w') (hf:FSt w.heap.size w Y vl R a'.m a'.mo a'.c lv' w2) (ht:YTurn Y vl R lv lv' w' w2):Duo w Y vl lv' R a' Z b L O w2 :=
 ⟨hf,⟨h.rps.yard.fr ht.1 (fun i q hq ⟨j,e⟩=>h.ap j i q e hq),h.rps.twt,h.rps.two,h.rps.cok,hf.low⟩,fun i j q hi hj=>(ht.2 i q hi).elim (fun e=>h.ap i j q e hj) (fun e=>by have:=h.rps.yard.lt j q hj; omega)⟩
theorem Duo.right (h:Duo w Y vl lv R a Z b L O w') (hz:RPSt w Z' b' L' O' w2) (ht:RTurn Z Z' w' w2):Duo w Y vl lv R a Z' b' L' O' w2 :=
 ⟨⟨h.fst.yard.fr ht.1 (fun i q hq ⟨j,_,e⟩=>h.ap i j q hq e),h.fst.good,h.fst.outs,h.fst.cok,h.fst.room,hz.low⟩,hz,fun i j q hi hj=>(ht.2 j q hj).elim (fun e=>h.ap i j q hi e) (fun e=>by have:=h.fst.yard.lt i q hi; omega)⟩
end
theorem zz2 {ops:Array Oper} {o:Oper} {a:Act} {w:World} {K:Act→World→Prop} {Q:Exit→Act→World→Prop} {E:Prop}
  (hg:o.guard=none) (s x:Operand) (hop:o.op=Op.call { callee:=Callee.builtin Builtin.append,args:=#[s,x],argTypes:=#[53,53] })
  (hs:a.eval s=.slice none 0 0) (v:Value) (l:List Int) (hx:a.eval x=v) (hv:Reads w v (l.map num)) (hn:zx9 v) (hl:l.length≤100)
  (h:∀ v' w',w'.ownsRow w.heap.size 3 1 v' l.length (l.map num)→Below w.heap.size w w'→K (a.put o.dst v') w') :
  if Region.wanted o (yielded ops a.tmps)=true then Oper.wp Tryz.prog o a w K Q else E:=by
 obtain⟨i0,hi0,-,-,-⟩:=info_parts tyInts.info;obtain⟨a',c',e',hle,hc⟩:=hv;rw[List.length_map] at e' hle;rcases hn with rfl |⟨ad,n,c,rfl⟩
 ·simp only[Value.slice.injEq] at e';obtain⟨e1,e2,e3⟩:=e';obtain rfl:l=[]:=List.length_eq_zero_iff.1 e2.symm;exact zhi hg s x 53 hop w.heap.size 3 i0 1 Tryz.underlying53 hi0 (.slice none 0 0) 0 [] hs (World.ownsRow_nil _ _ _ _) hx (h _ w (World.ownsRow_nil _ _ _ _) (Below.refl _ _))
 ·simp only[Value.slice.injEq] at e';obtain⟨e1,e2,e3⟩:=e';subst e1 e2 e3;refine zrd hg s x 53 hop tyInts w.heap.size (.slice none 0 0) 0 [] hs (World.ownsRow_nil _ _ _ _) ad l.length c (l.map num) hx (by simp) (fun j u hj=>?_) ?_ (by decide) (by omega) (Nat.le_refl _) ?_
  ·obtain⟨b',o',e2,h2⟩:=hc j u hj;cases e2
   rw[zb0 rfl];exact h2
  ·intro u hu;obtain⟨x,-,rfl⟩:=List.mem_map.1 hu;rfl
  ·intro v' w' ho hg' _;exact h v' w' (by simpa using ho) ((Below.refl w.heap.size w).grown hg' (by omega) (fun q hq=>by cases hq))
theorem zkp {a:PS} (h:Good a.m):a.m.length≤1000∧(∀ x∈a.m,x.1.length≤1000)∧∀ p,(mget a.m p).length≤10000 :=
 ⟨by have:=h.len; omega,fun x hx=>by have:=h.klen x hx; omega,fun p=>by
  unfold mget;cases hk:zaa p a.m with
  | none=>simp
  | some b=>have:=h.byt p b hk; simp; omega⟩
set_option maxHeartbeats 4000000 in
theorem zpj (l:List Int) (v:Value) (w:World) (S:Nat→Addr) (hl:Reads w v (l.map num)) (hc:zfh v) (hvn:zx9 v) (hz:∀ z∈l,-9223372036854775808≤z∧z≤9223372036854775807) (hm:Ml w) (hS:ErrW w S) (hN:NErr w) (ht:Tab w) :
  Calls Tryz.prog 7 #[v] w fun e w'=>e=.returned (.bool true)∧Below w.heap.size w w':=by
 have hE:Ml w∧BErr w S∧NErr w∧Tab w:=⟨hm,znm hS,hN,ht⟩;have HNV:=Hd hvn;obtain⟨a1,c1,hv,hle,-⟩:=id hl;rw[List.length_map] at hv hle;subst hv;have KW:=Hd (zt8 w hE hS);have KN:=Hd (fun wl (hb:Below w.heap.size w wl)=>zr7 (S:=S) wl ⟨hE.1.below hb (Nat.le_refl _),hE.2.1.below hb,hE.2.2.1.below hb (Nat.le_refl _),zaz hE.2.2.2 hb (Nat.le_refl _)⟩);have HT:=Hd (fun wl (hb:Below w.heap.size w wl)=>zaz ht hb (Nat.le_refl _));have HE:=Hd hE;have HS:=Hd hS;have HL:=Hd (fun wl (hb:Below w.heap.size w wl)=>hl.below0 hb);have HZ:=Hd (fun z hz'=>(hz z hz').2);clear hl hc hvn hz hm hS hN ht hE;go_enter Tryz.func7,Tryz.ntmps7
 go_wp2_with fail
 refine KW.out.mono ?_
 rintro e w1 ⟨rfl,hb1⟩;have HB1:=Hd hb1;clear hb1;by_cases h100:100<l.length
 ·have hc1:((l.length:Int) > 100)=True:=eq_true (by omega)
  have hc2:(100<(l.length:Int))=True:=eq_true (by omega)
  go_wp2
  go_ret
  exact⟨rfl,HB1.out⟩
 have hc1:((l.length:Int) > 100)=False:=eq_false (by omega)
 have hc2:(100<(l.length:Int))=False:=eq_false (by omega)
 have HLN:Hid (l.length≤100):=Hd (by omega)
 have KA:=Hd (KN.out w1 HB1.out);go_wp2_with fail
 refine KA.out.mono ?_
 rintro e w2 ⟨Y,vl,la,R,rfl,hRa,hYa,hb2⟩;have HA2:=Hd (zxl HB1.out hYa hb2 hRa);have HRA:=Hd hRa;have KY:=Hd (zt9 w2);clear hYa hb2 hRa KA;go_wp2_with fail
 refine KY.out.mono ?_
 rintro e w3 ⟨Z,rfl,hRz,hZ,hb3,hq3⟩;have HRZ:=Hd hRz;have HD3:Hid (Duo w Y vl la R PS.new Z PS.new [] [] w3):=Hd ⟨HA2.out.below hb3,zz1 HA2.out.low hZ hb3,fun i j q hi hj=>by
  have h1:=HA2.out.yard.lt i q hi;have h2:w2.heap.size≤q:=by
   by_cases h4:j<4
   ·exact hZ.low j q h4 hj
   ·match j,h4,hj with
    | 4,_,hj=>exact hq3 q hj
  omega⟩
 have KSM:=Hd (fun (wl:World) (u1 u2:Value) (r:List Int) (B1 B2:Nat) (h1:wl.ownsRow B1 3 1 u1 l.length (r.map num)) (h2:wl.ownsRow B2 3 1 u2 l.length (r.map num))=>by
  have h:=zre u1 u2 r r wl (zac h1) (zac h2) (fun k hk=>(h1.lt k hk).2) (fun k hk=>(h2.lt k hk).2);rw[beq_self_eq_true] at h;exact h)
 have hcZ:=HD3.out.rps.yard.cells.1;clear hRz hZ hb3 hq3 KY HA2;go_wp2_with fail
 go_region_held3 (fun w'=>w'.cell? ⟨Z.y,0,none⟩=some (ptrV Z.t))
  (first | exact h12.rps.yard.cells.1 | exact h11.rps.yard.cells.1 | exact h9.rps.yard.cells.1 | exact h8.rps.yard.cells.1 | exact h7.rps.yard.cells.1 | exact h6.rps.yard.cells.1 | exact h5.rps.yard.cells.1 | exact h4.rps.yard.cells.1 | exact HD3.out.rps.yard.cells.1 | exact HD3.out.drew.rps.yard.cells.1)
  (first
   |(refine zz2 rfl (.tmp 21) (.tmp 22) rfl rfl _ l rfl ?_ HNV.out HLN.out ?_
     ·first | exact HL.out _ HD3.out.low | exact HL.out _ HD3.out.drew.low
     intro vx w4 hrx hbx;have h4:Duo w Y vl la R PS.new Z PS.new [] [] w4:=by first | exact HD3.out.below hbx | exact HD3.out.drew.below hbx)
   |(go_at_call 52
     refine (zr6 (S:=S) (a:=PS.new) l _ (zac hrx) (zbi hrx) (by have:=HLN.out; omega) HZ.out (fun k hk=>(hrx.lt k hk).2) (fun i q hq e=>?_) h4.fst HRA.out HE.out HS.out).mono ?_
     ·have h1:=(hrx.lt q e).1
      first
       |(have h2:=HD3.out.fst.yard.lt i q hq; omega)
       |(have h2:=HD3.out.drew.fst.yard.lt i q hq; omega)
     rintro e w5 ⟨v5,r5,b5,la5,rfl,hown5,hfar5,hpl5,hf5,ht5⟩;have h5:=h4.left hf5 ht5)
   |(go_at_call 55
     refine (zxo (a:=PS.new) l _ HL.out (by have:=HLN.out; omega) HZ.out h5.rps HRZ.out).mono ?_
     rintro e w6 ⟨v6,r6,b6,lt6,lo6,lc6,L6,O6,rfl,hown6,hpl6,hf6,ht6⟩;obtain⟨er6,eb6⟩:=hpl5.one hpl6;subst er6 eb6;obtain⟨hrow6,-⟩:=ht6.row hown5 (fun i q hq e=>by have h1:=(hown5.lt q e).1; have h2:=h4.rps.yard.lt i q hq; omega)
     have h6:=h5.right hf6 ht6)
   |(go_at_call 46
     refine (KSM.out w6 v5 v6 r5 _ _ hrow6 hown6).mono ?_
     rintro e w7 ⟨rfl,hb7⟩;have h7:=h6.below hb7)
   |(go_at_call 53
     refine (zzw (S:=S) h7.fst HRA.out HE.out (hpl5.good Good.nil)).mono ?_
     rintro e w8 ⟨rfl,hb8⟩;have h8:=h7.below hb8)
   |(go_at_call 56
     refine (zz0 h8.rps HRZ.out).mono ?_
     rintro e w9 ⟨rfl,hb9⟩;have h9:=h8.below hb9)
   |(go_at_call 17
     refine (zkr _ h9.fst.yard).mono ?_
     rintro e w10 ⟨rfl,rfl⟩)
   |(go_at_call 25
     refine (zoq Y.tb Y.mb b5.m _ h9.fst.yard.tree (HT.out _ h9.low) h9.fst.good.nd (zkp h9.fst.good).1 (zkp h9.fst.good).2.1 (zkp h9.fst.good).2.2).mono ?_
     rintro e w11 ⟨rfl,hb11⟩;have h11:=h9.below hb11)
   |(go_at_call 47
     refine (zor w.heap.size Z.t lt6 L6 _ h11.rps.yard.tree (by have:=h11.rps.twt.many; have:=h11.rps.twt.perm.length_eq; omega) (fun x hx=>by have:=h11.rps.twt.path x hx; omega)).mono ?_
     rw[← h11.rps.twt.lines];rintro e w12 ⟨rfl,hb12⟩;have h12:=h11.below hb12))
 go_wp2
 go_ret
 exact⟨rfl,h12.low⟩
end Go.Proofs.YtgjialbmlhbngaaGreatDoor
namespace Go.Proofs.YtgjialbmlhbngaaGreatDoor
open Go Go.RowKit Go.Kf
theorem eStar : "*" ++ "errors.errorString" = "*errors.errorString" := by decide
theorem eRow (u:TypeId) (h:Tryz.prog.typeName? 3 u=some "*errors.errorString"):u=380 :=
 typeName_ptr_named (nm := "errors.errorString") (by rw[eStar]; kernel_rfl) (by kernel_rfl) (by decide) u (by rw[eStar]; exact h)
theorem eVar:Tryz.prog.globalNamed "errors.errorType" = some 12:=by kernel_rfl
theorem eRtype:(Tryz.prog.cutTypes.find? (·.1 == "internal/reflectlite.rtype")).map (·.2)=some 323:=by kernel_rfl
theorem eOneRow:((List.range 419).filter fun t=>Tryz.prog.rowNamed t [101,114,114,111,114])=[28]:=by kernel_rfl
theorem eTypes:Tryz.prog.types.size=419:=by kernel_rfl
theorem eHandle:typeHandle Tryz.prog 28=.pointer (some ⟨26,28,none⟩):=by kernel_rfl
def sents:List (String×List UInt8×Nat):=[
 ("kilnfield/api.ErrText", [107,105,108,110,102,105,101,108,100,58,32,116,101,120,116],9),
 ("kilnfield/api.ErrBound", [107,105,108,110,102,105,101,108,100,58,32,98,111,117,110,100],1),
 ("kilnfield/api.ErrShape", [107,105,108,110,102,105,101,108,100,58,32,115,104,97,112,101],4),
 ("kilnfield/api.ErrName", [107,105,108,110,102,105,101,108,100,58,32,110,97,109,101],8),
 ("kilnfield/api.ErrKind", [107,105,108,110,102,105,101,108,100,58,32,107,105,110,100],10),
 ("kilnfield/api.ErrNone", [107,105,108,110,102,105,101,108,100,58,32,110,111,110,101],0),
 ("kilnfield/api.ErrExist", [107,105,108,110,102,105,101,108,100,58,32,101,120,105,115,116],2),
 ("kilnfield/api.ErrFull", [107,105,108,110,102,105,101,108,100,58,32,102,117,108,108],3),
 ("kilnfield/api.ErrCycle", [107,105,108,110,102,105,101,108,100,58,32,99,121,99,108,101],7),
 ("kilnfield/api.ErrLong", [107,105,108,110,102,105,101,108,100,58,32,108,111,110,103],11),
 ("kilnfield/api.ErrTurn", [107,105,108,110,102,105,101,108,100,58,32,116,117,114,110],6),
 ("kilnfield/api.ErrDone", [107,105,108,110,102,105,101,108,100,58,32,100,111,110,101],5)]
theorem zzi:∀ k,k<12→∃ s,sents[k]? = some s∧s.2.2=zdq k
 | 0,_=>⟨_,rfl,rfl⟩ | 1,_=>⟨_,rfl,rfl⟩ | 2,_=>⟨_,rfl,rfl⟩ | 3,_=>⟨_,rfl,rfl⟩ | 4,_=>⟨_,rfl,rfl⟩ | 5,_=>⟨_,rfl,rfl⟩
 | 6,_=>⟨_,rfl,rfl⟩ | 7,_=>⟨_,rfl,rfl⟩ | 8,_=>⟨_,rfl,rfl⟩ | 9,_=>⟨_,rfl,rfl⟩ | 10,_=>⟨_,rfl,rfl⟩ | 11,_=>⟨_,rfl,rfl⟩
 | n+12,h=>by omega
theorem zqs:∀ s∈sents,Tryz.prog.globalNamed s.1=some s.2.2∧(Tryz.prog.globals[s.2.2]?).map (·.type)=some 28:=by
 have h:(sents.all fun s=>Tryz.prog.globalNamed s.1==some s.2.2&&(Tryz.prog.globals[s.2.2]?).map (·.type)==some 28)=true:=by kernel_rfl
 intro s hs;have:=List.all_eq_true.1 h s hs;simpa using this
def zc1:List (String×DataW Unit):=sents.map fun s=>(s.1, .iface "*errors.errorString" (.ptr (.agg [.lit (.string s.2.1)])))
theorem zox {W:World} {rest hs:List (String×DataW Unit)} (h:laidMet Tryz.prog (zc1++rest) W) (hh:handlesMet Tryz.prog hs W) (hin:("errors.errorType", Rows.laid_errors_errorType)∈hs):∃ S,ErrW W S:=by
 have ht:zm6 W:=by
  obtain⟨name,u,ty,e1,e2,e3,e4,e5⟩:=hh _ hin;have en:name=[101,114,114,111,114]:=(Option.some.inj e1).symm;subst en;obtain rfl:=Option.some.inj (eRtype.symm.trans e2);have hm:ty∈(List.range 419).filter fun t=>Tryz.prog.rowNamed t [101,114,114,111,114]:=List.mem_filter.2 ⟨List.mem_range.2 (by rw[← eTypes]; exact e3),e4⟩
  rw[eOneRow] at hm;obtain rfl:=List.mem_singleton.1 hm;rw[eHandle] at e5;unfold zm6;simpa using World.var?_cell eVar e5 0
 obtain⟨ps,hv,hnd,hrows⟩:=h;obtain⟨az,hlen,hnod,hin,hall⟩:=zd4 Tryz.underlying28 eRow Tryz.underlying380 Tryz.underlying382 rfl rfl Tryz.underlying9 (by kernel_rfl) (by kernel_rfl) rest sents ps hv zqs hnd hrows
 have hl:az.length=12:=hlen;have hat:∀ k,k<12→az[k]? = some (az.getD k ⟨0,0,none⟩):=fun k hk=>by
  rw[List.getD_eq_getElem?_getD,List.getElem?_eq_getElem (by omega)]
  rfl
 refine⟨fun k=>az.getD k ⟨0,0,none⟩,ht,zad ht,fun k hk=>?_,fun k hk=>?_,fun i j hi hj e=>?_⟩
 ·obtain⟨s,h1,h2⟩:=zzi k hk;have:=hall k s _ h1 (hat k hk)
  rwa [h2] at this
 ·exact (hrows _ _ (hin _ (List.mem_of_getElem? (hat k hk)))).1
 ·have h1:=hat i hi;have h2:=hat j hj;rw[show az.getD i ⟨0,0,none⟩=az.getD j ⟨0,0,none⟩ from e,← h2] at h1;exact (List.getElem?_inj (by omega:i<az.length) hnod).1 h1
theorem zm7 {W:World} {x:String×DataW Unit} {rest hs:List (String×DataW Unit)} (h:laidMet Tryz.prog (x::(zc1++rest)) W) (hh:handlesMet Tryz.prog hs W) (hin:("errors.errorType", Rows.laid_errors_errorType)∈hs):∃ S,ErrW W S:=by
 obtain⟨x1,x2⟩:=x;obtain⟨ps,⟨g,t,cs,fu,p,q,-,-,-,-,hv,rfl⟩,hnd,hrows⟩:=h;exact zox ⟨q,hv,(List.nodup_append.1 hnd).2.1,fun b off hb=>hrows b off (List.mem_append_right _ hb)⟩ hh hin
theorem zb6 {P:Program} {W:World} {x:String×DataW Unit} {l:List (String×DataW Unit)} (h:laidMet P (x::l) W):laidMet P l W:=by
 obtain⟨x1,x2⟩:=x;obtain⟨ps,⟨g,t,cs,fu,p,q,-,-,-,-,hv,rfl⟩,hnd,hrows⟩:=h;exact⟨q,hv,(List.nodup_append.1 hnd).2.1,fun b off hb=>hrows b off (List.mem_append_right _ hb)⟩
theorem zm8 {W:World} {x y z u:String×DataW Unit} {rest hs:List (String×DataW Unit)} (h:laidMet Tryz.prog (x::y::z::u::(zc1++rest)) W) (hh:handlesMet Tryz.prog hs W) (hin:("errors.errorType", Rows.laid_errors_errorType)∈hs):∃ S,ErrW W S :=
 zm7 (zb6 (zb6 (zb6 h))) hh hin
def zw2:List Nat:=(List.range 45).filter fun k=>k != 19
end Go.Proofs.YtgjialbmlhbngaaGreatDoor
set_option maxRecDepth 100000
namespace Go.Proofs.YtgjialbmlhbngaaGreatDoor.lawPlayRuns
open Go Go.ChangeShapes Go.WideShapes Go.ChangeAt Go.RowKit Go.Kf
theorem own:ownKnob Tryz.prog.godebug=none:=by kernel_rfl
theorem laidOut:laidOutB Tryz.prog=true:=by kernel_rfl
theorem laidIs (W:World):laidMetH Tryz.prog Rows.playRunsRow.laid W=(laidMet Tryz.prog (("math/bits.deBruijn32tab", Rows.laid_math_bits_deBruijn32tab)::("math/bits.deBruijn64tab", Rows.laid_math_bits_deBruijn64tab)::("internal/strconv.uint64pow10", Rows.laid_internal_strconv_uint64pow10)::("unicode/utf8.acceptRanges", Rows.laid_unicode_utf8_acceptRanges)::(zc1++[("strconv.ErrRange", Rows.laid_strconv_ErrRange),("strconv.ErrSyntax", Rows.laid_strconv_ErrSyntax),("unicode/utf8.first", Rows.laid_unicode_utf8_first)])) W∧handlesMet Tryz.prog [("errors.errorType", Rows.laid_errors_errorType)] W):=by kernel_rfl
theorem plainOf:(Rows.playRunsRow.laid.filter fun x=>x.2.handleName?.isNone)=(("math/bits.deBruijn32tab", Rows.laid_math_bits_deBruijn32tab)::("math/bits.deBruijn64tab", Rows.laid_math_bits_deBruijn64tab)::("internal/strconv.uint64pow10", Rows.laid_internal_strconv_uint64pow10)::("unicode/utf8.acceptRanges", Rows.laid_unicode_utf8_acceptRanges)::(zc1++[("strconv.ErrRange", Rows.laid_strconv_ErrRange),("strconv.ErrSyntax", Rows.laid_strconv_ErrSyntax),("unicode/utf8.first", Rows.laid_unicode_utf8_first)])):=by kernel_rfl
theorem zq5:((("math/bits.deBruijn32tab", Rows.laid_math_bits_deBruijn32tab)::("math/bits.deBruijn64tab", Rows.laid_math_bits_deBruijn64tab)::("internal/strconv.uint64pow10", Rows.laid_internal_strconv_uint64pow10)::("unicode/utf8.acceptRanges", Rows.laid_unicode_utf8_acceptRanges)::(zc1++[("strconv.ErrRange", Rows.laid_strconv_ErrRange),("strconv.ErrSyntax", Rows.laid_strconv_ErrSyntax),("unicode/utf8.first", Rows.laid_unicode_utf8_first)])).filter fun x=>["unicode/utf8.first"].contains x.1)=[("unicode/utf8.first", Rows.laid_unicode_utf8_first)]:=by kernel_rfl
theorem zz3:((("math/bits.deBruijn32tab", Rows.laid_math_bits_deBruijn32tab)::("math/bits.deBruijn64tab", Rows.laid_math_bits_deBruijn64tab)::("internal/strconv.uint64pow10", Rows.laid_internal_strconv_uint64pow10)::("unicode/utf8.acceptRanges", Rows.laid_unicode_utf8_acceptRanges)::(zc1++[("strconv.ErrRange", Rows.laid_strconv_ErrRange),("strconv.ErrSyntax", Rows.laid_strconv_ErrSyntax),("unicode/utf8.first", Rows.laid_unicode_utf8_first)])).filter fun x=>!["unicode/utf8.first"].contains x.1)=(("math/bits.deBruijn32tab", Rows.laid_math_bits_deBruijn32tab)::("math/bits.deBruijn64tab", Rows.laid_math_bits_deBruijn64tab)::("internal/strconv.uint64pow10", Rows.laid_internal_strconv_uint64pow10)::("unicode/utf8.acceptRanges", Rows.laid_unicode_utf8_acceptRanges)::(zc1++[("strconv.ErrRange", Rows.laid_strconv_ErrRange),("strconv.ErrSyntax", Rows.laid_strconv_ErrSyntax)])):=by kernel_rfl
def sents14:List (String×List UInt8×Nat):=sents++[
 ("strconv.ErrRange", [118,97,108,117,101,32,111,117,116,32,111,102,32,114,97,110,103,101],18),
 ("strconv.ErrSyntax", [105,110,118,97,108,105,100,32,115,121,110,116,97,120],17)]
theorem zne:∀ s∈sents14,Tryz.prog.globalNamed s.1=some s.2.2∧(Tryz.prog.globals[s.2.2]?).map (·.type)=some 28:=by
 have h:(sents14.all fun s=>Tryz.prog.globalNamed s.1==some s.2.2&&(Tryz.prog.globals[s.2.2]?).map (·.type)==some 28)=true:=by kernel_rfl
 intro s hs;have:=List.all_eq_true.1 h s hs;simpa using this
theorem rows14 (z:String×DataW Unit):zc1++[("strconv.ErrRange", Rows.laid_strconv_ErrRange),("strconv.ErrSyntax", Rows.laid_strconv_ErrSyntax),z]=(sents14.map fun s=>(s.1, .iface "*errors.errorString" (.ptr (.agg [.lit (.string s.2.1)]))))++[z]:=by rfl
theorem znf {W:World} {x y z u v:String×DataW Unit} (h:laidMet Tryz.prog (x::y::z::u::(zc1++[("strconv.ErrRange", Rows.laid_strconv_ErrRange),("strconv.ErrSyntax", Rows.laid_strconv_ErrSyntax),v])) W):NErr W:=by
 rw[rows14] at h;obtain⟨q,hv,hnd,hrows⟩:=zb6 (zb6 (zb6 (zb6 h)));obtain⟨az,hlen,hnod,hin,hall⟩:=zd4 Tryz.underlying28 eRow Tryz.underlying380 Tryz.underlying382 rfl rfl Tryz.underlying9 (by kernel_rfl) (by kernel_rfl) [v] sents14 q hv zne hnd hrows
 have hl:az.length=14:=hlen;have hat:∀ k,k<14→az[k]? = some (az.getD k ⟨0,0,none⟩):=fun k hk=>by
  rw[List.getD_eq_getElem?_getD,List.getElem?_eq_getElem (by omega)]
  rfl
 exact⟨⟨_,_,hall 13 _ _ rfl (hat 13 (by decide))⟩,⟨_,_,hall 12 _ _ rfl (hat 12 (by decide))⟩⟩
theorem contract (H:Type) (enc:TypeId×Value→H) (W:World) (base:Nat) (args:Array Value) (ds gs:List (DataW H)) (before:List MemPlace)
  (hval:∀ (j:Nat) t v,Tryz.f7.params[j]? = some t→args[j]? = some v→Value.okWide Tryz.prog W .any base t v)
  (hW:DataW.Whole enc Tryz.prog Tryz.f7.params.toList Rows.playRunsSpec.vars false W args.toList ds gs before) (hL:laidMetH Tryz.prog Rows.playRunsRow.laid W) (hshape:World.ShapedOpen Tryz.prog W) :
  Calls Tryz.prog 7 args W fun e W'=>∃ v,e=.returned v∧Rows.playRunsSpec.post enc Tryz.prog Tryz.f7 false true false false W args v W':=by
 have hW':=hW;obtain⟨p,q,hA0,hV,rfl,hfz,hnd⟩:=hW;have hA:DataW.TrodAll enc Tryz.prog W 0 (fun _=>true) true Tryz.f7.params.toList args.toList ds p:=hA0;rw[Tryz.params7] at hA hval;obtain⟨v0,vs0,d0,ds0,p0,q0,hargs,rfl,rfl,h0,r0⟩:=trodAll_cons hA;obtain⟨rfl,rfl,rfl⟩:=trodAll_nil r0;obtain rfl:args=#[v0]:=by cases args; simp_all
 obtain⟨rfl,rfl⟩:=trodVars_none hV;clear hA0 hA r0;have h0k:=h0;have hlt0:∀ x∈p0,x.block<W.heap.size:=fun x hx=>hW'.lt x (by simp[hx])
 simp only[List.append_nil] at hW';obtain⟨a0,len0,cap0,rfl⟩:=okWide_slice Tryz.underlying53 (hval 0 53 v0 rfl rfl);obtain⟨fuel0,hf0⟩:=h0;obtain⟨x0,hx0,hy0,hz0⟩:=zw0 hf0;rw[laidIs] at hL;obtain⟨S,hS⟩:=zm8 hL.1 hL.2 (List.mem_singleton.2 rfl);have hN:NErr W:=znf hL.1;have hM:Ml W:=Tryz.laysM146.s1_3 W hshape;have t0:Tab W:=zm5 (g:=13) (by kernel_rfl) (by kernel_rfl) Tryz.underlying350 Tryz.underlying276 (by kernel_rfl) (by kernel_rfl) hL.1 2 (by kernel_rfl)
 refine (zpj x0 _ W S hx0 hy0 (zzp hf0) hz0 hM hS hN t0).mono fun e W' ⟨he,hb⟩=>?_
 subst he;refine⟨_,rfl,_,_,_,[],p0++[],[],hW',trodAll_cons_mk (shut_bool Tryz.underlying4 true) trodAll_mk0,(trodAll_cons_mk (Below.trod laidOut (by kernel_rfl) (of_decide_eq_true (by kernel_rfl)) h0k hb hlt0) trodAll_mk0),rfl,hb.frame _,fun h=>by cases h⟩
theorem zz4 (os:Os):laidMetH Tryz.prog Rows.playRunsRow.laid (((World.doorLaid Tryz.prog 307 os).layVars Tryz.prog [("unicode/utf8.first", Rows.laid_unicode_utf8_first)]).forCall (fun _ _=>0) ⟨#[],#[.slice none 0 0],[]⟩).memory:=by
 refine laidMetH_of_parts ?_ (by kernel_rfl)
 rw[plainOf];refine laidMet_layVars (w0:=World.doorLaid Tryz.prog 307 os) ["unicode/utf8.first"] zw2 ?_ ?_ ?_ ?_
 ·rw[zq5]; simp[World.memory,World.forCall,Input.heap]
 ·rw[zq5]; kernel_rfl
 ·rw[zq5]; kernel_rfl
 ·rw[zz3];exact LaidIn.of_run zw2 8 (by kernel_rfl) (by kernel_rfl) (by kernel_rfl) (by kernel_rfl)
theorem reads (os:Os) {H:Type} (enc:TypeId×Value→H):∃ places,DataW.whole enc Tryz.prog (((World.doorLaid Tryz.prog 307 os).layVars Tryz.prog [("unicode/utf8.first", Rows.laid_unicode_utf8_first)]).forCall (fun _ _=>0) ⟨#[],#[.slice none 0 0],[]⟩).memory Tryz.f7.params.toList Rows.playRunsSpec.vars false #[Value.slice none 0 0].toList 8=some ([.nil],[],places) :=
 ⟨[],by kernel_rfl⟩
theorem lifted (os:Os) (started:os.Started) (H:Type) (enc:TypeId×Value→H) (F:Stop.Interp) :
  ReturnsInHanded {} Tryz.checked os 7 .any ((OpenSpec.ofChange Rows.playRunsSpec).preRow enc Tryz.prog Tryz.f7 Rows.playRunsRow.domain false Rows.playRunsRow.laid) (((OpenSpec.ofChange Rows.playRunsSpec).at F).post enc Tryz.prog Tryz.f7 false true false false):=by
 obtain⟨places,hx⟩:=reads os enc;refine returnsInHanded_of_row (C:=Tryz.checked) (s:=OpenSpec.ofChange Rows.playRunsSpec) own started (by kernel_rfl) Tryz.func7
  (witness_row_atRef (enc:=enc) (C:=Tryz.checked) false ((World.doorLaid Tryz.prog 307 os).layVars Tryz.prog [("unicode/utf8.first", Rows.laid_unicode_utf8_first)]) #[.slice none 0 0] (World.layVars_os _ _ _) (by kernel_rfl) (by kernel_rfl) (by kernel_rfl)
   (OpenSpec.preRow_of_cond 8 hx (by kernel_rfl) (fun k hk=>by cases hk) (by kernel_rfl) (zz4 os))) ?_
 intro W base args ds gs before hval hW _ _ _ hL x4 _;exact contract H enc W base args ds gs before hval hW hL x4
end Go.Proofs.YtgjialbmlhbngaaGreatDoor.lawPlayRuns

namespace Go.Proofs.YtgjialbmlhbngaaGreatDoor.lawPlayRuns
open Go Go.ChangeShapes Go.WideShapes Go.ChangeAt Go.RowKit Go.Kf
set_option maxHeartbeats 80000000 in
theorem closedB:joinedFacts Tryz.prog 7 Tryz.f7 Rows.playRunsSpec Rows.playRunsRow=true:=by
 unfold joinedFacts;simp only[Bool.and_eq_true];refine⟨⟨⟨⟨⟨⟨⟨⟨⟨⟨⟨⟨⟨⟨⟨⟨⟨⟨⟨⟨⟨⟨⟨⟨⟨⟨⟨⟨⟨⟨⟨?k1,?k2⟩,?k3⟩,?k4⟩,?k5⟩,?k6⟩,?k7⟩,?k8⟩,?k9⟩,?k10⟩,?k11⟩,?k12⟩,?k13⟩,?k14⟩,?k15⟩,?k16⟩,?k17⟩,?k17b⟩,?k18⟩,?k19⟩,?k20⟩,?k21⟩,?k22⟩,?k23⟩,?k23b⟩,?k24⟩,?k24b⟩,?k24c⟩,?k25⟩,?k26⟩,?k27⟩,?k28⟩
 all_goals as_aux_lemma=>kernel_rfl
theorem goesB:false=Rows.playRunsRow.goesBy Tryz.pinned.checked.prog:=by kernel_rfl
theorem textB:Rows.playRunsRow.wfByText (OpenSpec.ofChange Rows.playRunsSpec)=true:=by kernel_rfl
theorem plain (f:FuncId) (fn:Func) (hf:Tryz.pinned.checked.prog.funcNamed "kilnfield/kilnfieldlaw3.PlayRuns" = some f) (hfn:Tryz.pinned.checked.prog.funcs[f]? = some fn) :
  true=Tryz.pinned.checked.prog.looks []∧∀ (j:Nat) t,fn.params[j]? = some t→Tryz.pinned.checked.prog.wantsStandIn t=false:=by
 obtain rfl:f=7:=Option.some.inj ((show Tryz.prog.funcNamed "kilnfield/kilnfieldlaw3.PlayRuns" = some 7 by kernel_rfl).symm.trans hf) |>.symm
 obtain rfl:fn=Tryz.f7:=(Option.some.inj (Tryz.func7.symm.trans hfn)).symm;refine⟨by kernel_rfl,fun j t ht=>?_⟩
 rw[Tryz.params7] at ht;have hm:=Array.mem_of_getElem? ht;simp only[List.mem_toArray,List.mem_cons,List.not_mem_nil,or_false] at hm;subst hm
 ·exact (show Tryz.prog.wantsStandIn 53=false by kernel_rfl)
end Go.Proofs.YtgjialbmlhbngaaGreatDoor.lawPlayRuns
namespace Go.Proofs.YtgjialbmlhbngaaGreatDoor.lawPlayRuns
open Go Go.ChangeShapes Go.WideShapes Go.ChangeAt Go.RowKit Go.Kf

set_option maxRecDepth 1000000 in
theorem said:Rows.PlayRunsSaid :=
 OpenClaim.holds_of_cond 7 Tryz.f7 rfl rfl rfl rfl rfl rfl rfl ⟨rfl,rfl,rfl,rfl,rfl⟩ rfl rfl rfl rfl rfl (by kernel_rfl) Tryz.func7 closedB
  (of_decide_eq_true (by kernel_rfl)) (by unfold Func.isWrapper; first | (rw[if_pos (by decide +kernel)]; kernel_rfl) | (rw[if_neg (by decide +kernel)]; exact⟨rfl,rfl⟩))
  (fun os started H enc _ F=>by rw[OpenClaim.pre_eq_preRow]; exact lifted os started H enc F)

/-- THE CARD. -/
theorem card:Rows.PlayRunsCardSaid :=
 Claim7.holds_tied_plain_at .later [] _ _ _ _ said (fun _ h=>by cases h) textB (fun _ h=>by cases h) playRuns_row_tie rfl ⟨rfl,rfl⟩ (by kernel_rfl) rfl plain goesB
end Go.Proofs.YtgjialbmlhbngaaGreatDoor.lawPlayRuns
