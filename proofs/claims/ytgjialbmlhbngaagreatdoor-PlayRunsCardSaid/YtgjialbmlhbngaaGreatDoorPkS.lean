/-
  The reference's acts: what is made by count and swap. The reference's ActOf of any command. The reference's WantOf at any rules that have an order.
-/
import Derived.Test.YtgjialbmlhbngaaGreatDoorPkL
import Derived.Test.YtgjialbmlhbngaaGreatDoorPkM
import Derived.Test.YtgjialbmlhbngaaGreatDoorPkI
import Derived.Test.YtgjialbmlhbngaaGreatDoorPkQ
import Derived.Test.YtgjialbmlhbngaaGreatDoorPkH

set_option maxRecDepth 100000
namespace Go.Proofs.YtgjialbmlhbngaaGreatDoor
open Go Go.RowKit Go.Kf Go.Sort Go.Proofs
set_option maxHeartbeats 1000000 in
theorem ztq (word:List UInt8) (v:Value) (ins:List (List UInt8)) (w:World) (hr:Reads w v (ins.map str)) (h8:ins.length≤8) (hx:∀ s∈ins,s.length≤10000) :
  Calls Tryz.prog 170 #[str [99,111,117,110,116],str word,v] w fun e w'=>e=.returned (str (countB ins))∧Below w.heap.size w w':=by
 have hle:=hr.le;obtain⟨a,cap,rfl,-,-⟩:=id hr;simp only[List.length_map] at *;have HR:=Hd hr;have HX:=Hd hx;have HA:Hid (∀ k,(allB (ins.take k)).length≤10001*8):=Hd (fun k=>by
  have h1:=zfu (ins:=ins.take k) (fun s hs=>hx s (List.mem_of_mem_take hs));have h2:(ins.take k).length≤8:=by rw[List.length_take]; omega
  omega)
 have HSU:Hid (∀ k,((ins.take k).map List.length).sum≤10000*8):=Hd (fun k=>by
  have h1:=zi4 (ins:=ins.take k) (fun s hs=>hx s (List.mem_of_mem_take hs));have h2:(ins.take k).length≤8:=by rw[List.length_take]; omega
  omega)
 clear hr hx;go_enter Tryz.func170,Tryz.ntmps170
 go_wp2_with fail
 go_loopw [19,20,21] (fun nv sv iv wl=>∃ i:Nat,i≤ins.length∧iv=.int .i64 i∧nv=.int .i64 (allB (ins.take i)).length∧sv=.int .i64 ((ins.take i).map List.length).sum∧Below w.heap.size w wl) (fun _ _ iv _=>ins.length - (intOf iv).toNat)
 case atStart=>exact⟨0,by omega,rfl,rfl,rfl,Below.refl _ _⟩
 case round =>
  obtain⟨i,hi,rfl,rfl,rfl,hbi⟩:=hrel;have HBi:=Hd hbi;clear hbi;by_cases hlt:i<ins.length
  ·obtain⟨b,o,hix,hce⟩:=(HR.out.below0 HBi.out).at (P:=Tryz.prog) Tryz.underlying33 (by kernel_rfl) i (by simpa using hlt)
   simp only[List.getElem_map] at hce;have hlc:((i:Int)<(ins.length:Int))=True:=eq_true (by omega)
   have hN1:(allB (ins.take (i+1))).length=(allB (ins.take i)).length+(za8 ins[i]).length:=by
    rw[List.take_succ_eq_append_getElem hlt,zg4,List.length_append]
   have HN1:=Hd hN1;have HN2:=Hd (zmt hlt);have ha:=HA.out (i+1);have hs1:=HSU.out (i+1);rw[hN1] at ha;rw[zmt hlt] at hs1;have hsl:=HX.out ins[i] (List.getElem_mem _);have KL:=Hd (fun w1=>zdo ins[i] w1 (by omega))
   clear hN1;generalize ins[i]=s at *;generalize (allB (ins.take i)).length=n at *;generalize ((ins.take i).map List.length).sum=m at *;generalize za8 s=L at *;have hw1:IntKind.i64.wrap ((n:Int)+(L.length:Int))=(n:Int)+(L.length:Int):=IntWalk.i64_in _ (by omega)
   have hw2:IntKind.i64.wrap ((m:Int)+(s.length:Int))=(m:Int)+(s.length:Int):=IntWalk.i64_in _ (by omega)
   go_wp2_with fail
   refine (KL.out _).mono ?_
   rintro e w2 ⟨vl,rfl,hol,hb2⟩;have hrl:=zac hol;obtain⟨al,cl,rfl,-,-⟩:=id hrl;have hce2:=(hb2.cell (p:=⟨b,o,none⟩) (zad hce)).trans hce;have HB2:=Hd (HBi.out.trans (hb2.mono HBi.out.size));clear hol hrl hb2 hce;simp only[List.length_map] at *;go_wp2
   go_roundw
   case rel=>exact⟨i+1,by omega,by go_num,by rw[HN1.out]; go_num,by rw[HN2.out]; go_num,HB2.out⟩
   case measure=>simp[intOf]; omega
  ·obtain rfl:i=ins.length:=by omega
   have hlc:((ins.length:Int)<(ins.length:Int))=False:=eq_false (by omega)
   have ha:=HA.out ins.length;have hs1:=HSU.out ins.length;rw[List.take_length] at *;have KN:=Hd (fun w1=>zcx (allB ins).length w1 (by omega))
   have KM:=Hd (fun w1=>zcx (ins.map List.length).sum w1 (by omega))
   have hd1:=zfv (allB ins).length (by omega)
   have hd2:=zfv (ins.map List.length).sum (by omega)
   have HC:Hid (countB ins=((Lib.decDigits (allB ins).length++[32])++Lib.decDigits (ins.map List.length).sum)++[10]):=Hd rfl;generalize Lib.decDigits (allB ins).length=d1 at *;generalize Lib.decDigits (ins.map List.length).sum=d2 at *;generalize (allB ins).length=n at *;generalize (ins.map List.length).sum=m at *;have hz1:¬ 9223372036854775807<d1.length+1:=by omega
   have hz2:¬ 9223372036854775807<d1.length+1+d2.length:=by omega
   have hz3:¬ 9223372036854775807<d1.length+1+d2.length+1:=by omega
   go_wp2_with fail
   refine (KN.out _).mono ?_
   rintro e w2 ⟨rfl,hb2⟩;have HB2:=Hd (HBi.out.trans (hb2.mono HBi.out.size));clear hb2;go_wp2_with fail
   refine (KM.out _).mono ?_
   rintro e w3 ⟨rfl,hb3⟩;have HB3:=Hd (HB2.out.trans (hb3.mono HB2.out.size));clear hb3;go_wp2
   go_ret
   exact⟨by rw[HC.out]; simp[zar],HB3.out⟩
theorem zy9 {a r:List UInt8} (ha:(61:UInt8)∉a) (hr:(61:UInt8)∉r):spl 61 (a++61::r)=[a,r]:=by
 rw[zml ha,zi2 hr]
set_option maxHeartbeats 2000000 in
theorem zwu (a r s:List UInt8) (v:Value) (w:World) (hr:Reads w v ([s].map str)) (ha:a≠[]) (hna:(61:UInt8)∉a) (hnr:(61:UInt8)∉r) (hlw:(a++61::r).length≤100) (hl:s.length≤10000) :
  Calls Tryz.prog 170 #[str [115,119,97,112],str (a++61::r),v] w fun e w'=>e=.returned (str (zcr a r s))∧Below w.heap.size w w':=by
 have hle:=hr.le;obtain⟨ad,cap,rfl,-,-⟩:=id hr;simp only[List.length_map,List.length_cons,List.length_nil] at *;obtain⟨b0,o0,hix0,hce0⟩:=hr.at (P:=Tryz.prog) Tryz.underlying33 (by kernel_rfl) 0 (by simp)
 have hce1:w.cell? ⟨b0,o0,none⟩=some (str s):=hce0;have hix1:∀ w',(Instr.indexAt 33 (.slice ad 1 cap) (.int .i64 0)).run Tryz.prog w'=.ok (.pointer (some ⟨b0,o0,none⟩)) w':=hix0;have KC:=ze9 (a++61::r) 61 w (by omega)
 rw[zy9 hna hnr] at KC;have K1:Hid (Calls Tryz.prog 133 #[str (a++61::r), .int .u8 61] w fun e w'=>∃ v',e=.returned v'∧w'.ownsRow w.heap.size 9 1 v' 2 [str a,str r]∧Below w.heap.size w w'):=Hd KC;have hal:1≤a.length:=List.length_pos_iff.2 ha;have hrl:a.length≤100∧r.length≤100:=by rw[List.length_append,List.length_cons] at hlw; omega
 have HSL:Hid ((zcr a r s).length≤10000*101):=Hd (Nat.le_trans (zve ha s.length s (Nat.le_refl _)) (Nat.mul_le_mul hl (by omega)))
 have HA:=Hd ha;have HCE:=Hd hce1;obtain⟨word,hword⟩:∃ word,a++61::r=word:=⟨_,rfl⟩;rw[hword] at K1 ⊢;clear hr hix0 hce0 KC hna hnr hlw hword ha;go_enter Tryz.func170,Tryz.ntmps170
 go_wp2_with fail
 refine K1.out.mono ?_
 rintro e w1 ⟨vl,rfl,hol,hb1⟩;have hrl2:=zac hol;obtain⟨al,cl,rfl,-,-⟩:=id hrl2;have hcs:=(hb1.cell (p:=⟨b0,o0,none⟩) (zad hce1)).trans hce1;have HB1:=Hd hb1;obtain⟨ba,oa,hixa,hca⟩:=hrl2.at (P:=Tryz.prog) Tryz.underlying33 (by kernel_rfl) 0 (by simp)
 obtain⟨br,or,hixr,hcr⟩:=hrl2.at (P:=Tryz.prog) Tryz.underlying33 (by kernel_rfl) 1 (by simp)
 have hca1:w1.cell? ⟨ba,oa,none⟩=some (str a):=hca;have hcr1:w1.cell? ⟨br,or,none⟩=some (str r):=hcr;have hixa1:∀ w',(Instr.indexAt 33 (.slice al 2 cl) (.int .i64 0)).run Tryz.prog w'=.ok (.pointer (some ⟨ba,oa,none⟩)) w':=hixa;have hixr1:∀ w',(Instr.indexAt 33 (.slice al 2 cl) (.int .i64 1)).run Tryz.prog w'=.ok (.pointer (some ⟨br,or,none⟩)) w':=hixr;have HCS:=Hd hcs;have HCA:=Hd hca1;have HCR:=Hd hcr1;clear hol hb1 hrl2 hca hcr hixa hixr hce1 hcs hca1 hcr1;simp only[List.length_cons,List.length_nil] at *;go_wp2_with fail
 go_loopw [7,23] (fun ov iv wl=>∃ (i:Nat) (out:List UInt8),i≤s.length∧iv=.int .i64 i∧ov=str out∧out++zcr a r (s.drop i)=zcr a r s∧Below w1.heap.size w1 wl) (fun _ iv _=>s.length - (intOf iv).toNat)
 case atStart=>exact⟨0,[],by omega,rfl,rfl,by simp,Below.refl _ _⟩
 case round =>
  obtain⟨i,out,hi,rfl,rfl,heq,hbi⟩:=hrel;have HEQ:=Hd heq;have HBi:=Hd hbi;have hcs:=(hbi.cell (p:=⟨b0,o0,none⟩) (zad HCS.out)).trans HCS.out;have hca:=(hbi.cell (p:=⟨ba,oa,none⟩) (zad HCA.out)).trans HCA.out;have hcr:=(hbi.cell (p:=⟨br,or,none⟩) (zad HCR.out)).trans HCR.out;have hol:out.length≤10000*101:=by
   have:=congrArg List.length heq;rw[List.length_append] at this;have h2:=HSL.out;omega
  clear heq hbi;by_cases hlt:i<s.length
  ·have hlc:((i:Int)<(s.length:Int))=True:=eq_true (by omega)
   have KH:∀ w2,Calls Tryz.prog 240 #[str s, .int .i64 (i:Int),str a] w2 fun e w'=>e=.returned (.bool (hasB s i a))∧w'=w2:=fun w2=>(zqf s a i w2 hi (by omega) (by omega)).mono fun _ _ ⟨h1,h2⟩=>⟨h1,h2.symm⟩
   cases hh:hasB s i a with
   | true =>
    rw[hh] at KH;have hroom:=zju hh hi;have HNX:Hid (out++r++zcr a r (s.drop (i+a.length))=zcr a r s):=Hd (by
     have h1:=HEQ.out;rw[zg9 HA.out hh,List.drop_drop] at h1;rw[List.append_assoc];exact h1)
    have KH1:=Hd KH;have hz1:¬ 9223372036854775807<out.length+r.length:=by omega
    have hw1:IntKind.i64.wrap ((i:Int)+(a.length:Int))=(i:Int)+(a.length:Int):=IntWalk.i64_in _ (by omega)
    clear KH hh;go_wp2_with fail
    go_quiet ((go_at_call 240; exact Calls.quiet_of_same (KH1.out _)))
    go_wp2
    go_roundw
    case rel=>exact⟨i+a.length,out++r,by omega,by go_num,by simp[zar],HNX.out,by first | exact HBi.out | exact zag HBi.out _⟩
    case measure=>simp[intOf]; omega
   | false =>
    rw[hh] at KH;have hex:(⟨s.toArray⟩:ByteArray).extract i (i+1)=⟨([s[i]]:List UInt8).toArray⟩:=by
     rw[za4,Nat.add_sub_cancel_left,List.drop_eq_getElem_cons hlt];rfl
    have HNX:Hid (out++[s[i]]++zcr a r (s.drop (i+1))=zcr a r s):=Hd (by
     have h1:=HEQ.out;have h2:a.isPrefixOf (s.drop i)=false:=hh;rw[List.drop_eq_getElem_cons hlt] at h1 h2;rw[zfw HA.out h2] at h1;rw[List.append_assoc];exact h1)
    have KH1:=Hd KH;have hz1:¬ 9223372036854775807<out.length+1:=by omega
    have hw1:IntKind.i64.wrap ((i:Int)+1)=(i:Int)+1:=IntWalk.i64_in _ (by omega)
    have hc2:((i:Int)+1≤(s.length:Int))=True:=eq_true (by omega)
    have hc3:(i+1≤s.length)=True:=eq_true (by omega)
    have hc4:((i:Int)≤(i:Int)+1)=True:=eq_true (by omega)
    have hc5:((i:Int)+1).toNat=i+1:=by omega
    generalize s[i]=x at *;clear KH hh;go_wp2_with fail
    go_quiet ((go_at_call 240; exact Calls.quiet_of_same (KH1.out _)))
    go_wp2
    go_roundw
    case rel=>exact⟨i+1,out++[x],by omega,by go_num,by simp[zar],HNX.out,by first | exact HBi.out | exact zag HBi.out _⟩
    case measure=>simp[intOf]; omega
  ·obtain rfl:i=s.length:=by omega
   have hlc:((s.length:Int)<(s.length:Int))=False:=eq_false (by omega)
   have HF:Hid (out=zcr a r s):=Hd (by
    have h1:=HEQ.out;rw[List.drop_length,zg8,List.append_nil] at h1;exact h1)
   go_wp2
   go_ret
   exact⟨by rw[HF.out]; rfl,HB1.out.trans (HBi.out.mono HB1.out.size)⟩
theorem lay_nil (s:List UInt8) (w:World) :
  Calls Tryz.prog 186 #[.slice none 0 0,str s] w fun e w'=>∃ v,e=.returned v∧w'.ownsRow w.heap.size 9 1 v 1 [str s]∧Below w.heap.size w w':=by
 obtain⟨i,hi,hz0,hz1,hz2⟩:=info_parts tyStrsK.info;go_enter Tryz.func186,Tryz.ntmps186
 go_wp2_with fail
 go_loopw [5] (fun kv wl=>kv=.int .i64 0∧wl=w) (fun _ _=>0)
 case atStart=>exact⟨rfl,rfl⟩
 case round =>
  obtain⟨rfl,rfl⟩:=hrel;go_wp2_with (first
   |(at_builtin; refine wpList_append_own_none rfl (.tmp 22) (.tmp 25) 33 rfl wr.heap.size 9 i 1 tyStrsK.und hi _ 0 [] rfl (World.ownsRow_nil _ _ _ _) rfl ?_)
   |(at_builtin
     refine zah _ rfl (.tmp 27) (.tmp 29) 33 rfl tyStrsK wr.heap.size _ 0 [] rfl (World.ownsRow_nil _ _ _ _) ⟨wr.heap.size,0,none⟩ 1 1 [str s] rfl rfl (zap ?_) ?_ (by decide) ?_ ?_ ?_
     ·simp[go_sem]
     ·intro u hu; simp at hu; subst hu; rfl
     ·omega
     ·simp
     intro v5 w5 ho5 hg5 hloc5;have HB5:Hid (Below wr.heap.size wr w5):=Hd (((Below.refl _ wr).alloc (Nat.le_refl _) _).grown hg5 (by simp) (fun k hk=>by cases hk))
     have HO5:=Hd ho5;clear ho5 hg5 hloc5)
   |(at_builtin; refine wpList_append_own_none rfl (.tmp 31) (.tmp 34) 33 rfl wr.heap.size 9 i 1 tyStrsK.und hi v5 1 [str s] rfl HO5.out rfl ?_))
  go_ret
  exact⟨_,rfl,HO5.out,HB5.out⟩
set_option maxHeartbeats 2000000 in
theorem zza (s:List UInt8) (l:List (List UInt8)) (g c:Nat) (w:World) (hr:Reads w (.slice (some ⟨g,0,none⟩) l.length c) (l.map str)) (hcap:l.length≤c) (hn:l.length≤1000000) (hg:g<w.heap.size) :
  Calls Tryz.prog 186 #[.slice (some ⟨g,0,none⟩) l.length c,str s] w fun e w'=>∃ v,e=.returned v∧w'.ownsRow w.heap.size 9 1 v (layB l s).length ((layB l s).map str)∧Below w.heap.size w w':=by
 have HR:=Hd hr;have hcell:∀ (w2:World),Below w.heap.size w w2→∀ j x,l[j]? = some x→w2.cell? ⟨g,j,none⟩=some (str x):=fun w2 hb j x hj=>by
  obtain⟨a',c',e,-,hc⟩:=hr;rw[List.length_map] at e;cases e
  obtain⟨b,o,e,hcj⟩:=hc j (str x) (by rw[List.getElem?_map,hj]; rfl)
  cases e
  rw[Nat.zero_add] at hcj;exact (hb.cell (p:=⟨g,j,none⟩) hg).trans hcj
 have HC:=Hd hcell;clear hr hcell;go_enter Tryz.func186,Tryz.ntmps186
 go_wp2_with fail
 go_loopw [5] (fun kv wl=>∃ k:Nat,k≤l.length∧kv=.int .i64 k∧(∀ j (h:j<l.length),k≤j→s<l[j])∧wl=w) (fun kv _=>(intOf kv).toNat)
 case atStart=>exact⟨l.length,Nat.le_refl _,rfl,fun j h hj=>by omega,rfl⟩
 case round =>
  obtain⟨k,hk,rfl,hgt,rfl⟩:=hrel;have HGT:=Hd hgt;clear hgt;have fin:(∀ h:k - 1<l.length,0<k→¬ s<l[k - 1])→Hid (layB l s=l.take k++s::l.drop k):=fun h=>Hd (zwd hk HGT.out h);have FIN:=Hd fin;clear fin;by_cases hk0:k=0
  ·subst hk0;have HF:=FIN.out (fun _ h=>by omega)
   clear FIN;go_wp2_with (first
    |(at_builtin
      refine zah _ rfl (.tmp 22) (.tmp 25) 33 rfl tyStrsK wr.heap.size _ 0 [] rfl (World.ownsRow_nil _ _ _ _) ⟨g,0,none⟩ 0 c [] rfl rfl (fun j u h=>by simp at h) (fun u h=>by simp at h) (by decide) (by omega) (Nat.le_refl _) ?_
      intro v4 w4 ho4 hg4 hloc4;have HB4:Hid (Below wr.heap.size wr w4):=Hd ((Below.refl _ wr).grown hg4 (Nat.le_refl _) (fun k hk=>by cases hk))
      have HO4:=Hd ho4;clear ho4 hg4 hloc4;have hz4:=HB4.out.size)
    |(at_builtin
      refine zah _ rfl (.tmp 27) (.tmp 29) 33 rfl tyStrsK wr.heap.size v4 _ _ rfl (HO4.out.alloc _) ⟨w4.heap.size,0,none⟩ 1 1 [str s] rfl rfl (zap ?_) ?_ (by decide) ?_ ?_ ?_
      ·simp[go_sem]
      ·intro u hu; simp at hu; subst hu; rfl
      ·omega
      ·simp; omega
      intro v5 w5 ho5 hg5 hloc5;have HB5:Hid (Below wr.heap.size wr w5):=Hd ((HB4.out.alloc hz4 _).grown hg5 (by simp; omega) (fun k hk=>(HO4.out.lt k hk).1))
      have HO5:=Hd ho5;clear ho5 hg5 hloc5;have hz5:=HB5.out.size)
    |(at_builtin
      refine zah _ rfl (.tmp 31) (.tmp 34) 33 rfl tyStrsK wr.heap.size v5 _ _ rfl HO5.out ⟨g,0,none⟩ l.length c (l.map str) rfl (List.length_map _) (fun j u hj=>?_) (fun u hu=>?_) (by decide) ?_ hz5 ?_
      ·rw[zb0 rfl,Nat.zero_add];rw[List.getElem?_map] at hj;obtain⟨x,hx,rfl⟩:=Option.map_eq_some_iff.1 hj;exact HC.out _ HB5.out j x hx
      ·obtain⟨x,-,rfl⟩:=List.mem_map.1 hu;rfl
      ·omega
      intro v6 w6 ho6 hg6 hloc6;have HB6:Hid (Below wr.heap.size wr w6):=Hd (HB5.out.grown hg6 hz5 (fun k hk=>(HO5.out.lt k hk).1));have HO6:=Hd ho6;clear ho6 hg6 hloc6))
   go_ret
   refine⟨_,rfl,?_,HB6.out⟩
   have h6:=HO6.out;rw[HF.out];simpa[Nat.add_comm,Nat.add_left_comm] using h6
  ·obtain⟨q,rfl⟩:∃ q,k=q+1:=⟨k - 1,by omega⟩
   have hcq:=HC.out wr (Below.refl _ _) q _ (List.getElem?_eq_getElem (by omega))
   have hixq:=zbm (P:=Tryz.prog) (T:=33) (E:=9) Tryz.underlying33 (by kernel_rfl) g l.length c q (by omega)
   have hsub:(q:Int)+1 - 1=(q:Int):=by omega
   have hw1:IntKind.i64.wrap ((q:Int)+1 - 1)=(q:Int):=by rw[hsub]; exact IntWalk.i64_in _ (by omega)
   have hw2:IntKind.i64.wrap (q:Int)=(q:Int):=IntWalk.i64_in _ (by omega)
   have hkp:((0:Int)<(q:Int)+1)=True:=eq_true (by omega)
   by_cases hlt:s<l[q]'(by omega)
   ·have HN:Hid (∀ j (h:j<l.length),q≤j→s<l[j]):=Hd (fun j h hj=>by
     by_cases hjq:j=q
     ·subst hjq; exact hlt
     ·exact HGT.out j h (by omega))
    have hb:Op.bytesLess (l[q]'(by omega)) s=false:=by rw[bytesLess_eq]; exact decide_eq_false (fun h=>List.lt_irrefl _ (List.lt_trans h hlt))
    have hb2:((l[q]'(by omega))==s)=false:=by
     rw[beq_eq_false_iff_ne];intro e;rw[e] at hlt;exact List.lt_irrefl _ hlt
    clear FIN hlt;generalize l[q]'(by omega)=x at *
    go_wp2
    go_roundw
    case rel=>exact⟨q,by omega,rfl,HN.out,by first | rfl | trivial⟩
    case measure=>simp[intOf]
   ·have HF:=FIN.out (fun _ _=>by simpa using hlt)
    have hor:Op.bytesLess (l[q]'(by omega)) s=true∨(Op.bytesLess (l[q]'(by omega)) s=false∧((l[q]'(by omega))==s)=true):=by
     rcases List.le_iff_lt_or_eq.1 (List.not_lt.1 hlt) with h | h
     ·left
      rw[bytesLess_eq];exact decide_eq_true h
     ·right
      rw[h];refine⟨?_,by simp⟩
      rw[bytesLess_eq];exact decide_eq_false (List.lt_irrefl _)
    have hkl:(q+1≤l.length)=True:=eq_true hk;have hkl2:((q:Int)+1≤(l.length:Int))=True:=eq_true (by omega)
    have hkc2:((q:Int)+1≤(c:Int))=True:=eq_true (by omega)
    have hkc:(q+1≤c)=True:=eq_true (by omega)
    have htn:((q:Int)+1).toNat=q+1:=by omega
    clear FIN hlt;generalize l[q]'(by omega)=x at *
    have hcc:(c=q+1∧Hid (l.length=q+1))∨((c=q+1)=False∧(q+1=c)=False):=by
     by_cases h:c=q+1
     ·exact Or.inl ⟨h,Hd (by omega)⟩
     ·exact Or.inr ⟨eq_false h,eq_false (fun e=>h e.symm)⟩
    rcases hor with hb |⟨hb,hb2⟩
    all_goals rcases hcc with ⟨rfl,hll⟩ |⟨hc8,hc9⟩
    all_goals
     go_wp2_with (first
      |(at_builtin
        refine zah _ rfl (.tmp 22) (.tmp 25) 33 rfl tyStrsK wr.heap.size _ 0 [] rfl (World.ownsRow_nil _ _ _ _) ⟨g,0,none⟩ (q+1) _ ((l.take (q+1)).map str) rfl (by rw[List.length_map,List.length_take]; omega) (fun j u hj=>?_) (fun u hu=>?_) (by decide) (by omega) (Nat.le_refl _) ?_
        ·rw[zb0 rfl,Nat.zero_add];rw[List.getElem?_map] at hj;obtain⟨x,hx,rfl⟩:=Option.map_eq_some_iff.1 hj;rw[List.getElem?_take] at hx
         split at hx
         ·exact HC.out _ (Below.refl _ _) j x hx
         ·cases hx
        ·obtain⟨x,-,rfl⟩:=List.mem_map.1 hu;rfl
        intro v4 w4 ho4 hg4 hloc4;have HB4:Hid (Below wr.heap.size wr w4):=Hd ((Below.refl _ wr).grown hg4 (Nat.le_refl _) (fun k hk=>by cases hk))
        have HO4:=Hd ho4;clear ho4 hg4 hloc4;have hz4:=HB4.out.size)
      |(at_builtin
        refine zah _ rfl (.tmp 27) (.tmp 29) 33 rfl tyStrsK wr.heap.size v4 _ _ rfl (HO4.out.alloc _) ⟨w4.heap.size,0,none⟩ 1 1 [str s] rfl rfl (zap ?_) ?_ (by decide) ?_ ?_ ?_
        ·simp[go_sem]
        ·intro u hu; simp at hu; subst hu; rfl
        ·omega
        ·simp; omega
        intro v5 w5 ho5 hg5 hloc5;have HB5:Hid (Below wr.heap.size wr w5):=Hd ((HB4.out.alloc hz4 _).grown hg5 (by simp; omega) (fun k hk=>(HO4.out.lt k hk).1))
        have HO5:=Hd ho5;clear ho5 hg5 hloc5;have hz5:=HB5.out.size)
      |(at_builtin
        refine zah _ rfl (.tmp 31) (.tmp 34) 33 rfl tyStrsK wr.heap.size v5 _ _ rfl HO5.out ⟨g,0,none⟩ 0 0 [] rfl rfl (fun j u h=>by simp at h) (fun u h=>by simp at h) (by decide) ?_ hz5 ?_
        ·omega
        intro v6 w6 ho6 hg6 hloc6;have HB6:Hid (Below wr.heap.size wr w6):=Hd (HB5.out.grown hg6 hz5 (fun k hk=>(HO5.out.lt k hk).1));have HO6:Hid (w6.ownsRow wr.heap.size 9 1 v6 (0+(q+1)+1+(l.length - (q+1))) (([]++(l.take (q+1)).map str++[str s])++(l.drop (q+1)).map str)):=Hd (by
         have h:=hll.out;rw[show l.length - (q+1)=0 by omega,List.drop_of_length_le (by omega)]
         exact ho6)
        clear ho6 hg6 hloc6)
      |(at_builtin
        refine zah _ rfl (.tmp 31) (.tmp 34) 33 rfl tyStrsK wr.heap.size v5 _ _ rfl HO5.out ⟨g,_,none⟩ (l.length - (q+1)) _ ((l.drop (q+1)).map str) rfl (by rw[List.length_map,List.length_drop]) (fun j u hj=>?_) (fun u hu=>?_) (by decide) ?_ hz5 ?_
        ·rw[zb0 rfl];rw[List.getElem?_map] at hj;obtain⟨x,hx,rfl⟩:=Option.map_eq_some_iff.1 hj;rw[List.getElem?_drop] at hx;exact HC.out _ HB5.out (q+1+j) x hx
        ·obtain⟨x,-,rfl⟩:=List.mem_map.1 hu;rfl
        ·omega
        intro v6 w6 ho6 hg6 hloc6;have HB6:Hid (Below wr.heap.size wr w6):=Hd (HB5.out.grown hg6 hz5 (fun k hk=>(HO5.out.lt k hk).1));have HO6:=Hd ho6;clear ho6 hg6 hloc6))
     go_ret
     refine⟨_,rfl,?_,HB6.out⟩
     have h6:=HO6.out;rw[HF.out];have hlen:(l.take (q+1)++s::l.drop (q+1)).length=0+(q+1)+1+(l.length - (q+1)):=by
      rw[List.length_append,List.length_cons,List.length_take,List.length_drop];omega
     have hlist:(l.take (q+1)++s::l.drop (q+1)).map str=[]++(l.take (q+1)).map str++[str s]++(l.drop (q+1)).map str:=by simp
     rw[hlen,hlist];exact h6
theorem zwv (s:List UInt8) (l:List (List UInt8)) (v:Value) (B:Nat) (w:World) (ho:w.ownsRow B 9 1 v l.length (l.map str)) (hB:B≤w.heap.size) (hn:l.length≤1000000) :
  Calls Tryz.prog 186 #[v,str s] w fun e w'=>∃ v',e=.returned v'∧w'.ownsRow B 9 1 v' (layB l s).length ((layB l s).map str)∧Below w.heap.size w w':=by
 have hr:=zac ho;rcases ho.2 with ⟨rfl,h0⟩ |⟨g,cap,cur,rfl,hg,hh,hcn,hcap,hsz,htake⟩
 ·obtain rfl:=List.length_eq_zero_iff.1 h0;refine (lay_nil s w).mono ?_
  rintro e w' ⟨v',rfl,ho',hb⟩;exact⟨v',rfl,zaj ho' hB,hb⟩
 ·refine (zza s l g cap w hr hcn hn (zab hh)).mono ?_
  rintro e w' ⟨v',rfl,ho',hb⟩;exact⟨v',rfl,zaj ho' hB,hb⟩
theorem zkf {R L:List (List UInt8)} (hs:R.Pairwise (·≤·)) (hp:R.Perm L):R=zb9 L:=by
 rw[← zyd hp];exact (List.mergeSort_of_pairwise (hs.imp fun h=>decide_eq_true h)).symm
set_option maxHeartbeats 4000000 in
theorem zqn (v:Value) (ins:List (List UInt8)) (w:World) (hr:Reads w v (ins.map str)) (h8:ins.length≤8) (hx:∀ s∈ins,s.length≤10000) :
  Calls Tryz.prog 170 #[str [115,111,114,116],str [],v] w fun e w'=>e=.returned (str (zai (zek [] (allB ins))))∧Below w.heap.size w w':=by
 have hle:=hr.le;obtain⟨a,cap,rfl,-,-⟩:=id hr;simp only[List.length_map] at *;have HR:=Hd hr;have HX:=Hd hx;have HA:Hid (∀ k,(allB (ins.take k)).length≤10001*8):=Hd (fun k=>by
  have h1:=zfu (ins:=ins.take k) (fun s hs=>hx s (List.mem_of_mem_take hs));have h2:(ins.take k).length≤8:=by rw[List.length_take]; omega
  omega)
 have HE:Hid ((zai (allB ins)).length≤10001*8):=Hd (by
  have h3:=zg6 ins;have h4:∀ {l:List (List UInt8)},(∀ s∈l,s.length≤10000)→(l.map fun s=>s.length+1).sum≤10001*l.length:=by
   intro l
   induction l with
   | nil=>intro _; simp
   | cons s l ih =>
    intro hq;have a1:=hq s List.mem_cons_self;have a2:=ih (fun q hq'=>hq q (List.mem_cons_of_mem _ hq'));simp only[List.map_cons,List.sum_cons,List.length_cons];omega
  have h5:=h4 hx;omega)
 clear hr hx;go_enter Tryz.func170,Tryz.ntmps170
 go_wp2_with fail
 go_loopw [14,15] (fun lv iv wl=>∃ (i:Nat) (R:List (List UInt8)),i≤ins.length∧iv=.int .i64 i∧wl.ownsRow w.heap.size 9 1 lv R.length (R.map str)∧R.Pairwise (·≤·)∧R.Perm (allB (ins.take i))∧Below w.heap.size w wl) (fun _ iv _=>ins.length - (intOf iv).toNat)
 case atStart=>exact⟨0,[],by omega,rfl,World.ownsRow_nil _ _ _ _,List.Pairwise.nil,List.Perm.nil,Below.refl _ _⟩
 case round =>
  obtain⟨i,R,hi,rfl,hown,hsort,hperm,hbi⟩:=hrel;obtain⟨W0,hW0⟩:∃ W,W=wr:=⟨_,rfl⟩;rw[← hW0] at hown hbi;have HO:=Hd hown;have HS:=Hd hsort;have HP:=Hd hperm;have HBi:=Hd hbi;have hz0:=hbi.size;clear hown hsort hperm hbi;by_cases hlt:i<ins.length
  ·obtain⟨b,o,hix,hce⟩:=(HR.out.below0 HBi.out).at (P:=Tryz.prog) Tryz.underlying33 (by kernel_rfl) i (by simpa using hlt)
   simp only[List.getElem_map] at hce;have hlc:((i:Int)<(ins.length:Int))=True:=eq_true (by omega)
   have HN1:Hid (allB (ins.take (i+1))=allB (ins.take i)++za8 ins[i]):=Hd (by rw[List.take_succ_eq_append_getElem hlt,zg4])
   have hsl:=HX.out ins[i] (List.getElem_mem _);have hll:=zcn ins[i];have hai:=HA.out i;have KL:=Hd (zdo ins[i] W0 (by omega))
   rw[hW0] at hce;generalize ins[i]=s at *;generalize za8 s=L at *;go_wp2_with fail
   rw[← hW0];refine KL.out.mono ?_
   rintro e w2 ⟨vl,rfl,hol,hb2⟩;have HRL:=Hd (zac hol);obtain⟨al,cl,rfl,-,-⟩:=id HRL.out;have HO2:=Hd (zaf (S:=fun _=>False) HO.out (Fr.of_below hb2) (fun k hk=>⟨(HO.out.lt k hk).2,id⟩));have HB2:=Hd (HBi.out.trans (hb2.mono hz0));have hz2:=HB2.out.size;clear hol hb2 hce KL;simp only[List.length_map] at *;go_wp2_with fail
   go_loopw [14,17] (fun lv kv wl=>∃ (k:Nat) (R2:List (List UInt8)),k≤L.length∧kv=.int .i64 k∧wl.ownsRow w.heap.size 9 1 lv R2.length (R2.map str)∧R2.Pairwise (·≤·)∧R2.Perm (allB (ins.take i)++L.take k)∧Below w2.heap.size w2 wl) (fun _ kv _=>L.length - (intOf kv).toNat)
   case atStart=>exact⟨0,R,by omega,rfl,HO2.out,HS.out,by simpa using HP.out,Below.refl _ _⟩
   case round =>
    obtain⟨k,R2,hk,rfl,hown,hsort,hperm,hbk⟩:=hrel;have hR2:R2.length≤1000000:=by
     have:=hperm.length_eq;rw[List.length_append,List.length_take] at this;omega
    have HOk:=Hd hown;have HSk:=Hd hsort;have HPk:=Hd hperm;have HBk:=Hd hbk;have hzk:=hbk.size;clear hown hsort hperm hbk;by_cases hlk:k<L.length
    ·obtain⟨b3,o3,hix3,hce3⟩:=(HRL.out.below0 HBk.out).at (P:=Tryz.prog) Tryz.underlying33 (by kernel_rfl) k (by simpa using hlk)
     simp only[List.getElem_map] at hce3;have hlkc:((k:Int)<(L.length:Int))=True:=eq_true (by omega)
     have HPN:Hid (∀ R3:List (List UInt8),R3.Perm (L[k]::R2)→R3.Perm (allB (ins.take i)++L.take (k+1))):=Hd (fun R3 h=>by
      rw[List.take_succ_eq_append_getElem hlk,← List.append_assoc];exact (h.trans (List.Perm.cons _ HPk.out)).trans (List.perm_append_singleton _ _).symm)
     have KY:=Hd (zwv L[k] R2 _ w.heap.size wr HOk.out (by omega) hR2)
     generalize L[k]=x at *;go_wp2_with fail
     refine KY.out.mono ?_
     rintro e w3 ⟨v3,rfl,ho3,hb3⟩;have HO3:=Hd ho3;have HB3:=Hd (HBk.out.trans (hb3.mono hzk));clear ho3 hb3;go_wp2
     go_roundw
     case rel=>exact⟨k+1,layB R2 x,by omega,by go_num,HO3.out,zer x HSk.out,HPN.out _ (zhc R2 x),HB3.out⟩
     case measure=>simp[intOf]; omega
    ·obtain rfl:k=L.length:=by omega
     have hlkc:((L.length:Int)<(L.length:Int))=False:=eq_false (by omega)
     have HPF:Hid (R2.Perm (allB (ins.take (i+1)))):=Hd (by
      have:=HPk.out;rw[List.take_length] at this;rw[HN1.out];exact this)
     go_wp2
     go_roundw
     case rel=>exact⟨i+1,R2,by omega,by go_num,HOk.out,HSk.out,HPF.out,HB2.out.trans (HBk.out.mono hz2)⟩
     case measure=>simp[intOf]; omega
  ·obtain rfl:i=ins.length:=by omega
   have hlc:((ins.length:Int)<(ins.length:Int))=False:=eq_false (by omega)
   have HIS:Hid (R=zb9 (allB ins)):=Hd (by
    have:=HP.out;rw[List.take_length] at this;exact zkf HS.out this)
   have HEL:Hid (∀ x∈R,x.length≤10001*8):=Hd (fun x hx=>by
    have h1:=zdf hx;rw[HIS.out,zdm (zbw _)] at h1;have h2:=HE.out;omega)
   have HRE:Hid ((zai R).length≤10001*8):=Hd (by rw[HIS.out,zdm (zbw _)]; exact HE.out)
   have HRR:=Hd (zac HO.out);obtain⟨ar,cr,rfl,-,-⟩:=id HRR.out;have hRl:=zdx R;have hRE:=HRE.out;simp only[List.length_map] at *;rw[← hW0];go_wp2_with fail
   go_loopw [7,18] (fun ov iv wl=>∃ j:Nat,j≤R.length∧iv=.int .i64 j∧ov=str (zai (R.take j))∧Below W0.heap.size W0 wl) (fun _ iv _=>R.length - (intOf iv).toNat)
   case atStart=>exact⟨0,by omega,rfl,by simp[zai],(by rw[hW0]; exact Below.refl _ _)⟩
   case round =>
    obtain⟨j,hj,rfl,rfl,hbj⟩:=hrel;have HBj:=Hd hbj;clear hbj;by_cases hlj:j<R.length
    ·obtain⟨b3,o3,hix3,hce3⟩:=(HRR.out.below0 HBj.out).at (P:=Tryz.prog) Tryz.underlying33 (by kernel_rfl) j (by simpa using hlj)
     simp only[List.getElem_map] at hce3;have hljc:((j:Int)<(R.length:Int))=True:=eq_true (by omega)
     have HN:Hid (zai (R.take (j+1))=zai (R.take j)++(R[j]++[10])):=Hd (by rw[List.take_succ_eq_append_getElem hlj,zb4])
     have hs:=HEL.out R[j] (List.getElem_mem _);have hol:=zci R j;generalize R[j]=x at *;generalize zai (R.take j)=out at *;have hz1:¬ 9223372036854775807<out.length+x.length:=by omega
     have hz2:¬ 9223372036854775807<out.length+x.length+1:=by omega
     go_wp2_with fail
     go_quiet (fail)
     go_wp2
     go_roundw
     case rel=>exact⟨j+1,by omega,by go_num,by rw[HN.out]; simp[zar],by first | exact HBj.out | exact zag HBj.out _⟩
     case measure=>simp[intOf]; omega
    ·obtain rfl:j=R.length:=by omega
     have hljc:((R.length:Int)<(R.length:Int))=False:=eq_false (by omega)
     have HF:Hid (zai (zek [] (allB ins))=zai (R.take R.length)):=Hd (by
      have e0:zek [] (allB ins)=zb9 (allB ins):=if_neg (by decide)
      rw[e0,List.take_length,HIS.out])
     go_wp2
     go_ret
     exact⟨by rw[HF.out]; rfl,HBi.out.trans (HBj.out.mono hz0)⟩
set_option maxHeartbeats 4000000 in
theorem ztr (v:Value) (ins:List (List UInt8)) (w:World) (hr:Reads w v (ins.map str)) (h8:ins.length≤8) (hx:∀ s∈ins,s.length≤10000) :
  Calls Tryz.prog 170 #[str [115,111,114,116],str zkz,v] w fun e w'=>e=.returned (str (zai (zek zkz (allB ins))))∧Below w.heap.size w w':=by
 have hle:=hr.le;obtain⟨a,cap,rfl,-,-⟩:=id hr;simp only[List.length_map] at *;have HR:=Hd hr;have HX:=Hd hx;have HA:Hid (∀ k,(allB (ins.take k)).length≤10001*8):=Hd (fun k=>by
  have h1:=zfu (ins:=ins.take k) (fun s hs=>hx s (List.mem_of_mem_take hs));have h2:(ins.take k).length≤8:=by rw[List.length_take]; omega
  omega)
 have HE:Hid ((zai (allB ins)).length≤10001*8):=Hd (by
  have h3:=zg6 ins;have h4:∀ {l:List (List UInt8)},(∀ s∈l,s.length≤10000)→(l.map fun s=>s.length+1).sum≤10001*l.length:=by
   intro l
   induction l with
   | nil=>intro _; simp
   | cons s l ih =>
    intro hq;have a1:=hq s List.mem_cons_self;have a2:=ih (fun q hq'=>hq q (List.mem_cons_of_mem _ hq'));simp only[List.map_cons,List.sum_cons,List.length_cons];omega
  have h5:=h4 hx;omega)
 clear hr hx;go_enter Tryz.func170,Tryz.ntmps170
 go_wp2_with fail
 go_loopw [14,15] (fun lv iv wl=>∃ (i:Nat) (R:List (List UInt8)),i≤ins.length∧iv=.int .i64 i∧wl.ownsRow w.heap.size 9 1 lv R.length (R.map str)∧R.Pairwise (·≤·)∧R.Perm (allB (ins.take i))∧Below w.heap.size w wl) (fun _ iv _=>ins.length - (intOf iv).toNat)
 case atStart=>exact⟨0,[],by omega,rfl,World.ownsRow_nil _ _ _ _,List.Pairwise.nil,List.Perm.nil,Below.refl _ _⟩
 case round =>
  obtain⟨i,R,hi,rfl,hown,hsort,hperm,hbi⟩:=hrel;obtain⟨W0,hW0⟩:∃ W,W=wr:=⟨_,rfl⟩;rw[← hW0] at hown hbi;have HO:=Hd hown;have HS:=Hd hsort;have HP:=Hd hperm;have HBi:=Hd hbi;have hz0:=hbi.size;clear hown hsort hperm hbi;by_cases hlt:i<ins.length
  ·obtain⟨b,o,hix,hce⟩:=(HR.out.below0 HBi.out).at (P:=Tryz.prog) Tryz.underlying33 (by kernel_rfl) i (by simpa using hlt)
   simp only[List.getElem_map] at hce;have hlc:((i:Int)<(ins.length:Int))=True:=eq_true (by omega)
   have HN1:Hid (allB (ins.take (i+1))=allB (ins.take i)++za8 ins[i]):=Hd (by rw[List.take_succ_eq_append_getElem hlt,zg4])
   have hsl:=HX.out ins[i] (List.getElem_mem _);have hll:=zcn ins[i];have hai:=HA.out i;have KL:=Hd (zdo ins[i] W0 (by omega))
   rw[hW0] at hce;generalize ins[i]=s at *;generalize za8 s=L at *;go_wp2_with fail
   rw[← hW0];refine KL.out.mono ?_
   rintro e w2 ⟨vl,rfl,hol,hb2⟩;have HRL:=Hd (zac hol);obtain⟨al,cl,rfl,-,-⟩:=id HRL.out;have HO2:=Hd (zaf (S:=fun _=>False) HO.out (Fr.of_below hb2) (fun k hk=>⟨(HO.out.lt k hk).2,id⟩));have HB2:=Hd (HBi.out.trans (hb2.mono hz0));have hz2:=HB2.out.size;clear hol hb2 hce KL;simp only[List.length_map] at *;go_wp2_with fail
   go_loopw [14,17] (fun lv kv wl=>∃ (k:Nat) (R2:List (List UInt8)),k≤L.length∧kv=.int .i64 k∧wl.ownsRow w.heap.size 9 1 lv R2.length (R2.map str)∧R2.Pairwise (·≤·)∧R2.Perm (allB (ins.take i)++L.take k)∧Below w2.heap.size w2 wl) (fun _ kv _=>L.length - (intOf kv).toNat)
   case atStart=>exact⟨0,R,by omega,rfl,HO2.out,HS.out,by simpa using HP.out,Below.refl _ _⟩
   case round =>
    obtain⟨k,R2,hk,rfl,hown,hsort,hperm,hbk⟩:=hrel;have hR2:R2.length≤1000000:=by
     have:=hperm.length_eq;rw[List.length_append,List.length_take] at this;omega
    have HOk:=Hd hown;have HSk:=Hd hsort;have HPk:=Hd hperm;have HBk:=Hd hbk;have hzk:=hbk.size;clear hown hsort hperm hbk;by_cases hlk:k<L.length
    ·obtain⟨b3,o3,hix3,hce3⟩:=(HRL.out.below0 HBk.out).at (P:=Tryz.prog) Tryz.underlying33 (by kernel_rfl) k (by simpa using hlk)
     simp only[List.getElem_map] at hce3;have hlkc:((k:Int)<(L.length:Int))=True:=eq_true (by omega)
     have HPN:Hid (∀ R3:List (List UInt8),R3.Perm (L[k]::R2)→R3.Perm (allB (ins.take i)++L.take (k+1))):=Hd (fun R3 h=>by
      rw[List.take_succ_eq_append_getElem hlk,← List.append_assoc];exact (h.trans (List.Perm.cons _ HPk.out)).trans (List.perm_append_singleton _ _).symm)
     have KY:=Hd (zwv L[k] R2 _ w.heap.size wr HOk.out (by omega) hR2)
     generalize L[k]=x at *;go_wp2_with fail
     refine KY.out.mono ?_
     rintro e w3 ⟨v3,rfl,ho3,hb3⟩;have HO3:=Hd ho3;have HB3:=Hd (HBk.out.trans (hb3.mono hzk));clear ho3 hb3;go_wp2
     go_roundw
     case rel=>exact⟨k+1,layB R2 x,by omega,by go_num,HO3.out,zer x HSk.out,HPN.out _ (zhc R2 x),HB3.out⟩
     case measure=>simp[intOf]; omega
    ·obtain rfl:k=L.length:=by omega
     have hlkc:((L.length:Int)<(L.length:Int))=False:=eq_false (by omega)
     have HPF:Hid (R2.Perm (allB (ins.take (i+1)))):=Hd (by
      have:=HPk.out;rw[List.take_length] at this;rw[HN1.out];exact this)
     go_wp2
     go_roundw
     case rel=>exact⟨i+1,R2,by omega,by go_num,HOk.out,HSk.out,HPF.out,HB2.out.trans (HBk.out.mono hz2)⟩
     case measure=>simp[intOf]; omega
  ·obtain rfl:i=ins.length:=by omega
   have hlc:((ins.length:Int)<(ins.length:Int))=False:=eq_false (by omega)
   have HIS:Hid (R=zb9 (allB ins)):=Hd (by
    have:=HP.out;rw[List.take_length] at this;exact zkf HS.out this)
   have HEL:Hid (∀ x∈R,x.length≤10001*8):=Hd (fun x hx=>by
    have h1:=zdf hx;rw[HIS.out,zdm (zbw _)] at h1;have h2:=HE.out;omega)
   have HRE:Hid ((zai R).length≤10001*8):=Hd (by rw[HIS.out,zdm (zbw _)]; exact HE.out)
   have HRR:=Hd (zac HO.out);obtain⟨ar,cr,rfl,-,-⟩:=id HRR.out;have hRl:=zdx R;have hRE:=HRE.out;simp only[List.length_map] at *;rw[← hW0];go_wp2_with fail
   go_loopw [7,18] (fun ov iv wl=>∃ j:Nat,j≤R.length∧iv=.int .i64 j∧ov=str (zai (Lib.compactUpTo R.toArray j))∧Below W0.heap.size W0 wl) (fun _ iv _=>R.length - (intOf iv).toNat)
   case atStart=>exact⟨0,by omega,rfl,by simp[Lib.compactUpTo,zai],(by rw[hW0]; exact Below.refl _ _)⟩
   case round =>
    obtain⟨j,hj,rfl,rfl,hbj⟩:=hrel;have HBj:=Hd hbj;clear hbj;by_cases hlj:j<R.length
    ·obtain⟨b3,o3,hix3,hce3⟩:=(HRR.out.below0 HBj.out).at (P:=Tryz.prog) Tryz.underlying33 (by kernel_rfl) j (by simpa using hlj)
     simp only[List.getElem_map] at hce3;have hljc:((j:Int)<(R.length:Int))=True:=eq_true (by omega)
     have hs:=HEL.out R[j] (List.getElem_mem _);have hol:(zai (Lib.compactUpTo R.toArray j)).length≤10001*8:=Nat.le_trans (zfe R j (by omega)) (Nat.le_trans (zci R j) hRE)
     by_cases hj0:j=0
     ·have hz0c:((j:Int)==0)=true:=by rw[hj0]; rfl
      have HN:Hid (zai (Lib.compactUpTo R.toArray (j+1))=zai (Lib.compactUpTo R.toArray j)++(R[j]++[10])):=Hd (by rw[znw hlj (Or.inl hj0),zb4])
      clear hj0;generalize R[j]=x at *;generalize zai (Lib.compactUpTo R.toArray j)=out at *;have hz1:¬ 9223372036854775807<out.length+x.length:=by omega
      have hz2:¬ 9223372036854775807<out.length+x.length+1:=by omega
      go_wp2_with fail
      go_quiet (fail)
      go_wp2
      go_roundw
      case rel=>exact⟨j+1,by omega,by go_num,by rw[HN.out]; simp[zar],by first | exact HBj.out | exact zag HBj.out _⟩
      case measure=>simp[intOf]; omega
     ·obtain⟨q,rfl⟩:∃ q,j=q+1:=⟨j - 1,by omega⟩
      have hz0c:((q:Int)+1==0)=false:=by rw[beq_eq_false_iff_ne]; omega
      obtain⟨b4,o4,hix4,hce4⟩:=(HRR.out.below0 HBj.out).at (P:=Tryz.prog) Tryz.underlying33 (by kernel_rfl) q (by simp; omega)
      simp only[List.getElem_map] at hce4;have hix31:∀ w',(Instr.indexAt 33 (.slice ar R.length cr) (.int .i64 ((q:Int)+1))).run Tryz.prog w'=.ok (.pointer (some ⟨b3,o3,none⟩)) w':=hix3;have hsub:(q:Int)+1 - 1=(q:Int):=by omega
      have hw1:IntKind.i64.wrap ((q:Int)+1 - 1)=(q:Int):=by rw[hsub]; exact IntWalk.i64_in _ (by omega)
      have hw2:IntKind.i64.wrap (q:Int)=(q:Int):=IntWalk.i64_in _ (by omega)
      by_cases heq:R[q+1]=R[q]
      ·have hd:(R[q+1]==R[q])=true:=by simpa using heq
       have HN:Hid (zai (Lib.compactUpTo R.toArray (q+1+1))=zai (Lib.compactUpTo R.toArray (q+1))):=Hd (by rw[zva hlj heq])
       clear heq hj0;generalize R[q+1]=x at *;generalize R[q]=y at *;generalize zai (Lib.compactUpTo R.toArray (q+1))=out at *;go_wp2_with fail
       go_quiet (fail)
       go_wp2
       go_roundw
       case rel=>exact⟨q+1+1,by omega,by go_num,by rw[HN.out],by first | exact HBj.out | exact zag HBj.out _⟩
       case measure=>simp[intOf]; omega
      ·have hd:(R[q+1]==R[q])=false:=by simpa using heq
       have HN:Hid (zai (Lib.compactUpTo R.toArray (q+1+1))=zai (Lib.compactUpTo R.toArray (q+1))++(R[q+1]++[10])):=Hd (by rw[znw hlj (Or.inr (fun _=>by simpa using heq)),zb4])
       clear heq hj0;generalize R[q+1]=x at *;generalize R[q]=y at *;generalize zai (Lib.compactUpTo R.toArray (q+1))=out at *;have hz1:¬ 9223372036854775807<out.length+x.length:=by omega
       have hz2:¬ 9223372036854775807<out.length+x.length+1:=by omega
       go_wp2_with fail
       go_quiet (fail)
       go_wp2
       go_roundw
       case rel=>exact⟨q+1+1,by omega,by go_num,by rw[HN.out]; simp[zar],by first | exact HBj.out | exact zag HBj.out _⟩
       case measure=>simp[intOf]; omega
    ·obtain rfl:j=R.length:=by omega
     have hljc:((R.length:Int)<(R.length:Int))=False:=eq_false (by omega)
     have HF:Hid (zai (zek zkz (allB ins))=zai (Lib.compactUpTo R.toArray R.length)):=Hd (by
      have e0:zek zkz (allB ins)=Lib.compact (zb9 (allB ins)):=if_pos rfl;rw[e0,← HIS.out];rfl)
     go_wp2
     go_ret
     exact⟨by rw[HF.out]; rfl,HBi.out.trans (HBj.out.mono hz0)⟩
abbrev zit:List UInt8:=[119,114,105,116,101]
theorem zzb {name:List UInt8} {k:Kd} (h:zaa name zbe=some k) (hne:name≠zit) (word:List UInt8) (v:Value) (ins:List (List UInt8)) (w:World) (hr:Reads w v (ins.map str))
  (h1:k.least≤(ins.length:Int)) (h2:(ins.length:Int)≤k.most) (hw:zb8 k.word word=true) (hl:word.length≤100) (hx:∀ s∈ins,s.length≤10000) :
  Calls Tryz.prog 170 #[str name,str word,v] w fun e w'=>e=.returned (str (runB k.run word ins))∧Below w.heap.size w w':=by
 have hmem:=zfg h;unfold zbe at hmem;simp only[List.mem_cons,Prod.mk.injEq,List.not_mem_nil,or_false] at hmem;have one:(1:Int)≤(ins.length:Int)→(ins.length:Int)≤1→∃ s,ins=[s]:=fun a b=>List.length_eq_one_iff.1 (by omega)
 rcases hmem with ⟨rfl,rfl⟩ |⟨rfl,rfl⟩ |⟨rfl,rfl⟩ |⟨rfl,rfl⟩ |⟨rfl,rfl⟩ |⟨rfl,rfl⟩ |⟨rfl,rfl⟩ |⟨rfl,rfl⟩
 ·exact absurd rfl hne
 ·simp only at h1 h2;exact zwe word v ins w hr (by omega) (by omega) hl hx
 ·obtain⟨s,rfl⟩:=one h1 h2;exact ztc word s v w hr (hx s List.mem_cons_self)
 ·obtain⟨s,rfl⟩:=one h1 h2;exact ztd word s v w hr hl (hx s List.mem_cons_self)
 ·simp only at h1 h2;have hp:(word==[]||word==zkz)=true:=hw;rw[Bool.or_eq_true,beq_iff_eq,beq_iff_eq] at hp;rcases hp with rfl | rfl
  ·exact zqn v ins w hr (by omega) hx
  ·exact ztr v ins w hr (by omega) hx
 ·simp only at h1 h2;exact ztq word v ins w hr (by omega) hx
 ·obtain⟨s,rfl⟩:=one h1 h2;have hp:zgg word=true:=hw;obtain⟨a,r,rfl,ha,hna,hnr⟩:=zli hp;have e:runB 234 (a++61::r) [s]=zcr a r s:=by
   show zcr (Lib.cut (a++61::r) [61]).1 (Lib.cut (a++61::r) [61]).2.1 s=_;rw[zvc hna]
  show Calls Tryz.prog 170 _ _ (fun e w'=>e=.returned (str (runB 234 (a++61::r) [s]))∧_);rw[e];exact zwu a r s v w hr ha hna hnr hl (hx s List.mem_cons_self)
 ·obtain⟨s,rfl⟩:=one h1 h2;have hp:(num3 word).isSome=true:=hw;obtain⟨n,hn⟩:=Option.isSome_iff_exists.1 hp;have e:runB 236 word [s]=zmx n s:=by
   show zmx ((num3 word).getD 0) s=_;rw[hn];rfl
  show Calls Tryz.prog 170 _ _ (fun e w'=>e=.returned (str (runB 236 word [s]))∧_);rw[e];exact zwg word s n v w hr hn hl (hx s List.mem_cons_self)
theorem aof_bad (name word:List UInt8) (v:Value) (ins:List (List UInt8)) (c:Nat) (w:World) (hr:Reads w v (ins.map str)) (hn:ins.length≤1000) (hl:word.length≤100000) (hc:za1 name word ins.length=c+1) :
  Calls Tryz.prog 104 #[str name,str word,v] w fun e w'=>e=.returned (.tuple #[str [], .int .i64 ((c:Int)+1)])∧Below w.heap.size w w':=by
 have K0:=zi7 name word ins.length w (by omega) hl
 rw[hc] at K0;have K1:Hid (Calls Tryz.prog 169 #[str name,str word, .int .i64 (ins.length:Int)] w fun e w'=>e=.returned (.int .i64 ((c:Int)+1))∧Below w.heap.size w w'):=Hd K0;obtain⟨a,cap,rfl,-,-⟩:=id hr;simp only[List.length_map] at *;have hpos:((0:Int)<(c:Int)+1)=True:=eq_true (by omega)
 clear hr K0 hc;go_enter Tryz.func104,Tryz.ntmps104
 go_wp2_with fail
 refine K1.out.mono ?_
 rintro e w1 ⟨rfl,hb1⟩;go_wp2
 go_ret2
 exact⟨rfl,hb1⟩
theorem zww (word:List UInt8) (v:Value) (ins:List (List UInt8)) (w:World) (hr:Reads w v (ins.map str)) (hn:ins.length≤1000) (hl:word.length≤100) (hc:za1 zit word ins.length=0) :
  Calls Tryz.prog 104 #[str zit,str word,v] w fun e w'=>e=.returned (.tuple #[str word, .int .i64 0])∧Below w.heap.size w w':=by
 have K0:=zi7 zit word ins.length w (by omega) (by omega)
 rw[hc] at K0;have K1:Hid (Calls Tryz.prog 169 #[str zit,str word, .int .i64 (ins.length:Int)] w fun e w'=>e=.returned (.int .i64 0)∧Below w.heap.size w w'):=Hd K0;obtain⟨a,cap,rfl,-,-⟩:=id hr;simp only[List.length_map] at *;have hc2:((2000:Int)<(word.length:Int))=False:=eq_false (by omega)
 clear hr K0 hc;go_enter Tryz.func104,Tryz.ntmps104
 go_wp2_with fail
 refine K1.out.mono ?_
 rintro e w1 ⟨rfl,hb1⟩;go_wp2
 go_ret2
 exact⟨rfl,hb1⟩
theorem zzc (name word out:List UInt8) (v:Value) (ins:List (List UInt8)) (w:World) (hr:Reads w v (ins.map str)) (hn:ins.length≤1000) (hl:word.length≤100) (hc:za1 name word ins.length=0) (hne:name≠zit)
  (hmade:∀ w1,Below w.heap.size w w1→Calls Tryz.prog 170 #[str name,str word,v] w1 fun e w'=>e=.returned (str out)∧Below w1.heap.size w1 w') :
  Calls Tryz.prog 104 #[str name,str word,v] w fun e w'=>e=.returned (.tuple #[str (if 2000<out.length then [] else out), .int .i64 (if 2000<out.length then 10 else 0)])∧Below w.heap.size w w':=by
 have K0:=zi7 name word ins.length w (by omega) (by omega)
 rw[hc] at K0;have K1:Hid (Calls Tryz.prog 169 #[str name,str word, .int .i64 (ins.length:Int)] w fun e w'=>e=.returned (.int .i64 0)∧Below w.heap.size w w'):=Hd K0;have K2:=Hd hmade;obtain⟨a,cap,rfl,-,-⟩:=id hr;simp only[List.length_map] at *;have hd:(name==[119,114,105,116,101])=false:=by simpa using hne
 clear hr K0 hc hmade hne;by_cases ho:2000<out.length
 ·rw[if_pos ho,if_pos ho];have hc2:((2000:Int)<(out.length:Int))=True:=eq_true (by omega)
  go_enter Tryz.func104,Tryz.ntmps104
  go_wp2_with fail
  refine K1.out.mono ?_
  rintro e w1 ⟨rfl,hb1⟩;have HB1:=Hd hb1;have K3:=Hd (K2.out w1 hb1);clear hb1;go_wp2_with fail
  refine K3.out.mono ?_
  rintro e w2 ⟨rfl,hb2⟩;have HB2:=Hd (HB1.out.trans (hb2.mono HB1.out.size));clear hb2;go_wp2
  go_ret2
  exact⟨rfl,HB2.out⟩
 ·rw[if_neg ho,if_neg ho];have hc2:((2000:Int)<(out.length:Int))=False:=eq_false (by omega)
  go_enter Tryz.func104,Tryz.ntmps104
  go_wp2_with fail
  refine K1.out.mono ?_
  rintro e w1 ⟨rfl,hb1⟩;have HB1:=Hd hb1;have K3:=Hd (K2.out w1 hb1);clear hb1;go_wp2_with fail
  refine K3.out.mono ?_
  rintro e w2 ⟨rfl,hb2⟩;have HB2:=Hd (HB1.out.trans (hb2.mono HB1.out.size));clear hb2;go_wp2
  go_ret2
  exact⟨rfl,HB2.out⟩
theorem zwx (name word:List UInt8) (v:Value) (ins:List (List UInt8)) (w:World) (hr:Reads w v (ins.map str)) (hn:ins.length≤1000) (hl:word.length≤100000) (hx:∀ s∈ins,s.length≤10000) :
  Calls Tryz.prog 104 #[str name,str word,v] w fun e w'=>e=.returned (.tuple #[str (zcc name word ins).2, .int .i64 ((zcc name word ins).1:Nat)])∧Below w.heap.size w w':=by
 unfold zcc;cases hc:za1 name word ins.length with
 | succ c =>
  rw[if_neg (by omega)]
  exact aof_bad name word v ins c w hr hn hl hc
 | zero =>
  rw[if_pos rfl];have hc0:=hc;unfold za1 at hc;cases hk:zaa name zbe with
  | none=>rw[hk] at hc; cases hc
  | some k =>
   rw[hk] at hc;simp only at hc
   split at hc
   ·rename_i hcond
    obtain⟨h1,h2,hw⟩:=hcond
    split at hc
    ·cases hc
    ·rename_i h100
     simp only;by_cases hne:name=zit
     ·subst hne;have hkw:k=⟨0,0,224,225⟩:=by
       have e:zaa zit zbe=some ⟨0,0,224,225⟩:=by kernel_rfl
       rw[e] at hk;exact (Option.some.inj hk).symm
      subst hkw;have er:runB 225 word ins=word:=rfl;rw[er,if_neg (by omega)]
      exact zww word v ins w hr hn (by omega) hc0
     ·have K:=zzc name word (runB k.run word ins) v ins w hr hn (by omega) hc0 hne (fun w1 hb=>zzb hk hne word v ins w1 (hr.below0 hb) h1 h2 hw (by omega) hx)
      by_cases ho:2000<(runB k.run word ins).length
      ·rw[if_pos ho];rw[if_pos ho,if_pos ho] at K;exact K
      ·rw[if_neg ho];rw[if_neg ho,if_neg ho] at K;exact K
   ·cases hc
theorem Tw.found {m L:List Ent} (h:Tw m L) {p v:List UInt8} (hk:zaa p m=some v):∃ i:Nat,zdb p L=(i:Int)∧∃ hi:i<L.length,L[i].2=v:=by
 rw[h.look] at hk;obtain⟨i,hpl,hi,hp,-,-⟩:=zc0 (L:=L) (p:=p) (by rw[hk]; rfl)
 refine⟨i,by unfold zdb; rw[hpl],hi,?_⟩
 have hm:(p,L[i].2)∈L:=by rw[← hp]; exact List.getElem_mem hi
 have:=(zc7 h.nodup).2 hm;rw[hk] at this;exact (Option.some.inj this).symm
theorem Tw.lost {m L:List Ent} (h:Tw m L) {p:List UInt8} (hk:zaa p m=none):zdb p L = -1:=by
 rw[h.look] at hk;unfold zdb;rw[zch hk]
def zhg (x:Told) (W:World) (e:Ending) (w':World):Prop:=e=.returned (.tuple #[str x.2, .int .i64 (x.1:Nat)])∧Below W.heap.size W w'
set_option maxHeartbeats 4000000 in
theorem zlz {R:List RV} {v:Value} {base rb:Nat} {lv:Value} {m L:List Ent} {w0:World} (hr:ReadsK 4 w0 v (R.map zay)) (hx:∀ x∈R,Reads w0 x.2 (x.1.ins.map str)) (hT:RTAt base w0 rb lv L) (hTw:Tw m L)
  (hb:∀ x∈R,x.1.word.length≤100000∧x.1.ins.length≤1000) (hn:R.length≤1000) (p:List UInt8) (W:World) (hW:Below w0.heap.size w0 W)
  (hp:∀ i (hi:i<R.length),R[i].1.out=p→zbg (R.map Prod.fst) (fun p=>zaa p m) p=zee R[i].1 (R[i].1.ins.map (zbg (R.map Prod.fst) (fun p=>zaa p m))))
  (hI:∀ i (hi:i<R.length),R[i].1.out=p→∀ s∈R[i].1.ins,∀ W',Below w0.heap.size w0 W'→Calls Tryz.prog 115 #[.pointer (some ⟨rb,0,none⟩),v,str s] W' (zhg (zbg (R.map Prod.fst) (fun p=>zaa p m) s) W')) :
  Calls Tryz.prog 115 #[.pointer (some ⟨rb,0,none⟩),v,str p] W (zhg (zbg (R.map Prod.fst) (fun p=>zaa p m) p) W):=by
 obtain⟨a,c,hv,hle,-⟩:=id hr;rw[List.length_map] at hv hle;subst hv;have hrow:∀ r∈R.map zay,r≠[]:=fun r hr=>by obtain⟨x,-,rfl⟩:=List.mem_map.1 hr; simp[zay]
 have HR:=Hd (fun wl (hb:Below w0.heap.size w0 wl)=>zao hr hrow hb);have HX:=Hd (fun wl (hb:Below w0.heap.size w0 wl) x hm=>(hx x hm).below0 hb);have HT:=Hd (fun wl (hb:Below w0.heap.size w0 wl)=>hT.below hb);have HB:=Hd hb;have HW:=Hd hW;have hsz:=hW.size;have HWW:Hid (∀ wl,Below W.heap.size W wl→Below w0.heap.size w0 wl):=Hd (fun wl h=>hW.trans (h.mono hW.size));have HP:=Hd hp;have HI:=Hd hI;have HTW:=Hd hTw;obtain⟨G,hG⟩:∃ G:List UInt8→Told,zbg (R.map Prod.fst) (fun p=>zaa p m)=G:=⟨_,rfl⟩;have HTO:=Hd (fun s=>zgk (l:=R.map Prod.fst) (T:=fun p=>zaa p m) (fun q b hq=>by
  rw[hTw.look] at hq;exact (hTw.path _ ((zc7 hTw.nodup).1 hq)).2.2) s)
 have HLF:Hid (p∉(R.map Prod.fst).map RuleL.out→G p=zhb (fun p=>zaa p m) p):=Hd (fun h=>by rw[← hG]; exact zf0 h)
 rw[hG] at HP HTO HI ⊢;clear hr hx hT hb hW hp hI hTw hrow hG;go_enter Tryz.func115,Tryz.ntmps115
 go_wp2_with fail
 go_loopw [8] (fun iv wl=>∃ (i:Nat),i≤R.length∧iv=.int .i64 i∧(∀ j (hj:j<R.length),j<i→R[j].1.out≠p)∧Below W.heap.size W wl) (fun iv _=>R.length - (intOf iv).toNat)
 case atStart=>exact⟨0,by omega,rfl,fun j _ h=>absurd h (Nat.not_lt_zero j),Below.refl _ _⟩
 case round =>
  obtain⟨i,hi,rfl,hno,hbi⟩:=hrel;have HNO:=Hd hno;have HBI:=Hd hbi;have hzi:=hbi.size;by_cases hlt:i<R.length
  ·have hlc:((i:Int)<(R.length:Int))=True:=eq_true (by omega)
   obtain⟨b,o,hix,-,hce⟩:=(HR.out w0 (Below.refl _ _)).at (P:=Tryz.prog) Tryz.underlying22 (by kernel_rfl) i (by simpa using hlt)
   simp only[List.getElem_map] at hce;have h0:=hce 0 _ rfl;have h1:=hce 1 _ rfl;have h2:=hce 2 _ rfl;have h3:=hce 3 _ rfl;simp only[Nat.add_zero] at h0;have HPI:=Hd (HP.out i hlt);have HII:=Hd (HI.out i hlt);have HNN:Hid (R[i].1.out≠p→∀ j (hj:j<R.length),j<i+1→R[j].1.out≠p):=Hd (fun hne j hj hji=>by
    rcases Nat.lt_or_ge j i with h | h
    ·exact HNO.out j hj h
    ·obtain rfl:j=i:=by omega
     exact hne)
   have HBX:=Hd (HB.out _ (List.getElem_mem hlt));have HRI:=Hd (fun wl hb=>HX.out wl hb _ (List.getElem_mem hlt));generalize R[i]=x at *;obtain⟨⟨x0,x1,x2,ins⟩,x3⟩:=x;simp only at h0 h1 h2 h3 HPI HII HNN HBX HRI;have HC0:=Hd (fun wl (hb:Below w0.heap.size w0 wl)=>(⟨(hb.cell (zad h0)).trans h0,(hb.cell (zad h1)).trans h1,(hb.cell (zad h2)).trans h2,(hb.cell (zad h3)).trans h3⟩:wl.cell? ⟨b,o,none⟩=some (str x0)∧wl.cell? ⟨b,o+1,none⟩=some (str x1)∧wl.cell? ⟨b,o+2,none⟩=some (str x2)∧wl.cell? ⟨b,o+3,none⟩=some x3));clear hce h0 h1 h2 h3;by_cases hne:x0=p
   ·subst hne;have HPI2:=Hd (HPI.out rfl);have HII2:=Hd (HII.out rfl);clear HPI HII HNN;obtain⟨au,cu,hu,huc,-⟩:=id (HRI.out w0 (Below.refl _ _));rw[List.length_map] at hu huc;subst hu;obtain⟨k0,k1,k2,k3⟩:=HC0.out wr (HWW.out _ hbi);clear hno hbi;go_wp2_with fail
    go_loopw [9,10] (fun ov kv wl=>∃ (k:Nat),k≤ins.length∧kv=.int .i64 k∧(∀ s∈ins.take k,(G s).1=0)∧wl.ownsRow W.heap.size 9 1 ov (ins.take k).length ((ins.take k).map (fun s=>str (G s).2))∧Below W.heap.size W wl) (fun _ kv _=>ins.length - (intOf kv).toNat)
    case atStart=>exact⟨0,by omega,rfl,fun s hs=>by simp at hs,World.ownsRow_nil _ _ _ _,HBI.out⟩
    case round =>
     obtain⟨k,hk,rfl,hok,hown,hbk⟩:=hrel;have HOK:=Hd hok;have HOW:=Hd hown;have HBK:=Hd hbk;have hzk:=hbk.size;obtain⟨k0,k1,k2,k3⟩:=HC0.out wr (HWW.out _ hbk);by_cases hlk:k<ins.length
     ·have hlc2:((k:Int)<(ins.length:Int))=True:=eq_true (by omega)
      obtain⟨b3,o3,hix3,hce3⟩:=(HRI.out wr (HWW.out _ hbk)).at (P:=Tryz.prog) Tryz.underlying33 (by kernel_rfl) k (by simpa using hlk)
      simp only[List.getElem_map] at hce3;have KI:=Hd (HII2.out ins[k] (List.getElem_mem hlk) wr (HWW.out _ hbk));have HTK:Hid (ins.take (k+1)=ins.take k++[ins[k]]):=Hd (by rw[List.take_succ_eq_append_getElem hlk])
      have HBAD:Hid ((G ins[k]).1≠0→G x0=G ins[k]):=Hd (fun hb=>by
       rw[HPI2.out];have h:=zlu (r:=⟨x0,x1,x2,ins⟩) (xs:=ins.map G) (i:=k) (by simpa using hlk) (by simpa using hb) (fun q hq hqj=>by
        simp only[List.getElem_map];exact HOK.out _ (List.mem_iff_getElem.2 ⟨q,by rw[List.length_take]; simp at hq; omega,by rw[List.getElem_take]⟩))
       simpa using h)
      generalize ins[k]=s at *;clear hok hown hbk;obtain⟨xc,xb,hx⟩:∃ xc xb,G s=(xc,xb):=⟨_,_,rfl⟩;rw[hx] at KI;have HXW:=Hd hx;have hxl:xb.length≤2000:=by have:=(HTO.out s).len; rw[HXW.out] at this; exact this
      have hxe:xc≠0→xb=[]:=by have:=(HTO.out s).err; rw[HXW.out] at this; exact this
      have hnl:(ins.take k).length=k:=by rw[List.length_take]; omega
      have hil:ins.length≤1000:=HBX.out.2;clear hx;go_wp2_with fail
      refine KI.out.mono ?_
      rintro e w4 ⟨rfl,hb4⟩;have HB4:=Hd (HBK.out.trans (hb4.mono hzk));have hz4:=hb4.size;have HO4:=Hd (zaf (S:=fun _=>False) HOW.out (Fr.of_below hb4) (fun q hq=>⟨(HOW.out.lt q hq).2,id⟩));clear hb4 HOW;cases xc with
      | succ ec =>
       obtain rfl:=hxe (Nat.succ_ne_zero _);have HG:Hid (G x0=(ec+1,[])):=Hd (by rw[HBAD.out (by rw[HXW.out]; exact Nat.succ_ne_zero _),HXW.out])
       have hpos:(0<((ec+1:Nat):Int))=True:=eq_true (by omega)
       go_wp2
       go_ret2
       exact⟨by rw[HG.out]; rfl,HB4.out⟩
      | zero =>
       have HOK2:Hid (∀ t∈ins.take (k+1),(G t).1=0):=Hd (fun t ht=>by
        rw[HTK.out] at ht;rcases List.mem_append.1 ht with ht | ht
        ·exact HOK.out t ht
        ·rw[List.mem_singleton.1 ht,HXW.out])
       have hpos:(0<((0:Nat):Int))=False:=eq_false (by omega)
       go_wp2_with (first
        |(at_builtin
          refine zah _ rfl _ _ 33 rfl zqj W.heap.size u9 _ _ rfl (HO4.out.alloc _) ⟨w4.heap.size,0,none⟩ 1 1 [str xb] rfl rfl (zap ?_) ?_ (by decide) ?_ ?_ ?_
          ·rw[cell_of_heap (heap_alloc_here w4 _)]; rfl
          ·intro u hu; simp at hu; subst hu; rfl
          ·omega
          ·simp; omega
          intro v6 w6 ho6 hg6 hloc6;have HO6:Hid (w6.ownsRow W.heap.size 9 1 v6 (ins.take (k+1)).length ((ins.take (k+1)).map (fun s=>str (G s).2))):=Hd (by
           rw[HTK.out,List.length_append,List.map_append,List.map_cons,List.map_nil,HXW.out];exact ho6)
          have HB6:Hid (Below W.heap.size W w6):=Hd ((HB4.out.alloc HB4.out.size _).grown hg6 (by simp; omega) (fun q hq=>(HO4.out.lt q hq).1))
          clear ho6 hg6 hloc6))
       go_wp2
       go_roundw
       case rel=>exact⟨k+1,by omega,by go_num,HOK2.out,HO6.out,HB6.out⟩
       case measure=>simp[intOf]; omega
     ·obtain rfl:k=ins.length:=by omega
      have hlc2:((ins.length:Int)<(ins.length:Int))=False:=eq_false (by omega)
      rw[List.take_length] at hok hown;have HKA:=Hd (fun wl (hb:Below wr.heap.size wr wl)=>zwx x1 x2 u9 (ins.map fun s=>(G s).2) wl (by have h:=(zac hown).below0 hb; rw[List.map_map]; exact h) (by have:=HBX.out.2; simpa using this) HBX.out.1 (fun b hb=>by
       obtain⟨s,hs,rfl⟩:=List.mem_map.1 hb;exact Nat.le_trans (HTO.out s).len (by omega)))
      have HPE:Hid (G x0=zcc x1 x2 (ins.map fun s=>(G s).2)):=Hd (by
       rw[HPI2.out,zgl (by intro x hx; obtain⟨s,hs,rfl⟩:=List.mem_map.1 hx; exact hok s hs),List.map_map]
       rfl)
      generalize zcc x1 x2 (ins.map fun s=>(G s).2)=y at *;obtain⟨xc,xb⟩:=y;simp only at HKA;have HCW:=Hd (fun wl (hb:Below wr.heap.size wr wl)=>HC0.out wl (HWW.out _ (HBK.out.trans (hb.mono hzk))));clear hok hown hbk HOK HOW;have HK2:Hid (∀ wl,Below wr.heap.size wr wl→Calls Tryz.prog 104 #[str x1,str x2,u9] wl fun e w'=>e=.returned (.tuple #[str xb, .int .i64 (xc:Nat)])∧Below wr.heap.size wr w'):=Hd (fun wl hb=>(HKA.out wl hb).mono (by
       rintro e w' ⟨h1,h2⟩;exact⟨h1,hb.trans (h2.mono hb.size)⟩))
      have HCX:Hid (∀ wl,Below wr.heap.size wr wl→wl.cell? ⟨b,o+1,none⟩=some (str x1)∧wl.cell? ⟨b,o+2,none⟩=some (str x2)):=Hd (fun wl hb=>⟨(HCW.out wl hb).2.1,(HCW.out wl hb).2.2.1⟩);clear HKA;go_wp2_with fail
      go_region_held3 (fun w'=>w'.cell? ⟨b,o+1,none⟩=some (str x1)∧w'.cell? ⟨b,o+2,none⟩=some (str x2))
       (first | exact HCX.out _ hb9 | exact HCX.out _ (Below.refl _ _) | exact HCX.out _ (Below.refl _ _).drew)
       (first
        |(go_at_call 104
          refine (HK2.out _ ?_).mono ?_
          ·first | exact (Below.refl _ _) | exact (Below.refl _ _).drew
          rintro e w9 ⟨rfl,hb9⟩))
      all_goals
       have HB9:=Hd (HBK.out.trans (hb9.mono hzk));clear hb9;go_wp2
       go_ret2
       exact⟨by rw[HPE.out]; rfl,HB9.out⟩
   ·have hbe:(x0==p)=false:=by simpa using hne
    obtain⟨k0,k1,k2,k3⟩:=HC0.out wr (HWW.out _ hbi);clear hno hbi;go_wp2
    go_roundw
    case rel=>exact⟨i+1,by omega,by go_num,HNN.out hne,HBI.out⟩
    case measure=>simp[intOf]; omega
  ·obtain rfl:i=R.length:=by omega
   have hlc:((R.length:Int)<(R.length:Int))=False:=eq_false (by omega)
   have HGP:=Hd (HLF.out (by
    rintro h;rw[List.map_map] at h;obtain⟨x,hx,e⟩:=List.mem_map.1 h;obtain⟨j,hj,rfl⟩:=List.mem_iff_getElem.1 hx;exact HNO.out j hj hj e))
   have KF:=Hd (zfo base rb lv L p wr (HT.out wr (HWW.out _ hbi)));clear hno hbi;cases hl:zaa p m with
   | none =>
    rw[HTW.out.lost hl] at KF;have HGE:Hid (G p=(6,[])):=Hd (by rw[HGP.out]; simp only[zhb,hl])
    clear hl HGP;go_wp2_with fail
    refine KF.out.mono ?_
    rintro e w4 ⟨rfl,rfl⟩;go_wp2
    go_ret2
    exact⟨by rw[HGE.out]; rfl,HBI.out⟩
   | some b =>
    obtain⟨k,hf,hk,hkb⟩:=HTW.out.found hl;rw[hf] at KF;have HGE:Hid (G p=(0,b)):=Hd (by rw[HGP.out]; simp only[zhb,hl])
    have hTr:=HT.out wr (HWW.out _ HBI.out);have hrd:=hTr.reads;have hcl:=hTr.cell;obtain⟨al,cl,hlv,-,-⟩:=id hrd;rw[List.length_map] at hlv;subst hlv;obtain⟨b5,o5,hix5,-,hce5⟩:=hrd.at (P:=Tryz.prog) Tryz.underlying37 (by kernel_rfl) k (by simpa using hk)
    simp only[List.getElem_map] at hce5;have hb1:=hce5 1 _ rfl;rw[hkb] at hb1;have hkp:((k:Int)<0)=False:=eq_false (by omega)
    clear hl HGP hTr hrd hce5 hf hkb;go_wp2_with fail
    refine KF.out.mono ?_
    rintro e w4 ⟨rfl,rfl⟩;go_wp2
    go_ret2
    exact⟨by rw[HGE.out]; rfl,HBI.out⟩
structure RCtx (R:List RV) (v:Value) (base rb:Nat) (lv:Value) (m L:List Ent) (w:World):Prop where
 rules:ReadsK 4 w v (R.map zay)
 ins:∀ x∈R,Reads w x.2 (x.1.ins.map str)
 tree:RTAt base w rb lv L
 tw:Tw m L
 right:Right (R.map Prod.fst)
 short:∀ x∈R,x.1.word.length≤100000∧x.1.ins.length≤1000
 many:R.length≤1000
theorem zts {R:List RV} {v:Value} {base rb:Nat} {lv:Value} {m L:List Ent} {w0:World} (C:RCtx R v base rb lv m L w0) (p:List UInt8) (hp:p∉(R.map Prod.fst).map RuleL.out) (W:World) (hW:Below w0.heap.size w0 W) :
  Calls Tryz.prog 115 #[.pointer (some ⟨rb,0,none⟩),v,str p] W (zhg (zbg (R.map Prod.fst) (fun p=>zaa p m) p) W) :=
 have hno:∀ i (hi:i<R.length),R[i].1.out=p→False:=fun i hi he=>hp (List.mem_map.2 ⟨R[i].1,List.mem_map.2 ⟨R[i],List.getElem_mem hi,rfl⟩,he⟩)
 zlz C.rules C.ins C.tree C.tw C.short C.many p W hW (fun i hi he=>(hno i hi he).elim) (fun i hi he=>(hno i hi he).elim)
theorem ztt {R:List RV} {v:Value} {base rb:Nat} {lv:Value} {m L:List Ent} {w0:World} (C:RCtx R v base rb lv m L w0) {isB:Nat→Bool} {o:List Nat} (ho:Outs (zae (R.map Prod.fst)) isB (R.map Prod.fst).length o) :
  ∀ (t:Nat) (ht:t<o.length) (hn:o[t]<(R.map Prod.fst).length) (W:World),Below w0.heap.size w0 W →
  Calls Tryz.prog 115 #[.pointer (some ⟨rb,0,none⟩),v,str (R.map Prod.fst)[o[t]].out] W (zhg (zbg (R.map Prod.fst) (fun p=>zaa p m) (R.map Prod.fst)[o[t]].out) W):=by
 intro t
 induction t using Nat.strongRecOn with
 | ind t ih =>
  intro ht hn W hW;have hwr:=zh3 (T:=fun p=>zaa p m) C.right ho hn (List.getElem_mem ht);have hat:∀ k (hk:k<R.length),R[k].1.out=(R.map Prod.fst)[o[t]].out→(R.map Prod.fst)[o[t]]=R[k].1:=by
   intro k hk he;have hke:o[t]=k:=C.right.outs hn (by simpa using hk) (by rw[← he,List.getElem_map])
   rw[List.getElem_map]
   congr 1
   simp only[hke]
  refine zlz C.rules C.ins C.tree C.tw C.short C.many _ W hW (fun k hk he=>by rw[← hat k hk he]; exact hwr) (fun k hk he s hs W2 hW2=>?_)
  rw[← hat k hk he] at hs;rcases zef (R.map Prod.fst) s with ⟨j,hj,hjs⟩ | hno
  ·have hje:j∈zae (R.map Prod.fst) o[t]:=(zcd hn).2 ⟨hj,by rw[hjs]; exact hs⟩
   obtain⟨t',ht',e⟩:=List.mem_iff_getElem.1 (ho.back t ht j hje);rw[List.length_take] at ht';rw[List.getElem_take] at e;have:=ih t' (by omega) (by omega) (by rw[e]; exact hj) W2 hW2
   simp only[e] at this;rw[hjs] at this;exact this
  ·exact zts C s hno W2 hW2
end Go.Proofs.YtgjialbmlhbngaaGreatDoor
