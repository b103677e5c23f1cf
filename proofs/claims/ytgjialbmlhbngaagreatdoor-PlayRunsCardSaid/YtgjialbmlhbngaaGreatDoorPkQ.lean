/-
  The reference's tree: Put. The plain law of the trees: a map of files and the reference's rising list are one; both between two steps of a law. Package kilnfieldlaw2: longFiles and fileTree at any files.
-/
import Derived.Test.YtgjialbmlhbngaaGreatDoorPkP
import Derived.Sort.Walk0
import Derived.Test.YtgjialbmlhbngaaGreatDoorPkF
import Derived.Deep.RegionHeld3

set_option maxRecDepth 100000
namespace Go.Proofs.YtgjialbmlhbngaaGreatDoor
open Go Go.RowKit Go.Kf
theorem _root_.Go.Kf.ReadsK.at0 {P:Program} {T E s:Nat} (hT:P.underlying T=some (.slice E)) (hE:(P.info? E).map (·.size)=some s) {w:World} {g n cap:Nat} {xs:List (List Value)}
  (h:ReadsK s w (.slice (some ⟨g,0,none⟩) n cap) xs) (i:Nat) (hi:i<xs.length) :
  (∀ w',(Instr.indexAt T (.slice (some ⟨g,0,none⟩) n cap) (.int .i64 i)).run P w'=.ok (.pointer (some ⟨g,i*s,none⟩)) w')∧∀ j u,xs[i][j]? = some u→w.cell? ⟨g,i*s+j,none⟩=some u:=by
 obtain⟨a',cap',e,hle,hc⟩:=h;cases e
 obtain⟨b,o,e,hcell⟩:=hc i xs[i] (by simp[hi])
 cases e
 refine⟨fun w'=>?_,by simpa using hcell⟩
 rw[run_indexAt_slice (h:=by rw[zd2 hT]; exact hT),if_pos (by omega),zd2 hT,zdh hE]
 by_cases h0:i*s=0
 ·simp[Result.andThen,Addr.add,h0]
 ·simp[Result.andThen,Addr.add,h0]
theorem zhe (p b:List UInt8):∀ (L:List Ent) (i:Nat),i<L.length→((zav L).set (i*2) (str p)).set (i*2+1) (str b)=zav (L.set i (p,b))
 | x::L,0,_=>by simp[zav]
 | x::L,i+1,h=>by
  have ih:=zhe p b L i (by simpa using h)
  have e:zav (x::L)=str x.1::str x.2::zav L:=by simp[zav]
  have e2:zav ((x::L).set (i+1) (p,b))=str x.1::str x.2::zav (L.set i (p,b)):=by simp[zav]
  rw[e,e2,← ih,show (i+1)*2=i*2+1+1 by omega]
  simp only[List.set_cons_succ]
theorem zy6 {w:World} {base g n cap:Nat} {e:TypeId} {xs:List Value} (h:w.ownsRow base e 2 (.slice (some ⟨g,0,none⟩) n cap) n xs) (i:Nat) (a b:Value) :
  ((w.setCell ⟨g,i*2,none⟩ a).setCell ⟨g,i*2+1,none⟩ b).ownsRow base e 2 (.slice (some ⟨g,0,none⟩) n cap) n ((xs.set (i*2) a).set (i*2+1) b):=by
 obtain⟨hl,h⟩:=h;refine⟨by simpa using hl,?_⟩
 rcases h with ⟨h0,_⟩ |⟨g',cap',cur,hv,hg,hh,hn,hcap,hsz,htake⟩
 ·cases h0
 ·cases hv
  refine Or.inr ⟨g,cap,(cur.setIfInBounds (i*2) a).setIfInBounds (i*2+1) b,rfl,hg,Kf.heap_setCell_same (Kf.heap_setCell_same hh a) b,hn,hcap,by simpa using hsz,?_⟩
  simp only[Array.toList_setIfInBounds,List.take_set,htake]
abbrev lowB (p:List UInt8) (x:Ent):Bool:=Op.bytesLess x.1 p
def insS (p b:List UInt8) (L:List Ent):List Ent:=L.takeWhile (lowB p)++(p,b)::L.dropWhile (lowB p)
def zh9 (p b:List UInt8) (L:List Ent):List Ent:=if putC p b L=0 then (if (zaa p L).isSome=true then mupd p b L else insS p b L) else L
theorem insS_at {p b:List UInt8} {L:List Ent} {k:Nat} (h1:∀ x∈L.take k,lowB p x=true) (h2:∀ h:k<L.length,lowB p L[k]=false):insS p b L=L.take k++(p,b)::L.drop k:=by
 have e:L.takeWhile (lowB p)=L.take k∧L.dropWhile (lowB p)=L.drop k:=by
  have hs:L=L.take k++L.drop k:=(List.take_append_drop k L).symm;rw[hs,List.takeWhile_append_of_pos h1,List.dropWhile_append_of_pos h1,← hs];cases hd:L.drop k with
  | nil=>simp
  | cons x r =>
   have hlt:k<L.length:=by
    rcases Nat.lt_or_ge k L.length with h | h
    ·exact h
    ·rw[List.drop_eq_nil_of_le h] at hd; cases hd
   have hx:x=L[k]:=by
    have:=List.drop_eq_getElem_cons hlt;rw[hd] at this;exact (List.cons.inj this).1
   have:=h2 hlt;rw[← hx] at this;rw[List.takeWhile_cons_of_neg (by rw[this]; decide),List.dropWhile_cons_of_neg (by rw[this]; decide)]
   simp
 unfold insS;rw[e.1,e.2]
theorem zto {p:List UInt8} {L:List Ent} {k:Nat} (hk:k<L.length) (h:clash p (L.take k)=false) (he:(zb2 p L[k].1||zb2 L[k].1 p)=false):clash p (L.take (k+1))=false:=by
 rw[List.take_succ_eq_append_getElem hk];unfold clash at h ⊢;rw[List.any_append,h];simp only[List.any_cons,List.any_nil,he,Bool.or_false]
set_option maxHeartbeats 4000000 in
theorem zry (base rb:Nat) (lv:Value) (L:List Ent) (p b:List UInt8) (w:World) (h:RTAt base w rb lv L) (hb:base≤w.heap.size) (hn:L.length≤1000) (hp:p.length≤1000000) :
  Calls Tryz.prog 42 #[.pointer (some ⟨rb,0,none⟩),str p,str b] w fun e w' =>
   e=.returned (.int .i64 (putC p b L:Int))∧∃ lv',RTAt base w' rb lv' (zh9 p b L)∧Fr w.heap.size (fun k=>k=rb∨lv.ownBlock=some k) w w'∧(∀ k,lv'.ownBlock=some k→lv.ownBlock=some k∨w.heap.size≤k):=by
 have HH:=Hd h;have K0:=Hd (zll p w hp);have KA:=Hd (fun a b w'=>zwc a b w');have stay:∀ w1 c,putC p b L=c→c≠0→Below w.heap.size w w1→∃ lv',RTAt base w1 rb lv' (zh9 p b L)∧Fr w.heap.size (fun k=>k=rb∨lv.ownBlock=some k) w w1∧(∀ k,lv'.ownBlock=some k→lv.ownBlock=some k∨w.heap.size≤k):=by
  intro w1 c hc h0 hb1;have e2:zh9 p b L=L:=by unfold zh9; rw[if_neg (by rw[hc]; exact h0)]
  rw[e2];exact⟨lv,h.below hb1,Fr.of_below hb1,fun k hk=>Or.inl hk⟩
 have STAY:=Hd stay;clear stay;cases hp0:zaq p with
 | false =>
  rw[hp0] at K0;have e1:putC p b L=4:=by unfold putC; rw[if_pos hp0]
  have E1:=Hd e1;clear h hp0 e1;go_enter Tryz.func42,Tryz.ntmps42
  go_wp2_with fail
  refine K0.out.mono ?_
  rintro e w1 ⟨rfl,hb1⟩;go_wp2
  go_ret
  rw[E1.out];exact⟨rfl,STAY.out w1 4 E1.out (by decide) hb1⟩
 | true =>
 rw[hp0] at K0;by_cases hb0:2000<b.length
 ·have e1:putC p b L=2:=by unfold putC; rw[if_neg (by rw[hp0]; decide),if_pos hb0]
  have E1:=Hd e1;clear h hp0 e1;go_enter Tryz.func42,Tryz.ntmps42
  go_wp2_with fail
  refine K0.out.mono ?_
  rintro e w1 ⟨rfl,hb1⟩;go_wp2
  go_ret
  rw[E1.out];exact⟨rfl,STAY.out w1 2 E1.out (by decide) hb1⟩
 have HQ:Hid (putC p b L=if clash p L=true then 7 else if (zaa p L).isSome=false∧60≤L.length then 8 else 0):=Hd (by unfold putC; rw[if_neg (by rw[hp0]; decide),if_neg hb0])
 clear hp0;go_enter Tryz.func42,Tryz.ntmps42
 go_wp2_with fail
 refine K0.out.mono ?_
 rintro e w1 ⟨rfl,hb1⟩;have hh1:=h.below hb1;have HH1:=Hd hh1;have HB1:=Hd hb1;have hr:=hh1.reads;have c0:=hh1.cell;have hlv:∀ k,lv.ownBlock=some k→k<w.heap.size:=fun k hk=>(h.row.lt k hk).2;have HLV:=Hd hlv;have shape:∃ ao c,lv=.slice ao L.length c∧(ao=none→L.length=0∧c=0)∧∀ x,ao=some x→(∃ g,x=⟨g,0,none⟩)∧L.length≤c∧c≤9223372036854775807:=by
  rcases h.row.2 with ⟨e,h0⟩ |⟨g',cap',cur,e,-,-,h3,h4,-⟩
  ·exact⟨none,0,by rw[h0]; exact e,fun _=>⟨h0,rfl⟩,fun x hx=>by cases hx⟩
  ·exact⟨_,cap',e,(fun e=>by cases e),fun x hx=>by cases hx; exact⟨⟨_,rfl⟩,h3,by unfold maxLen at h4; omega⟩⟩
 obtain⟨ao,cap,rfl,hs1,hs2⟩:=shape;have HS1:=Hd hs1;have HS2:=Hd hs2;have hlm:(L.map zam).length=L.length:=List.length_map _;have HR:=Hd hr;clear h hh1 hb1 hr hlv hs1 hs2;go_wp2
 go_loop [8] (fun i=>∃ k:Nat,k≤L.length∧clash p (L.take k)=false∧i=.int .i64 k) (fun i=>L.length - (intOf i).toNat)
 case atStart=>exact⟨0,by omega,rfl,rfl⟩
 case round =>
  obtain⟨k,hkl,hno,rfl⟩:=hrel;have HN:=Hd hno;clear hno;by_cases hlt:k<L.length
  ·obtain⟨bb,o,hix,-,hce⟩:=HR.out.at (P:=Tryz.prog) Tryz.underlying37 (by kernel_rfl) k (by simpa using hlt)
   have e0:w1.cell? ⟨bb,o,none⟩=some (str L[k].1):=hce 0 _ (by simp)
   have HCT:=Hd (fun he=>zto (p:=p) hlt HN.out he);have HYE:Hid ((zb2 p L[k].1||zb2 L[k].1 p)=true→putC p b L=7):=Hd (fun h=>by
    have hc:clash p L=true:=by
     unfold clash;rw[List.any_eq_true];exact⟨_,List.getElem_mem hlt,h⟩
    rw[HQ.out,hc]; rfl)
   clear hce;obtain⟨s,hs⟩:∃ s,L[k].1=s:=⟨_,rfl⟩;rw[hs] at e0 HCT HYE;clear hs;cases q1:zb2 p s with
   | true =>
    have E1:=Hd (HYE.out (by rw[q1]; rfl))
    have K1:=KA.out p s;rw[q1] at K1;have K1:=Hd K1;clear q1 HCT HYE;go_wp2_with fail
    refine (K1.out _).mono ?_
    rintro e w4 ⟨rfl,rfl⟩;go_wp2
    go_ret
    rw[E1.out];exact⟨rfl,STAY.out _ 7 E1.out (by decide) HB1.out⟩
   | false =>
    have K1:=KA.out p s;rw[q1] at K1;have K1:=Hd K1;cases q2:zb2 s p with
    | true =>
     have E1:=Hd (HYE.out (by rw[q1,q2]; rfl))
     have K2:=KA.out s p;rw[q2] at K2;have K2:=Hd K2;clear q1 q2 HCT HYE;go_wp2_with fail
     refine (K1.out _).mono ?_
     rintro e w4 ⟨rfl,rfl⟩;go_wp2_with fail
     refine (K2.out _).mono ?_
     rintro e w4 ⟨rfl,rfl⟩;go_wp2
     go_ret
     rw[E1.out];exact⟨rfl,STAY.out _ 7 E1.out (by decide) HB1.out⟩
    | false =>
     have E1:=Hd (HCT.out (by rw[q1,q2]; rfl))
     have K2:=KA.out s p;rw[q2] at K2;have K2:=Hd K2;clear q1 q2 HCT HYE;go_wp2_with fail
     refine (K1.out _).mono ?_
     rintro e w4 ⟨rfl,rfl⟩;go_wp2_with fail
     refine (K2.out _).mono ?_
     rintro e w4 ⟨rfl,rfl⟩;go_wp2
     go_round
     case rel=>exact⟨k+1,by omega,E1.out,by go_num⟩
     case measure=>simp[intOf]; omega
  ·have HCL:Hid (clash p L=false):=Hd (by have:=HN.out; rwa [List.take_of_length_le (by omega)] at this)
   have K2:=zfo base rb _ L p w1 HH1.out;clear HN;cases hk:zaa p L with
   | none =>
    have hf:zdb p L = -1:=by unfold zdb; rw[zch hk]
    rw[hf] at K2;have K2:=Hd K2;by_cases h60:60≤L.length
    ·have E1:Hid (putC p b L=8):=Hd (by rw[HQ.out,HCL.out,hk]; simp[h60])
     clear hf hk;go_wp2_with fail
     refine K2.out.mono ?_
     rintro e w4 ⟨rfl,rfl⟩;go_wp2
     go_ret
     rw[E1.out];exact⟨rfl,STAY.out _ 8 E1.out (by decide) HB1.out⟩
    ·have E1:Hid (putC p b L=0∧zh9 p b L=insS p b L):=Hd (by
      have e1:putC p b L=0:=by rw[HQ.out,HCL.out,hk]; simp[h60]
      exact⟨e1,by unfold zh9; rw[if_pos e1,if_neg (by rw[hk]; decide)]⟩)
     clear hf hk;go_wp2_with fail
     refine K2.out.mono ?_
     rintro e w4 ⟨rfl,rfl⟩;go_wp2
     go_loop [9] (fun i=>∃ k:Nat,k≤L.length∧(∀ x∈L.take k,lowB p x=true)∧i=.int .i64 k) (fun i=>L.length - (intOf i).toNat)
     case atStart=>exact⟨0,by omega,(fun x hx=>by cases hx),rfl⟩
     case round =>
      obtain⟨k,hkl,hno,rfl⟩:=hrel;have HN:=Hd hno;clear hno;by_cases hgo:∃ h:k<L.length,lowB p L[k]=true
      ·obtain⟨hlt,hlow⟩:=hgo;obtain⟨bb,o,hix,-,hce⟩:=HR.out.at (P:=Tryz.prog) Tryz.underlying37 (by kernel_rfl) k (by simpa using hlt)
       have e0:w1.cell? ⟨bb,o,none⟩=some (str L[k].1):=hce 0 _ (by simp)
       have HN2:Hid (∀ x∈L.take (k+1),lowB p x=true):=Hd (by
        intro x hx;rw[List.take_succ_eq_append_getElem hlt] at hx;rcases List.mem_append.1 hx with h | h
        ·exact HN.out x h
        ·rw[List.mem_singleton.1 h]; exact hlow)
       clear hce HN;unfold lowB at hlow;go_wp2
       go_round
       case rel=>exact⟨k+1,by omega,HN2.out,by go_num⟩
       case measure=>simp[intOf]; omega
      ·have hins:=insS_at (b:=b) HN.out (fun h=>by
        cases hc:lowB p L[k] with
        | false=>rfl
        | true=>exact absurd ⟨h,hc⟩ hgo)
       have hsz1:=HB1.out.size;have hrb1:rb<w1.heap.size:=zab HH1.out.blk;have F1:Hid (∀ (k:Nat) (v5:Value) (w5:World),k≤L.length→w5.ownsRow w1.heap.size 39 2 v5 (0+((L.map zam).take k).length) ([]++((L.map zam).take k).flatten)→w1.grownBy w5 (Value.slice none 0 0).ownBlock →
         Below w1.heap.size w1 w5∧w5.ownsRow w1.heap.size 39 2 v5 k (((L.map zam).take k).flatten)):=Hd (by
        intro k v5 w5 hk ho hg5;refine⟨(Below.refl _ w1).grown hg5 (Nat.le_refl _) (fun r hr=>by cases hr),?_⟩
        rw[List.length_take,List.length_map,Nat.min_eq_left hk,Nat.zero_add,List.nil_append] at ho;exact ho)
       have F2:Hid (∀ (xs:List Value) (n:Nat) (v5:Value) (w5:World) (_:Value) (w6:World),Below w1.heap.size w1 w5→w5.ownsRow w1.heap.size 39 2 v5 n xs→(w5.alloc (.cells #[str p,str b] 39)).grownBy w6 v5.ownBlock→Below w1.heap.size w1 w6):=Hd (by
        intro xs n v5 w5 v6 w6 hb5 ho5 hg6;exact (hb5.alloc hb5.size _).grown hg6 (by have:=hb5.size; simp; omega) (fun r hr=>za5 ho5 hr))
       have F3:Hid (∀ (k:Nat) (v6:Value) (w6:World) (v7:Value) (w7:World),k≤L.length→insS p b L=L.take k++(p,b)::L.drop k→Below w1.heap.size w1 w6→(∀ r,v6.ownBlock=some r→w1.heap.size≤r) →
         w7.ownsRow w1.heap.size 39 2 v7 (k+1+((L.map zam).drop k).length) ((((L.map zam).take k).flatten++zam (p,b))++((L.map zam).drop k).flatten)→w6.grownBy w7 v6.ownBlock →
         Below w1.heap.size w1 w7∧w7.ownsRow w1.heap.size 39 2 v7 (insS p b L).length (zav (insS p b L))∧∃ ao n' c',v7=.slice ao n' c'):=Hd (by
        intro k v6 w6 v7 w7 hk hins hb6 hv6 ho7 hg7;refine⟨hb6.grown hg7 hb6.size (fun r hr=>hv6 r hr),?_,?_⟩
        ·rw[hins];have e:zav (L.take k++(p,b)::L.drop k)=(((L.map zam).take k).flatten++zam (p,b))++((L.map zam).drop k).flatten:=by
          simp[zav,List.map_take,List.map_drop]
         rw[e,show (L.take k++(p,b)::L.drop k).length=k+1+((L.map zam).drop k).length by simp; omega]
         exact ho7
        ·rcases ho7.2 with ⟨hv,_⟩ |⟨g,cap,cur,hv,_⟩
         ·exact⟨_,_,_,hv⟩
         ·exact⟨_,_,_,hv⟩)
       have FIN:Hid (∀ (v7:Value) (w7:World),Below w1.heap.size w1 w7→w7.ownsRow w1.heap.size 39 2 v7 (insS p b L).length (zav (insS p b L)) →
         ∃ lv',RTAt base (w7.setCell ⟨rb,0,none⟩ v7) rb lv' (zh9 p b L)∧Fr w.heap.size (fun k=>k=rb∨(Value.slice ao L.length cap).ownBlock=some k) w (w7.setCell ⟨rb,0,none⟩ v7)∧(∀ k,lv'.ownBlock=some k→(Value.slice ao L.length cap).ownBlock=some k∨w.heap.size≤k)):=Hd (by
        intro v7 w7 hb7 ho7;rw[E1.out.2];have h7:=(hb7.block _ hrb1).trans HH1.out.blk;have hF:Fr w7.heap.size (fun k=>k=rb) w7 (w7.setCell ⟨rb,0,none⟩ v7):=Fr.setCell (S:=fun k=>k=rb) (p:=⟨rb,0,none⟩) (.refl _ _ _) (fun _=>rfl) _;refine⟨v7,⟨(Kf.heap_setCell_same h7 _).trans rfl,zaj (zaf ho7 hF (fun k hk=>⟨(ho7.lt k hk).2,fun e=>?_⟩)) (by omega),fun e=>?_⟩,Fr.setCell (p:=⟨rb,0,none⟩) (Fr.of_below (HB1.out.trans (hb7.mono hsz1))) (fun _=>Or.inl rfl) _,fun k hk=>Or.inr (by have:=za5 ho7 hk; omega)⟩
        ·have:=za5 ho7 hk; omega
        ·have:=za5 ho7 e; omega)
       by_cases hlt:k<L.length
       ·have hlow:Op.bytesLess L[k].1 p=false:=by
         cases hc:Op.bytesLess L[k].1 p with
         | false=>rfl
         | true=>exact absurd ⟨hlt,hc⟩ hgo
        obtain⟨x,rfl⟩:∃ x,ao=some x:=by
         cases ao with
         | none=>have:=(HS1.out rfl).1; omega
         | some x=>exact⟨x,rfl⟩
        obtain⟨⟨g,rfl⟩,hcl,hcm⟩:=HS2.out x rfl;obtain⟨bb,o,hix,-,hce⟩:=HR.out.at (P:=Tryz.prog) Tryz.underlying37 (by kernel_rfl) k (by simpa using hlt)
        have e0:w1.cell? ⟨bb,o,none⟩=some (str L[k].1):=hce 0 _ (by simp)
        have HINS:=Hd hins;have hgl:g<w1.heap.size:=by have:=HLV.out g rfl; omega
        have hck:¬ cap=k:=by omega
        clear hce HN hgo hins;go_wp2_with (first
         |(at_builtin
           refine za6 _ rfl (.tmp 94) (.tmp 100) 37 rfl tyFiles w1.heap.size _ 0 [] rfl (World.ownsRow_nil _ _ _ _) ((L.map zam).take k) ⟨g,0,none⟩ k cap rfl (HR.out.pre k cap (by omega)) (fun r hr=>zbk r (List.mem_of_mem_take hr)) (by decide) (by rw[List.length_take,List.length_map]; omega) (Nat.le_refl _) ?_
           intro v5 w5 ho5 hg5 hloc5;obtain⟨hb5,ho5'⟩:=F1.out k v5 w5 (by omega) ho5 hg5
           have hz5:=hb5.size;have HB5:=Hd hb5;have HO5:=Hd ho5';clear hb5 ho5' ho5 hg5 hloc5)
         |(at_builtin
           refine zbs _ rfl (.tmp 102) (.tmp 106) 37 rfl tyFiles w1.heap.size v5 k _ rfl (HO5.out.alloc _) ⟨w5.heap.size,0,none⟩ 1 1 (zam (p,b)) rfl rfl (zcm w5 (zam (p,b)) _) ?_ (by decide) ?_ ?_ ?_
           ·intro u hu; simp at hu; rcases hu with rfl | rfl <;> rfl
           ·omega
           ·simp; omega
           intro v6 w6 ho6 hg6 hloc6;have hb6:=F2.out _ _ v5 w5 v6 w6 HB5.out HO5.out hg6;have h6:=(hb6.block _ hrb1).trans HH1.out.blk;have d6:w6.cell? ⟨rb,0,none⟩=some (.slice (some ⟨g,0,none⟩) L.length cap):=(cell_of_heap h6 0).trans rfl;have hz6:=hb6.size;have HB6:=Hd hb6;have HO6:=Hd ho6;clear hb6 h6 ho6 hg6 hloc6)
         |(at_builtin
           refine za6 _ rfl (.tmp 109) (.tmp 115) 37 rfl tyFiles w1.heap.size v6 (k+1) _ rfl HO6.out ((L.map zam).drop k) ⟨g,_,none⟩ (L.length - k) _ rfl (by have:=(HR.out.below HB6.out (fun r hr=>by cases hr; exact hgl)).suf k (cap - k) (by omega); simpa using this) (fun r hr=>zbk r (List.mem_of_mem_drop hr)) (by decide) (by rw[List.length_drop,List.length_map]; omega) hz6 ?_
           intro v7 w7 ho7 hg7 hloc7;obtain⟨hb7,ho7',ao7,n7,c7,rfl⟩:=F3.out k v6 w6 v7 w7 (by omega) HINS.out HB6.out (fun r hr=>za5 HO6.out hr) ho7 hg7
           have h7:=(hb7.block _ hrb1).trans HH1.out.blk;have d7:w7.cell? ⟨rb,0,none⟩=some (.slice (some ⟨g,0,none⟩) L.length cap):=(cell_of_heap h7 0).trans rfl;have f7:w7.frozen? ⟨rb,0,none⟩=false:=zal h7 0;have HB7:=Hd hb7;have HO7:=Hd ho7';clear hb7 ho7' h7 ho7 hg7 hloc7))
        go_ret
        rw[E1.out.1];exact⟨rfl,FIN.out _ _ HB7.out HO7.out⟩
       ·obtain rfl:k=L.length:=by omega
        have HINS:=Hd hins;clear hgo hins;cases ao with
        | none =>
         obtain⟨hl0,rfl⟩:=HS1.out rfl;obtain rfl:L=[]:=List.length_eq_zero_iff.1 hl0;have hins0:insS p b []=[(p,b)]:=by rw[HINS.out]; rfl
         have HI0:=Hd hins0;obtain⟨i0,hi0,-,-,-⟩:=info_parts tyFiles.info;clear HN hins0 hl0;go_wp2_with (first
          |(at_builtin
            refine wpList_append_own_none rfl (.tmp 94) (.tmp 100) 37 rfl w1.heap.size 39 i0 2 tyFiles.und hi0 _ 0 [] rfl (World.ownsRow_nil _ _ _ _) rfl ?_)
          |(at_builtin
            refine zbs _ rfl (.tmp 102) (.tmp 106) 37 rfl tyFiles w1.heap.size _ 0 [] rfl (World.ownsRow_nil _ _ _ _) ⟨w1.heap.size,0,none⟩ 1 1 (zam (p,b)) rfl rfl (zcm w1 (zam (p,b)) _) ?_ (by decide) ?_ ?_ ?_
            ·intro u hu; simp at hu; rcases hu with rfl | rfl <;> rfl
            ·omega
            ·simp
            intro v6 w6 ho6 hg6 hloc6;have hb6:=F2.out [] 0 (.slice none 0 0) w1 v6 w6 (Below.refl _ _) (World.ownsRow_nil _ _ _ _) hg6;have h6:=(hb6.block _ hrb1).trans HH1.out.blk;have d6:w6.cell? ⟨rb,0,none⟩=some (.slice none 0 0):=(cell_of_heap h6 0).trans rfl;have f6:w6.frozen? ⟨rb,0,none⟩=false:=zal h6 0;obtain⟨ao6,n6,c6,rfl⟩:∃ ao n' c',v6=.slice ao n' c':=by
             rcases ho6.2 with ⟨hv,_⟩ |⟨g,cap,cur,hv,_⟩
             ·exact⟨_,_,_,hv⟩
             ·exact⟨_,_,_,hv⟩
            have HB6:=Hd hb6;have HO6:=Hd ho6;clear hb6 h6 ho6 hg6 hloc6)
          |(at_builtin
            refine wpList_append_own_none rfl (.tmp 109) (.tmp 115) 37 rfl w1.heap.size 39 i0 2 tyFiles.und hi0 _ _ _ rfl HO6.out rfl ?_))
         go_ret
         rw[E1.out.1];exact⟨rfl,FIN.out _ _ HB6.out (by rw[HI0.out]; simpa[zav] using HO6.out)⟩
        | some x =>
         obtain⟨⟨g,rfl⟩,hcl,hcm⟩:=HS2.out x rfl;have hgl:g<w1.heap.size:=by have:=HLV.out g rfl; omega
         have hd0:(L.map zam).drop L.length=[]:=List.drop_eq_nil_of_le (by simp)
         have HD0:=Hd hd0;clear HN hd0;by_cases hck:cap=L.length
         ·subst hck;go_wp2_with (first
           |(at_builtin
             refine za6 _ rfl (.tmp 94) (.tmp 100) 37 rfl tyFiles w1.heap.size _ 0 [] rfl (World.ownsRow_nil _ _ _ _) ((L.map zam).take L.length) ⟨g,0,none⟩ L.length L.length rfl (HR.out.pre L.length L.length (by omega)) (fun r hr=>zbk r (List.mem_of_mem_take hr)) (by decide) (by rw[List.length_take,List.length_map]; omega) (Nat.le_refl _) ?_
             intro v5 w5 ho5 hg5 hloc5;obtain⟨hb5,ho5'⟩:=F1.out L.length v5 w5 (by omega) ho5 hg5
             have hz5:=hb5.size;have HB5:=Hd hb5;have HO5:=Hd ho5';clear hb5 ho5' ho5 hg5 hloc5)
           |(at_builtin
             refine zbs _ rfl (.tmp 102) (.tmp 106) 37 rfl tyFiles w1.heap.size v5 L.length _ rfl (HO5.out.alloc _) ⟨w5.heap.size,0,none⟩ 1 1 (zam (p,b)) rfl rfl (zcm w5 (zam (p,b)) _) ?_ (by decide) ?_ ?_ ?_
             ·intro u hu; simp at hu; rcases hu with rfl | rfl <;> rfl
             ·omega
             ·simp; omega
             intro v6 w6 ho6 hg6 hloc6;have hb6:=F2.out _ _ v5 w5 v6 w6 HB5.out HO5.out hg6;have h6:=(hb6.block _ hrb1).trans HH1.out.blk;have d6:w6.cell? ⟨rb,0,none⟩=some (.slice (some ⟨g,0,none⟩) L.length L.length):=(cell_of_heap h6 0).trans rfl;have hz6:=hb6.size;have HB6:=Hd hb6;have HO6:=Hd ho6;clear hb6 h6 ho6 hg6 hloc6)
           |(at_builtin
             refine za6 _ rfl (.tmp 109) (.tmp 115) 37 rfl tyFiles w1.heap.size v6 (L.length+1) _ rfl HO6.out ((L.map zam).drop L.length) ⟨g,_,none⟩ 0 _ rfl (by rw[HD0.out]; exact ReadsK.nil _ _ _ _) (fun r hr=>zbk r (List.mem_of_mem_drop hr)) (by decide) (by rw[List.length_drop,List.length_map]; omega) hz6 ?_
             intro v7 w7 ho7 hg7 hloc7;obtain⟨hb7,ho7',ao7,n7,c7,rfl⟩:=F3.out L.length v6 w6 v7 w7 (by omega) HINS.out HB6.out (fun r hr=>za5 HO6.out hr) ho7 hg7
             have h7:=(hb7.block _ hrb1).trans HH1.out.blk;have d7:w7.cell? ⟨rb,0,none⟩=some (.slice (some ⟨g,0,none⟩) L.length L.length):=(cell_of_heap h7 0).trans rfl;have f7:w7.frozen? ⟨rb,0,none⟩=false:=zal h7 0;have HB7:=Hd hb7;have HO7:=Hd ho7';clear hb7 ho7' h7 ho7 hg7 hloc7))
          go_ret
          rw[E1.out.1];exact⟨rfl,FIN.out _ _ HB7.out HO7.out⟩
         ·skip
          go_wp2_with (first
           |(at_builtin
             refine za6 _ rfl (.tmp 94) (.tmp 100) 37 rfl tyFiles w1.heap.size _ 0 [] rfl (World.ownsRow_nil _ _ _ _) ((L.map zam).take L.length) ⟨g,0,none⟩ L.length cap rfl (HR.out.pre L.length cap (by omega)) (fun r hr=>zbk r (List.mem_of_mem_take hr)) (by decide) (by rw[List.length_take,List.length_map]; omega) (Nat.le_refl _) ?_
             intro v5 w5 ho5 hg5 hloc5;obtain⟨hb5,ho5'⟩:=F1.out L.length v5 w5 (by omega) ho5 hg5
             have hz5:=hb5.size;have HB5:=Hd hb5;have HO5:=Hd ho5';clear hb5 ho5' ho5 hg5 hloc5)
           |(at_builtin
             refine zbs _ rfl (.tmp 102) (.tmp 106) 37 rfl tyFiles w1.heap.size v5 L.length _ rfl (HO5.out.alloc _) ⟨w5.heap.size,0,none⟩ 1 1 (zam (p,b)) rfl rfl (zcm w5 (zam (p,b)) _) ?_ (by decide) ?_ ?_ ?_
             ·intro u hu; simp at hu; rcases hu with rfl | rfl <;> rfl
             ·omega
             ·simp; omega
             intro v6 w6 ho6 hg6 hloc6;have hb6:=F2.out _ _ v5 w5 v6 w6 HB5.out HO5.out hg6;have h6:=(hb6.block _ hrb1).trans HH1.out.blk;have d6:w6.cell? ⟨rb,0,none⟩=some (.slice (some ⟨g,0,none⟩) L.length cap):=(cell_of_heap h6 0).trans rfl;have hz6:=hb6.size;have HB6:=Hd hb6;have HO6:=Hd ho6;clear hb6 h6 ho6 hg6 hloc6)
           |(at_builtin
             refine za6 _ rfl (.tmp 109) (.tmp 115) 37 rfl tyFiles w1.heap.size v6 (L.length+1) _ rfl HO6.out ((L.map zam).drop L.length) ⟨g,_,none⟩ 0 _ rfl (by rw[HD0.out]; exact ReadsK.nil _ _ _ _) (fun r hr=>zbk r (List.mem_of_mem_drop hr)) (by decide) (by rw[List.length_drop,List.length_map]; omega) hz6 ?_
             intro v7 w7 ho7 hg7 hloc7;obtain⟨hb7,ho7',ao7,n7,c7,rfl⟩:=F3.out L.length v6 w6 v7 w7 (by omega) HINS.out HB6.out (fun r hr=>za5 HO6.out hr) ho7 hg7
             have h7:=(hb7.block _ hrb1).trans HH1.out.blk;have d7:w7.cell? ⟨rb,0,none⟩=some (.slice (some ⟨g,0,none⟩) L.length cap):=(cell_of_heap h7 0).trans rfl;have f7:w7.frozen? ⟨rb,0,none⟩=false:=zal h7 0;have HB7:=Hd hb7;have HO7:=Hd ho7';clear hb7 ho7' h7 ho7 hg7 hloc7))
          go_ret
          rw[E1.out.1];exact⟨rfl,FIN.out _ _ HB7.out HO7.out⟩
   | some v =>
    obtain⟨i,hpl,hi,-,-,hup⟩:=zc0 (L:=L) (p:=p) (by rw[hk]; rfl)
    have hf:zdb p L=(i:Int):=by unfold zdb; rw[hpl]
    rw[hf] at K2;have K2:=Hd K2;have E1:Hid (putC p b L=0∧zh9 p b L=L.set i (p,b)):=Hd (by
     have e1:putC p b L=0:=by rw[HQ.out,HCL.out,hk]; simp
     exact⟨e1,by unfold zh9; rw[if_pos e1,if_pos (by rw[hk]; rfl),hup]⟩)
    obtain⟨x,rfl⟩:∃ x,ao=some x:=by
     cases ao with
     | none=>have:=(HS1.out rfl).1; omega
     | some x=>exact⟨x,rfl⟩
    obtain⟨⟨g,rfl⟩,hcl,hcm⟩:=HS2.out x rfl;obtain⟨hix,hce⟩:=HR.out.at0 (P:=Tryz.prog) Tryz.underlying37 (by kernel_rfl) i (by simpa using hi)
    have e0:w1.cell? ⟨g,i*2,none⟩=some (str L[i].1):=hce 0 _ (by simp)
    have e1:w1.cell? ⟨g,i*2+1,none⟩=some (str L[i].2):=hce 1 _ (by simp)
    have hgh:∃ cur,w1.heap[g]? = some (.cells cur 39 (0,0)):=by
     rcases HH1.out.row.2 with ⟨e,-⟩ |⟨g',cap',cur,e,-,hh,-⟩
     ·cases e
     ·cases e; exact⟨_,hh⟩
    obtain⟨cur,hgh⟩:=hgh;have f0:w1.frozen? ⟨g,i*2,none⟩=false:=zal hgh _;have f1:w1.frozen? ⟨g,i*2+1,none⟩=false:=zal hgh _;have hgr:rb≠g:=fun e=>HH1.out.ne (by rw[e]; rfl)
    have HI:=Hd hi;clear hf hk hpl hup hce hgh;go_wp2_with fail
    refine K2.out.mono ?_
    rintro e w4 ⟨rfl,rfl⟩;go_wp2
    go_ret
    rw[E1.out.1,E1.out.2];have hF:Fr w1.heap.size (fun k=>k=rb∨(Value.slice (some ⟨g,0,none⟩) L.length cap).ownBlock=some k) w1 ((w1.setCell ⟨g,i*2,none⟩ (str p)).setCell ⟨g,i*2+1,none⟩ (str b)) :=
     Fr.setCell (p:=⟨g,i*2+1,none⟩) (Fr.setCell (p:=⟨g,i*2,none⟩) (.refl _ _ _) (fun _=>Or.inr rfl) _) (fun _=>Or.inr rfl) _
    refine⟨rfl,_,⟨?_,?_,HH1.out.ne⟩,(Fr.of_below HB1.out).trans (hF.mono HB1.out.size (fun _ _ h=>h)),fun k hk=>Or.inl hk⟩
    ·rw[Kf.heap_setCell_other (Kf.heap_setCell_other HH1.out.blk (p:=⟨g,i*2,none⟩) hgr _) (p:=⟨g,i*2+1,none⟩) hgr _]
    ·have:=zy6 HH1.out.row i (str p) (str b);rw[zhe p b L i HI.out] at this;rw[show (L.set i (p,b)).length=L.length by simp]
     exact this
open Go.Sort
abbrev ksOf (L:List Ent):List (List UInt8):=L.map Prod.fst
theorem lt_ne {a b:List UInt8} (h:a<b):a≠b:=fun e=>List.lt_irrefl a (by rw[← e] at h; exact h)
theorem zc7 {p v:List UInt8}:∀ {l:List Ent},(ksOf l).Nodup→(zaa p l=some v↔(p,v)∈l)
 | [],_=>by simp[zaa]
 | x::l,hd=>by
  have hd':x.1∉ksOf l∧(ksOf l).Nodup:=List.nodup_cons.1 hd;have ih:=zc7 (p:=p) (v:=v) hd'.2;unfold zaa;by_cases hx:x.1=p
  ·rw[if_pos hx]
   constructor
   ·intro h;obtain rfl:=Option.some.inj h;subst hx;exact List.mem_cons_self
   ·intro h;rcases List.mem_cons.1 h with h | h
    ·rw[← h]
    ·exact absurd (List.mem_map.2 ⟨_,h,hx.symm⟩) hd'.1
  ·rw[if_neg hx,ih]
   constructor
   ·exact fun h=>List.mem_cons_of_mem _ h
   ·intro h;rcases List.mem_cons.1 h with h | h
    ·exact absurd (by rw[← h]) hx
    ·exact h
theorem ztp {p:List UInt8} {m L:List Ent} (h:m.Perm L) (hd:(ksOf L).Nodup):zaa p m=zaa p L:=by
 have hd':(ksOf m).Nodup:=(h.map Prod.fst).nodup_iff.2 hd;cases hm:zaa p m with
 | some v=>exact ((zc7 hd).2 (h.mem_iff.1 ((zc7 hd').1 hm))).symm
 | none =>
  cases hL:zaa p L with
  | none=>rfl
  | some v =>
   have:=(zc7 hd').2 (h.mem_iff.2 ((zc7 hd).1 hL));rw[hm] at this; cases this
theorem zcj {p:List UInt8}:∀ {l:List Ent},(ksOf l).Nodup→mdel p l=l.filter (fun x=>decide (x.1≠p))
 | [],_=>rfl
 | x::l,hd=>by
  have hd':x.1∉ksOf l∧(ksOf l).Nodup:=List.nodup_cons.1 hd;unfold mdel;by_cases hx:x.1=p
  ·rw[if_pos hx,List.filter_cons_of_neg (by simpa using hx)]
   refine (List.filter_eq_self.2 fun y hy=>?_).symm
   have:y.1≠p:=fun e=>hd'.1 (by rw[hx,← e]; exact List.mem_map.2 ⟨y,hy,rfl⟩)
   simpa using this
  ·rw[if_neg hx,List.filter_cons_of_pos (by simpa using hx),zcj hd'.2]
theorem zos {p:List UInt8} {m L:List Ent} (h:m.Perm L) (hd:(ksOf L).Nodup):(mdel p m).Perm (mdel p L):=by
 rw[zcj hd,zcj ((h.map Prod.fst).nodup_iff.2 hd)];exact h.filter _
theorem zhf {p b:List UInt8}:∀ l:List Ent,(mupd p b l).Perm ((p,b)::mdel p l)
 | []=>.refl _
 | x::l=>by
  unfold mupd mdel;by_cases hx:x.1=p
  ·rw[if_pos hx,if_pos hx]
  ·rw[if_neg hx,if_neg hx];exact ((zhf l).cons x).trans (.swap _ _ _)
theorem zkc {p b:List UInt8}:∀ {l:List Ent},(zaa p l).isSome=true→ksOf (mupd p b l)=ksOf l
 | [],h=>by simp[zaa] at h
 | x::l,h=>by
  unfold zaa at h;unfold mupd;by_cases hx:x.1=p
  ·rw[if_pos hx]; simp[hx]
  ·rw[if_neg hx] at h ⊢;simp only[List.map_cons,zkc h]
theorem zkd {p b:List UInt8} (L:List Ent):(insS p b L).Perm ((p,b)::L):=by
 unfold insS;refine List.perm_middle.trans (.cons _ ?_)
 rw[List.takeWhile_append_dropWhile]
theorem zwq {p b:List UInt8} (x:Ent) (L:List Ent):insS p b (x::L)=if Op.bytesLess x.1 p=true then x::insS p b L else (p,b)::x::L:=by
 unfold insS;by_cases h:Op.bytesLess x.1 p=true
 ·simp[h]
 ·simp[h]
theorem zke {p b:List UInt8}:∀ {L:List Ent},(ksOf L).Pairwise (· < ·)→p∉ksOf L→(ksOf (insS p b L)).Pairwise (· < ·)
 | [],_,_=>by simp[insS]
 | x::L,h,hn=>by
  have h':=List.pairwise_cons.1 h;simp only[List.map_cons,List.mem_cons,not_or] at hn;rw[zwq];by_cases hx:Op.bytesLess x.1 p=true
  ·rw[if_pos hx];rw[bytesLess_eq,decide_eq_true_eq] at hx;refine List.pairwise_cons.2 ⟨fun y hy=>?_,zke h'.2 hn.2⟩
   obtain⟨z,hz,rfl⟩:=List.mem_map.1 hy;rcases List.mem_cons.1 ((zkd L).mem_iff.1 hz) with rfl | hz
   ·exact hx
   ·exact h'.1 _ (List.mem_map.2 ⟨z,hz,rfl⟩)
  ·rw[if_neg hx];rw[bytesLess_eq,decide_eq_true_eq] at hx;have hpx:p<x.1:=by
    rcases List.le_iff_lt_or_eq.1 (List.not_lt.1 hx) with h | h
    ·exact h
    ·exact absurd h hn.1
   refine List.pairwise_cons.2 ⟨fun y hy=>?_,h⟩
   rcases List.mem_cons.1 hy with rfl | hy
   ·exact hpx
   ·exact List.lt_trans hpx (h'.1 _ hy)
structure Tw (m L:List Ent):Prop where
 perm:m.Perm L
 sort:(ksOf L).Pairwise (· < ·)
 many:m.length≤60
 path:∀ x∈L,zaq x.1=true∧x.1.length≤100∧x.2.length≤2000
section
variable {m L : List Ent} {p b : List UInt8}
theorem Tw.nodup (h:Tw m L):(ksOf L).Nodup:=h.sort.imp lt_ne
theorem Tw.nodup' (h:Tw m L):(ksOf m).Nodup:=(h.perm.map Prod.fst).nodup_iff.2 h.nodup
theorem Tw.len (h:Tw m L):m.length=L.length:=h.perm.length_eq
theorem Tw.look (h:Tw m L) (p:List UInt8):zaa p m=zaa p L:=ztp h.perm h.nodup
theorem Tw.init:Tw [] []:=⟨.refl _, .nil,by decide,fun x hx=>by cases hx⟩
theorem Tw.clash (h:Tw m L) (p:List UInt8):clash p m=clash p L:=by
 unfold Go.Proofs.YtgjialbmlhbngaaGreatDoor.clash;rw[Bool.eq_iff_iff,List.any_eq_true,List.any_eq_true];exact⟨fun ⟨x,hx,hc⟩=>⟨x,h.perm.mem_iff.1 hx,hc⟩,fun ⟨x,hx,hc⟩=>⟨x,h.perm.mem_iff.2 hx,hc⟩⟩
theorem Tw.putC (h:Tw m L) (p b:List UInt8):putC p b m=putC p b L:=by
 unfold Go.Proofs.YtgjialbmlhbngaaGreatDoor.putC;rw[h.clash,h.look,h.len]
theorem Tw.removeC (h:Tw m L) (p:List UInt8):removeC p m=removeC p L:=by
 unfold Go.Proofs.YtgjialbmlhbngaaGreatDoor.removeC;rw[h.look]
theorem zwr (h:zaa p L=none):p∉ksOf L:=fun hm=>by
 have:=zh6 hm;rw[h] at this; cases this
theorem Tw.put (h:Tw m L) (hp:p.length≤100):Tw (putM p b m) (zh9 p b L):=by
 unfold putM zh9;rw[h.putC];by_cases hc:Go.Proofs.YtgjialbmlhbngaaGreatDoor.putC p b L=0
 ·rw[if_pos hc,if_pos hc];have hpath:zaq p=true∧b.length≤2000∧((zaa p L).isSome=false→L.length<60):=by
   unfold Go.Proofs.YtgjialbmlhbngaaGreatDoor.putC at hc;by_cases h1:zaq p=false
   ·rw[if_pos h1] at hc; cases hc
   ·rw[if_neg h1] at hc;by_cases h2:2000<b.length
    ·rw[if_pos h2] at hc; cases hc
    ·rw[if_neg h2] at hc;by_cases h3:Go.Proofs.YtgjialbmlhbngaaGreatDoor.clash p L=true
     ·rw[if_pos h3] at hc; cases hc
     ·rw[if_neg h3] at hc;refine⟨by simpa using h1,by omega,fun h4=>?_⟩
      by_cases h5:60≤L.length
      ·rw[if_pos ⟨h4,h5⟩] at hc; cases hc
      ·omega
  have hpm:(mupd p b m).Perm ((p,b)::mdel p L):=(zhf m).trans ((zos h.perm h.nodup).cons _);by_cases hs:(zaa p L).isSome=true
  ·rw[if_pos hs];refine⟨hpm.trans (zhf L).symm,by rw[zkc hs]; exact h.sort,?_,fun x hx=>?_⟩
   ·have:=zkc (b:=b) (show (zaa p m).isSome=true by rw[h.look]; exact hs)
    have:=congrArg List.length this;simp only[List.length_map] at this;rw[this]; exact h.many
   ·rcases List.mem_cons.1 ((zhf L).mem_iff.1 hx) with rfl | hx
    ·exact⟨hpath.1,hp,hpath.2.1⟩
    ·rw[zcj h.nodup] at hx;exact h.path x (List.mem_filter.1 hx).1
  ·rw[if_neg hs];have hn:zaa p L=none:=by cases hk:zaa p L with
    | none=>rfl
    | some v=>rw[hk] at hs; exact absurd rfl hs
   have hdl:mdel p L=L:=zdj hn;rw[hdl] at hpm;refine⟨hpm.trans (zkd L).symm,zke h.sort (zwr hn),?_,fun x hx=>?_⟩
   ·rw[hpm.length_eq,List.length_cons];exact hpath.2.2 (by rw[hn]; rfl)
   ·rcases List.mem_cons.1 ((zkd L).mem_iff.1 hx) with rfl | hx
    ·exact⟨hpath.1,hp,hpath.2.1⟩
    ·exact h.path x hx
 ·rw[if_neg hc,if_neg hc]; exact h
theorem Tw.del (h:Tw m L) (p:List UInt8):Tw (mdel p m) (mdel p L):=by
 refine⟨zos h.perm h.nodup,?_,?_,fun x hx=>?_⟩
 ·rw[zcj h.nodup];exact h.sort.sublist ((List.filter_sublist).map _)
 ·rw[zcj h.nodup'];exact Nat.le_trans (List.length_filter_le _ _) h.many
 ·rw[zcj h.nodup] at hx;exact h.path x (List.mem_filter.1 hx).1
theorem Tw.keys (h:Tw m L):zdu m=ksOf L:=by
 unfold zdu;rw[mergeSort_of_perm (h.perm.map Prod.fst)];exact List.mergeSort_of_pairwise (h.sort.imp fun hlt=>by simpa[leB] using List.le_of_lt hlt)
theorem Tw.get (h:Tw m L) {x:Ent} (hx:x∈L):mget m x.1=x.2:=by
 unfold mget;rw[h.look,(zc7 (v:=x.2) h.nodup).2 hx]; rfl
theorem Tw.lines (h:Tw m L):zcv m (zdu m)=zcw L:=by
 rw[h.keys];unfold zcv zcw;rw[List.map_map]
 congr 1
 exact List.map_congr_left fun x hx=>by simp only[Function.comp_apply,h.get hx]
end
open Go.Proofs
end Go.Proofs.YtgjialbmlhbngaaGreatDoor
