/-
  The reference's RuleOf at a line that is a rule with no escapes: it reads the rule. The reference's SheetOf at a text whose lines are right rules with no escapes: it reads them. The sheet to play with: the program's, and the reference's. The reference's SameRules at rules that are alike.
-/
import Derived.Test.YtgjialbmlhbngaaGreatDoorPkL
import Derived.Test.YtgjialbmlhbngaaGreatDoorPkG
import Derived.Test.YtgjialbmlhbngaaGreatDoorPkC
import Derived.Test.YtgjialbmlhbngaaGreatDoorYdB
import Derived.Deep.RegionLaw
import Derived.Test.YtgjialbmlhbngaaGreatDoorPkI
import Derived.Test.YtgjialbmlhbngaaGreatDoorPkH
import Derived.Test.YtgjialbmlhbngaaGreatDoorPkT
import Derived.Test.YtgjialbmlhbngaaGreatDoorYdC
import Derived.Test.YtgjialbmlhbngaaGreatDoorPkA
import Derived.Deep.RegionHeld3

set_option maxRecDepth 100000
namespace Go.Proofs.YtgjialbmlhbngaaGreatDoor
open Go Go.RowKit Go.Kf Go.Sort Go.Proofs
abbrev eqW:List UInt8:=[32,61,32]
structure LineAt (s:List UInt8) (r:RuleL) (a b:Nat):Prop where
 ab:a+3≤b
 len:b+1<s.length
 no:∀ j,j<a→hasB s j eqW=false
 yes:hasB s a eqW=true
 kd:∀ j (h:j<s.length),a+3≤j→j<b→s[j]≠32
 stop:∀ h:b<s.length,s[b]=32
 out:r.out=s.take a
 kind:r.kind=(s.drop (a+3)).take (b - (a+3))
 ins:[]∉r.ins
def LineW (s:List UInt8) (r:RuleL) (b:Nat):Prop :=
 ((∀ h:b+1<s.length,s[b+1]≠34)∧r.word=[]∧r.ins=spl 32 (s.drop (b+1))) ∨
 ((∀ h:b+1<s.length,s[b+1]=34)∧∃ e,b+2<e∧e+1<s.length∧(∀ j (h:j<s.length),b+2≤j→j<e→s[j]≠34∧s[j]≠92)∧(∀ h:e<s.length,s[e]=34)∧(∀ h:e+1<s.length,s[e+1]=32)∧r.word=(s.drop (b+2)).take (e - (b+2))∧r.ins=spl 32 (s.drop (e+2)))
abbrev zhp (o k d v:Value):Obj:=.cells #[o,k,d,v] 35 (0,0)
theorem zr3 {l:List (List UInt8)} {s:List UInt8} (h:s∉l):idxL s l = -1:=zn5 (fun _ hj e=>h (e▸List.getElem_mem hj))
theorem zhq {w:World} {g:Nat} {o k d v:Value} (h:w.heap[g]? = some (zhp o k d v)):(∀ x,(w.setCell ⟨g,1,none⟩ x).heap[g]? = some (zhp o x d v))∧(∀ x,(w.setCell ⟨g,2,none⟩ x).heap[g]? = some (zhp o k x v))∧∀ x,(w.setCell ⟨g,3,none⟩ x).heap[g]? = some (zhp o k d x) :=
 ⟨fun x=>(Kf.heap_setCell_same h x).trans rfl,fun x=>(Kf.heap_setCell_same h x).trans rfl,fun x=>(Kf.heap_setCell_same h x).trans rfl⟩
theorem zxh:(Tryz.prog.info? 35).map (·.size)=some 4:=by kernel_rfl
theorem zpd {fn:Func} {p q:Tmp} (h:fn.results=#[.cell p 35, .tmp q]) (tmps:Array Value) (w:World) (g:Nat) (a b c d:Value)
  (hp:tmps.getD p undef=.pointer (some ⟨g,0,none⟩)) (hg:w.heap[g]? = some (zhp a b c d)):(results fn tmps).run Tryz.prog w=.ok (.tuple #[.agg #[a,b,c,d],tmps.getD q undef]) w :=
 ze2 h tmps w g _ _ _ _ hp hg Tryz.underlying35 rfl zxh
def RoSt (w:World) (g0 g:Nat) (o k d:List UInt8) (wl:World):Prop:=wl.heap[g0]? = some (zhp (str []) (str []) (str []) (.slice none 0 0))∧wl.heap[g]? = some (zhp (str o) (str k) (str d) (.slice none 0 0))∧Below w.heap.size w wl
theorem RoSt.one {w wl:World} {g0 g:Nat} {o k d:List UInt8} (h:RoSt w g0 g o k d wl) (hg:g0<g) (hw:w.heap.size≤g) (x:List UInt8):RoSt w g0 g o x d ((wl.setCell ⟨g,1,none⟩ (str x)).drew):=by
 obtain⟨h1,h2,h3⟩:=h;exact⟨((Fr.setCell (S:=fun k=>k=g) (p:=⟨g,1,none⟩) (Fr.refl wl.heap.size _ wl) (fun _=>rfl) _).block g0 (zab h1) (by omega)).trans h1,(zhq h2).1 _,(h3.setCell (p:=⟨g,1,none⟩) hw _).drew⟩
theorem RoSt.two {w wl:World} {g0 g:Nat} {o k d:List UInt8} (h:RoSt w g0 g o k d wl) (hg:g0<g) (hw:w.heap.size≤g) (x:List UInt8):RoSt w g0 g o k x ((wl.setCell ⟨g,2,none⟩ (str x)).drew):=by
 obtain⟨h1,h2,h3⟩:=h;exact⟨((Fr.setCell (S:=fun k=>k=g) (p:=⟨g,2,none⟩) (Fr.refl wl.heap.size _ wl) (fun _=>rfl) _).block g0 (zab h1) (by omega)).trans h1,(zhq h2).2.1 _,(h3.setCell (p:=⟨g,2,none⟩) hw _).drew⟩
set_option maxHeartbeats 4000000 in
theorem zqx (s:List UInt8) (r:RuleL) (a b:Nat) (w:World) (h:LineAt s r a b) (hw:LineW s r b) (hs:s.length≤10000) :
  Calls Tryz.prog 187 #[str s] w fun e w'=>∃ v,e=.returned (.tuple #[.agg #[str r.out,str r.kind,str r.word,v], .bool true])∧w'.ownsRow w.heap.size 9 1 v r.ins.length (r.ins.map str)∧Below w.heap.size w w':=by
 have H:=Hd h;have HW:=Hd hw;have hab:=h.ab;have hlen:=h.len;obtain⟨g0,hg0⟩:∃ g,g=w.heap.size:=⟨_,rfl⟩;obtain⟨W1,hW1⟩:∃ W,w.alloc (.cells #[str [],str [],str [], .slice none 0 0] 35)=W:=⟨_,rfl⟩;have hA1:Below w.heap.size w W1:=hW1▸(Below.refl _ w).alloc (Nat.le_refl _) _;have hb1:W1.heap[g0]? = some (zhp (str []) (str []) (str []) (.slice none 0 0)):=by rw[hg0]; exact hW1▸heap_alloc_here w _
 have hz1:W1.heap.size=w.heap.size+1:=by rw[← hW1]; simp
 obtain⟨g,hg⟩:∃ g,g=W1.heap.size:=⟨_,rfl⟩;have HW1:=Hd hW1;have HA1:=Hd hA1;have HB1:=Hd hb1;have HZ1:=Hd hz1;have HG:=Hd hg;have HG0:=Hd hg0;have hex0:(⟨s.toArray⟩:ByteArray).extract 0 a=⟨r.out.toArray⟩:=by rw[h.out,za4 s 0 a,List.drop_zero,Nat.sub_zero]
 clear h hw hW1 hA1 hb1 hz1 hg hg0;go_enter Tryz.func187,Tryz.ntmps187
 go_wp2_with fail
 rw[← HG0.out,HW1.out]
 go_loopw [4] (fun iv wl=>∃ i:Nat,i≤a∧iv=.int .i64 i∧wl=W1) (fun iv _=>a - (intOf iv).toNat)
 case atStart=>exact⟨0,by omega,rfl,rfl⟩
 case round =>
  obtain⟨i,hia,rfl,rfl⟩:=hrel;have hil:((i:Int)<(s.length:Int))=True:=eq_true (by omega)
  have KH:=Hd (zqf s eqW i wr (by omega) (by omega) (by decide))
  by_cases hlt:i<a
  ·rw[H.out.no i hlt] at KH;go_wp2_with fail
   refine KH.out.mono ?_
   rintro e w2 ⟨rfl,rfl⟩;go_wp2
   go_roundw
   case rel=>exact⟨i+1,by omega,by go_num,trivial⟩
   case measure=>simp[intOf]; omega
  ·obtain rfl:i=a:=by omega
   rw[H.out.yes] at KH;go_wp2_with fail
   refine KH.out.mono ?_
   rintro e w2 ⟨rfl,rfl⟩;have hge:((s.length:Int)≤(i:Int))=False:=eq_false (by omega)
   obtain⟨W2,hW2⟩:∃ W,wr.alloc (.cells #[str r.out,str [],str [], .slice none 0 0] 35)=W:=⟨_,rfl⟩;have hA2:Below wr.heap.size wr W2:=hW2▸(Below.refl _ wr).alloc (Nat.le_refl _) _;have hb2:W2.heap[g]? = some (zhp (str r.out) (str []) (str []) (.slice none 0 0)):=by rw[HG.out]; exact hW2▸heap_alloc_here wr _
   have HW2:=Hd hW2;have HR2:Hid (RoSt w g0 g r.out [] [] W2):=Hd ⟨(hA2.block _ (zab HB1.out)).trans HB1.out,hb2,HA1.out.trans (hA2.mono HA1.out.size)⟩;have hgg:g0<g:=by rw[HG0.out,HG.out,HZ1.out]; omega
   clear hA2 hb2 hW2 KH;go_wp2_with fail
   rw[← HG.out,HW2.out]
   go_loopw [4] (fun iv wl=>∃ j:Nat,i+3≤j∧j≤b∧iv=.int .i64 j∧RoSt w g0 g r.out ((s.drop (i+3)).take (j - (i+3))) [] wl) (fun iv _=>b - (intOf iv).toNat)
   case atStart=>exact⟨i+3,by omega,by omega,by go_num,by rw[Nat.sub_self,List.take_zero]; exact HR2.out⟩
   case round =>
    obtain⟨j,hj1,hj2,rfl,hst⟩:=hrel;have hjl:j<s.length:=by omega
    have hjc:((j:Int)<(s.length:Int))=True:=eq_true (by omega)
    obtain⟨x,hx⟩:∃ x,s[j]=x:=⟨_,rfl⟩;have hidx:∀ h,(⟨s.toArray⟩:ByteArray)[j]'h=x:=fun _=>hx;have HC:=Hd hst;by_cases hjb:j<b
    ·have hx32:x≠32:=hx▸H.out.kd j hjl hj1 hjb;have hd:((x.toNat:Int)==32)=false:=by
      rw[show (32:Int)=((32:UInt8).toNat:Int) from rfl,Kf.u8_eq];simpa using hx32
     have hd2:((x.toNat:Int)=32)=False:=eq_false (by simpa using hd)
     have hps:=zmp hj1 hjl;have hexj:(⟨s.toArray⟩:ByteArray).extract j (j+1)=⟨([x]:List UInt8).toArray⟩:=by
      rw[za4 s j (j+1),show j+1 - j=1 by omega,List.drop_eq_getElem_cons hjl,hx]; rfl
     rw[hx] at hps;have hkl:((s.drop (i+3)).take (j - (i+3))).length≤10000:=by rw[List.length_take,List.length_drop]; omega
     generalize (s.drop (i+3)).take (j - (i+3))=kd at *;have hkb:¬ 9223372036854775807<kd.length+1:=by omega
     have happ:(⟨kd.toArray⟩:ByteArray)++(⟨([x]:List UInt8).toArray⟩:ByteArray)=⟨(kd++[x]).toArray⟩:=zar _ _;obtain⟨⟨d0,d1,d2,d3⟩,f0,f1,f2,f3⟩:=zbc hst.2.1;have hw1:IntKind.i64.wrap ((j:Int)+1)=(j:Int)+1:=IntWalk.i64_in _ (by omega)
     have ht1:((j:Int)+1).toNat=j+1:=by omega
     have hle1:(j:Int)+1≤(s.length:Int):=by omega
     have hz0:(0:Int)≤(j:Int)+1:=by omega
     have hjj:(j:Int)≤(j:Int)+1:=by omega
     have HPS:=Hd hps;have HX:=Hd (HC.out.one hgg (by rw[HG.out,HZ1.out]; omega) (kd++[x]))
     clear hx hst hps;go_wp2_with fail
     go_region_law (fail)
     all_goals
      go_wp2
      go_roundw
      case rel=>exact⟨j+1,by omega,by omega,by go_num,by rw[HPS.out]; exact HX.out⟩
      case measure=>simp[intOf]; omega
    ·obtain rfl:j=b:=by omega
     have hx32:x=32:=hx▸H.out.stop hjl;subst hx32;have hst2:=hst;rw[← H.out.kind] at hst2;have HS2:=Hd hst2;have hw1:IntKind.i64.wrap ((j:Int)+1)=(j:Int)+1:=IntWalk.i64_in _ (by omega)
     have hj1c:((j:Int)+1<(s.length:Int))=True:=eq_true (by omega)
     have ht1:((j:Int)+1).toNat=j+1:=by omega
     have hz0:(0:Int)≤(j:Int)+1:=by omega
     clear hst hst2 HC HR2;rcases HW.out with ⟨hno,hwd,hin⟩ |⟨hyes,e,he1,he2,hin,hq,hsp,hwd,hins⟩
     case' inl =>
      obtain⟨y,hy⟩:∃ y,s[j+1]=y:=⟨_,rfl⟩;have hidy:∀ h,(⟨s.toArray⟩:ByteArray)[j+1]'h=y:=fun _=>hy;have hy34:y≠34:=hy▸hno hlen;have hd:((y.toNat:Int)==34)=false:=by
       rw[show (34:Int)=((34:UInt8).toNat:Int) from rfl,Kf.u8_eq];simpa using hy34
      have hd2:((y.toNat:Int)=34)=False:=eq_false (by simpa using hd)
      clear hno hy34 hy;have HFS:Hid (RoSt w g0 g r.out r.kind r.word wr):=Hd (by rw[hwd]; exact HS2.out)
      have hexx:(⟨s.toArray⟩:ByteArray).extract (j+1) s.length=⟨(s.drop (j+1)).toArray⟩:=by
       rw[za4 s (j+1) s.length,List.take_of_length_le (by rw[List.length_drop]; exact Nat.le_refl _)]
      have KCUT:=Hd (ze9 (s.drop (j+1)) 32 wr (by rw[List.length_drop]; omega))
      have hlj:((s.length:Int)≤(j:Int))=False:=eq_false (by omega)
      have hlj2:(j:Int)+1≤(s.length:Int):=by omega
      have hzw:w.heap.size≤g:=by rw[HG.out,HZ1.out]; omega
      rw[← hin] at KCUT;clear hin hwd;generalize s.drop (j+1)=t at *;go_wp2_with fail
      refine KCUT.out.mono ?_
      rintro e w6 ⟨v,rfl,hown,hb6⟩;obtain⟨av,cv,hv,-,-⟩:=id (zac hown);rw[List.length_map] at hv;subst hv;have hc6:=(hb6.block _ (zab HFS.out.2.1)).trans HFS.out.2.1;have hc60:=(hb6.block _ (zab HFS.out.1)).trans HFS.out.1;obtain⟨⟨d0,d1,d2,d3⟩,f0,f1,f2,f3⟩:=zbc hc6;obtain⟨W7,hW7⟩:∃ W,w6.setCell ⟨g,3,none⟩ (.slice av r.ins.length cv)=W:=⟨_,rfl⟩;have hf67:Fr w6.heap.size (fun k=>k=g) w6 W7:=hW7▸Fr.setCell (S:=fun k=>k=g) (p:=⟨g,3,none⟩) (Fr.refl w6.heap.size _ w6) (fun _=>rfl) _;have hgl:=zab HFS.out.2.1;have hrow7:W7.ownsRow wr.heap.size 9 1 (.slice av r.ins.length cv) r.ins.length (r.ins.map str):=zaf hown hf67 (fun k hk=>⟨(hown.lt k hk).2,fun e=>by have:=(hown.lt k hk).1; omega⟩)
      have hg7:W7.heap[g]? = some (zhp (str r.out) (str r.kind) (str r.word) (.slice av r.ins.length cv)):=hW7▸(zhq hc6).2.2 _;have hg70:W7.heap[g0]? = some (zhp (str []) (str []) (str []) (.slice none 0 0)):=(hf67.block _ (zab hc60) (by omega)).trans hc60
      have HB7:Hid (Below w.heap.size w W7):=Hd (hW7▸(HFS.out.2.2.trans (hb6.mono HFS.out.2.2.size)).setCell (p:=⟨g,3,none⟩) hzw _);have hg0w:w.heap.size≤g0:=by rw[HG0.out]; exact Nat.le_refl _
      have KI:=Hd (fun wl (hf:Fr W7.heap.size (fun k=>k=g0) W7 wl)=>zfx [] r.ins (.slice av r.ins.length cv) wl (zac (zaf hrow7 hf (fun k hk=>⟨(hrow7.lt k hk).2,fun e=>by have:=(hrow7.lt k hk).1; omega⟩))))
      rw[zr3 H.out.ins] at KI;have HRW:=Hd hrow7;have HG7:=Hd hg7;have HG70:=Hd hg70;have HW7:=Hd hW7;clear hown hb6 hc6 hc60 hf67 hrow7 hW7;go_wp2_with fail
      rw[HW7.out];clear d0 d1 d2 d3 f0 f1 f2 f3;obtain⟨⟨d0,d1,d2,d3⟩,f0,f1,f2,f3⟩:=zbc hg7;obtain⟨⟨e0,e1,e2,e3⟩,k0,k1,k2,k3⟩:=zbc hg70;clear hg7 hg70;have hput:=zft HG70.out (str r.out) (str r.kind) (str r.word) (.slice av r.ins.length cv);have hfe:∀ (x y z u:Value),Fr W7.heap.size (fun k=>k=g0) W7 ((((W7.setCell ⟨g0,0,none⟩ x).setCell ⟨g0,1,none⟩ y).setCell ⟨g0,2,none⟩ z).setCell ⟨g0,3,none⟩ u).drew:=fun x y z u =>
       (Fr.setCell (S:=fun k=>k=g0) (p:=⟨g0,3,none⟩) (Fr.setCell (S:=fun k=>k=g0) (p:=⟨g0,2,none⟩) (Fr.setCell (S:=fun k=>k=g0) (p:=⟨g0,1,none⟩) (Fr.setCell (S:=fun k=>k=g0) (p:=⟨g0,0,none⟩) (Fr.refl W7.heap.size _ W7) (fun _=>rfl) _) (fun _=>rfl) _) (fun _=>rfl) _) (fun _=>rfl) _).drew
      have HFE:=Hd hfe;have HPU:=Hd hput;have hwz:=HFS.out.2.2.size;clear hput hfe;have HG0L:=Hd (zab HFS.out.1)
      go_region_law (first
       |(go_simp
         go_at_call 64
         refine (KI.out _ ?_).mono ?_
         ·first | exact Fr.refl _ _ _ | exact (Fr.refl _ _ _).drew
         rintro e w8 ⟨rfl,e8⟩;have e9:=e8.symm;subst e9;clear e8))
      all_goals
       go_wp2
       refine bodyPost_ret (zpd rfl _ _ g0 _ _ _ _ rfl HPU.out) rfl ?_
       exact⟨_,rfl,zaj (zaf HRW.out (HFE.out _ _ _ _) (fun k hk=>⟨(HRW.out.lt k hk).2,fun e=>by have:=(HRW.out.lt k hk).1; have:=HG0L.out; omega⟩)) hwz,HB7.out.trans (((HFE.out _ _ _ _).mono HB7.out.size (fun _ _ h=>h)).below (fun k hk e=>by omega))⟩
     case' inr =>
      have hidy:∀ h,(⟨s.toArray⟩:ByteArray)[j+1]'h=34:=fun _=>hyes hlen;have hw2:IntKind.i64.wrap ((j:Int)+2)=(j:Int)+2:=IntWalk.i64_in _ (by omega)
      have HEW:=Hd ((⟨hin,hq,hsp,hwd,hins⟩:(∀ n (h:n<s.length),j+2≤n→n<e→s[n]≠34∧s[n]≠92)∧(∀ h:e<s.length,s[e]=34)∧(∀ h:e+1<s.length,s[e+1]=32)∧r.word=(s.drop (j+2)).take (e - (j+2))∧r.ins=spl 32 (s.drop (e+2))));clear hyes hin hq hsp hwd hins;go_wp2_with fail
      go_loopw [4] (fun iv wl=>∃ n:Nat,j+2≤n∧n≤e∧iv=.int .i64 n∧RoSt w g0 g r.out r.kind ((s.drop (j+2)).take (n - (j+2))) wl) (fun iv _=>e - (intOf iv).toNat)
      case atStart=>exact⟨j+2,by omega,by omega,by go_num,by rw[Nat.sub_self,List.take_zero]; exact HS2.out⟩
      case round =>
       clear hidy hw2 hidx hw1 hj1c ht1 hz0;obtain⟨n,hn1,hn2,rfl,hst⟩:=hrel;have hnl:n<s.length:=by omega
       have hnc:((n:Int)<(s.length:Int))=True:=eq_true (by omega)
       obtain⟨x,hx⟩:∃ x,s[n]=x:=⟨_,rfl⟩;have hidx:∀ h,(⟨s.toArray⟩:ByteArray)[n]'h=x:=fun _=>hx;have HC:=Hd hst;by_cases hne:n<e
       ·obtain⟨hx34,hx92⟩:=HEW.out.1 n hnl hn1 hne;rw[hx] at hx34 hx92;have hd:((x.toNat:Int)==34)=false:=by
         rw[show (34:Int)=((34:UInt8).toNat:Int) from rfl,Kf.u8_eq];simpa using hx34
        have hd2:((x.toNat:Int)=34)=False:=eq_false (by simpa using hd)
        have hd3:((x.toNat:Int)==92)=false:=by
         rw[show (92:Int)=((92:UInt8).toNat:Int) from rfl,Kf.u8_eq];simpa using hx92
        have hd4:((x.toNat:Int)=92)=False:=eq_false (by simpa using hd3)
        have hps:=zmp hn1 hnl;have hexj:(⟨s.toArray⟩:ByteArray).extract n (n+1)=⟨([x]:List UInt8).toArray⟩:=by
         rw[za4 s n (n+1),show n+1 - n=1 by omega,List.drop_eq_getElem_cons hnl,hx]; rfl
        rw[hx] at hps;have hkl:((s.drop (j+2)).take (n - (j+2))).length≤10000:=by rw[List.length_take,List.length_drop]; omega
        generalize (s.drop (j+2)).take (n - (j+2))=wd at *;have hkb:¬ 9223372036854775807<wd.length+1:=by omega
        have happ:(⟨wd.toArray⟩:ByteArray)++(⟨([x]:List UInt8).toArray⟩:ByteArray)=⟨(wd++[x]).toArray⟩:=zar _ _;obtain⟨⟨d0,d1,d2,d3⟩,f0,f1,f2,f3⟩:=zbc hst.2.1;have hw1:IntKind.i64.wrap ((n:Int)+1)=(n:Int)+1:=IntWalk.i64_in _ (by omega)
        have ht1:((n:Int)+1).toNat=n+1:=by omega
        have hle1:(n:Int)+1≤(s.length:Int):=by omega
        have hz0:(0:Int)≤(n:Int)+1:=by omega
        have hjj:(n:Int)≤(n:Int)+1:=by omega
        have HPS:=Hd hps;have HX:=Hd (HC.out.two hgg (by rw[HG.out,HZ1.out]; omega) (wd++[x]))
        clear hx hst hps hx34 hx92;go_wp2_with fail
        go_region_law (fail)
        all_goals
         go_wp2
         go_roundw
         case rel=>exact⟨n+1,by omega,by omega,by go_num,by rw[HPS.out]; exact HX.out⟩
         case measure=>simp[intOf]; omega
       ·obtain rfl:n=e:=by omega
        have hx34:x=34:=hx▸HEW.out.2.1 hnl;subst hx34;have hsw:=hst;rw[← HEW.out.2.2.2.1] at hsw;have HSW:=Hd hsw;have hwl:r.word.length=n - (j+2):=by rw[HEW.out.2.2.2.1,List.length_take,List.length_drop]; omega
        have hwne:r.word≠[]:=fun e=>by rw[e] at hwl; simp at hwl; omega
        have hwn:(r.word==[])=false:=by simpa using hwne
        obtain⟨⟨d0,d1,d2,d3⟩,f0,f1,f2,f3⟩:=zbc hsw.2.1;have hge2:((s.length:Int)≤(n:Int))=False:=eq_false (by omega)
        obtain⟨q,hq⟩:∃ q,q=n+1:=⟨_,rfl⟩;have hqe:(n:Int)+1=(q:Int):=by omega
        have hql:q<s.length:=by omega
        have hidq:∀ h,(⟨s.toArray⟩:ByteArray)[q]'h=32:=fun _=>by
         have:=HEW.out.2.2.1 (by omega)
         simp only[← hq] at this;exact this
        have hin:r.ins=spl 32 (s.drop (q+1)):=by rw[HEW.out.2.2.2.2,hq]
        have hwq:IntKind.i64.wrap ((q:Int)+1)=(q:Int)+1:=IntWalk.i64_in _ (by omega)
        have htq:((q:Int)+1).toNat=q+1:=by omega
        have hzq:(0:Int)≤(q:Int)+1:=by omega
        have HQ:=Hd hq;have hwd:True:=trivial;clear hst hsw hwl hwne hx HC hq;have HFS:Hid (RoSt w g0 g r.out r.kind r.word wr):=Hd HSW.out;have hexx:(⟨s.toArray⟩:ByteArray).extract (q+1) s.length=⟨(s.drop (q+1)).toArray⟩:=by
         rw[za4 s (q+1) s.length,List.take_of_length_le (by rw[List.length_drop]; exact Nat.le_refl _)]
        have KCUT:=Hd (ze9 (s.drop (q+1)) 32 wr (by rw[List.length_drop]; omega))
        have hlj:((s.length:Int)≤(q:Int))=False:=eq_false (by omega)
        have hlj2:(q:Int)+1≤(s.length:Int):=by omega
        have hzw:w.heap.size≤g:=by rw[HG.out,HZ1.out]; omega
        rw[← hin] at KCUT;clear hin hwd;generalize s.drop (q+1)=t at *;go_wp2_with fail
        refine KCUT.out.mono ?_
        rintro e w6 ⟨v,rfl,hown,hb6⟩;obtain⟨av,cv,hv,-,-⟩:=id (zac hown);rw[List.length_map] at hv;subst hv;have hc6:=(hb6.block _ (zab HFS.out.2.1)).trans HFS.out.2.1;have hc60:=(hb6.block _ (zab HFS.out.1)).trans HFS.out.1;obtain⟨⟨d0,d1,d2,d3⟩,f0,f1,f2,f3⟩:=zbc hc6;obtain⟨W7,hW7⟩:∃ W,w6.setCell ⟨g,3,none⟩ (.slice av r.ins.length cv)=W:=⟨_,rfl⟩;have hf67:Fr w6.heap.size (fun k=>k=g) w6 W7:=hW7▸Fr.setCell (S:=fun k=>k=g) (p:=⟨g,3,none⟩) (Fr.refl w6.heap.size _ w6) (fun _=>rfl) _;have hgl:=zab HFS.out.2.1;have hrow7:W7.ownsRow wr.heap.size 9 1 (.slice av r.ins.length cv) r.ins.length (r.ins.map str):=zaf hown hf67 (fun k hk=>⟨(hown.lt k hk).2,fun e=>by have:=(hown.lt k hk).1; omega⟩)
        have hg7:W7.heap[g]? = some (zhp (str r.out) (str r.kind) (str r.word) (.slice av r.ins.length cv)):=hW7▸(zhq hc6).2.2 _;have hg70:W7.heap[g0]? = some (zhp (str []) (str []) (str []) (.slice none 0 0)):=(hf67.block _ (zab hc60) (by omega)).trans hc60
        have HB7:Hid (Below w.heap.size w W7):=Hd (hW7▸(HFS.out.2.2.trans (hb6.mono HFS.out.2.2.size)).setCell (p:=⟨g,3,none⟩) hzw _);have hg0w:w.heap.size≤g0:=by rw[HG0.out]; exact Nat.le_refl _
        have KI:=Hd (fun wl (hf:Fr W7.heap.size (fun k=>k=g0) W7 wl)=>zfx [] r.ins (.slice av r.ins.length cv) wl (zac (zaf hrow7 hf (fun k hk=>⟨(hrow7.lt k hk).2,fun e=>by have:=(hrow7.lt k hk).1; omega⟩))))
        rw[zr3 H.out.ins] at KI;have HRW:=Hd hrow7;have HG7:=Hd hg7;have HG70:=Hd hg70;have HW7:=Hd hW7;clear hown hb6 hc6 hc60 hf67 hrow7 hW7;go_wp2_with fail
        rw[HW7.out];clear d0 d1 d2 d3 f0 f1 f2 f3;obtain⟨⟨d0,d1,d2,d3⟩,f0,f1,f2,f3⟩:=zbc hg7;obtain⟨⟨e0,e1,e2,e3⟩,k0,k1,k2,k3⟩:=zbc hg70;clear hg7 hg70;have hput:=zft HG70.out (str r.out) (str r.kind) (str r.word) (.slice av r.ins.length cv);have hfe:∀ (x y z u:Value),Fr W7.heap.size (fun k=>k=g0) W7 ((((W7.setCell ⟨g0,0,none⟩ x).setCell ⟨g0,1,none⟩ y).setCell ⟨g0,2,none⟩ z).setCell ⟨g0,3,none⟩ u).drew:=fun x y z u =>
         (Fr.setCell (S:=fun k=>k=g0) (p:=⟨g0,3,none⟩) (Fr.setCell (S:=fun k=>k=g0) (p:=⟨g0,2,none⟩) (Fr.setCell (S:=fun k=>k=g0) (p:=⟨g0,1,none⟩) (Fr.setCell (S:=fun k=>k=g0) (p:=⟨g0,0,none⟩) (Fr.refl W7.heap.size _ W7) (fun _=>rfl) _) (fun _=>rfl) _) (fun _=>rfl) _) (fun _=>rfl) _).drew
        have HFE:=Hd hfe;have HPU:=Hd hput;have hwz:=HFS.out.2.2.size;clear hput hfe;have HG0L:=Hd (zab HFS.out.1)
        go_region_law (first
         |(go_simp
           go_at_call 64
           refine (KI.out _ ?_).mono ?_
           ·first | exact Fr.refl _ _ _ | exact (Fr.refl _ _ _).drew
           rintro e w8 ⟨rfl,e8⟩;have e9:=e8.symm;subst e9;clear e8))
        all_goals
         go_wp2
         refine bodyPost_ret (zpd rfl _ _ g0 _ _ _ _ rfl HPU.out) rfl ?_
         exact⟨_,rfl,zaj (zaf HRW.out (HFE.out _ _ _ _) (fun k hk=>⟨(HRW.out.lt k hk).2,fun e=>by have:=(HRW.out.lt k hk).1; have:=HG0L.out; omega⟩)) hwz,HB7.out.trans (((HFE.out _ _ _ _).mono HB7.out.size (fun _ _ h=>h)).below (fun k hk e=>by omega))⟩
structure LineOk (x:List UInt8×RuleL×Nat×Nat):Prop where
 at_:LineAt x.1 x.2.1 x.2.2.1 x.2.2.2
 word:LineW x.1 x.2.1 x.2.2.2
 len:x.1.length≤10000
theorem zma {fn:Func} {p q:Tmp} (h:fn.results=#[.tmp q, .cell p 71]) (tmps:Array Value) (w:World) (g:Nat) (a b:Value)
  (hp:tmps.getD p undef=.pointer (some ⟨g,0,none⟩)) (hg:w.heap[g]? = some (.cells #[a,b] 71 (0,0))):(results fn tmps).run Tryz.prog w=.ok (.tuple #[tmps.getD q undef, .agg #[a,b]]) w:=by
 have hp':tmps[p]?.getD undef=.pointer (some ⟨g,0,none⟩):=by simpa using hp
 simp[results,h,hp',asAddr,run_loadVar_row w g 71 71 #[a,b] (0,0) _ hg Tryz.underlying71 rfl zlw]
set_option maxHeartbeats 4000000 in
theorem zt4 (s:List UInt8) (L:List (List UInt8×RuleL×Nat×Nat)) (w:World) (hs:s.length≤10000) (hsp:spl 10 s=L.map Prod.fst++[[]]) (hL:∀ x∈L,LineOk x) (hR:zbq (L.map fun x=>x.2.1)) (hn:L.length≤40)
  (hb:∀ x∈L,x.2.1.out.length≤1000000∧x.2.1.word.length≤100000∧(∀ s∈x.2.1.ins,s.length≤1000000)∧x.2.1.ins.length≤1000) :
  Calls Tryz.prog 132 #[str s] w fun e w'=>∃ v R,e=.returned (.tuple #[v,zdz 0 (-1)])∧R.map Prod.fst=L.map (fun x=>x.2.1)∧OwnAt w.heap.size w' v R∧Below w.heap.size w w':=by
 obtain⟨W1,hW1⟩:∃ W,w.alloc (.cells #[.int .i64 0, .int .i64 0] 71)=W:=⟨_,rfl⟩;have hA1:Below w.heap.size w W1:=hW1▸(Below.refl _ w).alloc (Nat.le_refl _) _;have hg1:W1.heap[w.heap.size]? = some (.cells #[.int .i64 0, .int .i64 0] 71 (0,0)):=hW1▸heap_alloc_here w _;have hz1:W1.heap.size=w.heap.size+1:=by rw[← hW1]; simp
 have KCUT:=Hd (ze9 s 10 W1 (by omega))
 rw[hsp] at KCUT;have HW1:=Hd hW1;have HA1:=Hd hA1;have HG1:=Hd hg1;have HZ1:=Hd hz1;have HL:=Hd hL;have HR:=Hd hR;have HBD:=Hd hb;have hsl:((s.length:Int) > 10000)=False:=eq_false (by omega)
 have hsl2:(10000<(s.length:Int))=False:=eq_false (by omega)
 clear hW1 hA1 hg1 hz1 hL hR hb hsp;go_enter Tryz.func132,Tryz.ntmps132
 go_wp2_with fail
 rw[HW1.out];refine KCUT.out.mono ?_
 rintro e w2 ⟨vl,rfl,hown,hb2⟩;obtain⟨al,cl,hvl,-,-⟩:=id (zac hown);rw[List.length_map,List.length_append,List.length_map,List.length_singleton] at hvl;subst hvl;have HROW:=Hd (zac hown);have HB2:=Hd hb2;have HZ2:=Hd (Nat.le_trans HA1.out.size hb2.size);clear hown hb2 KCUT;go_wp2_with fail
 go_loopw [5,6] (fun ov iv wl=>∃ (i:Nat) (A:List RV),i≤L.length∧iv=.int .i64 i∧A.map Prod.fst=(L.take i).map (fun x=>x.2.1)∧OwnAt w2.heap.size wl ov A∧Below w2.heap.size w2 wl) (fun _ iv _=>L.length - (intOf iv).toNat)
 case atStart=>exact⟨0,[],by omega,rfl,rfl,⟨World.ownsRow_nil _ _ _ _,fun x hx=>by cases hx⟩,Below.refl _ _⟩
 case round =>
  obtain⟨i,A,hi,rfl,hfst,hown,hbi⟩:=hrel;have HF:=Hd hfst;have HO:=Hd hown;have HBi:=Hd hbi;have hzi:=hbi.size;have hlA:A.length=i:=by
   have:=congrArg List.length hfst;rw[List.length_map,List.length_map,List.length_take] at this;omega
  have hil:((i:Int)<((L.length+1:Nat):Int))=True:=eq_true (by omega)
  have hil2:((i:Int)<(L.length:Int)+1)=True:=eq_true (by omega)
  have hwl:IntKind.i64.wrap ((L.length:Int)+1 - 1)=(L.length:Int):=by rw[show (L.length:Int)+1 - 1=(L.length:Int) by omega]; exact IntWalk.i64_in _ (by omega)
  clear hfst hown;by_cases hlt:i<L.length
  ·have hne:((i:Int)==(L.length:Int))=false:=by simp; omega
   have hne2:((i:Int)=(L.length:Int))=False:=eq_false (by omega)
   obtain⟨b,o,hix,hce⟩:=(HROW.out.below0 hbi).at (P:=Tryz.prog) Tryz.underlying33 (by kernel_rfl) i (by simp; omega)
   simp only[List.getElem_map] at hce;rw[List.getElem_append_left (by simpa using hlt),List.getElem_map] at hce
   have KR:=Hd (zqx L[i].1 L[i].2.1 L[i].2.2.1 L[i].2.2.2 wr (HL.out _ (List.getElem_mem hlt)).at_ (HL.out _ (List.getElem_mem hlt)).word (HL.out _ (List.getElem_mem hlt)).len);have HTK:Hid (∀ u',(A++[(L[i].2.1,u')]).map Prod.fst=(L.take (i+1)).map (fun x=>x.2.1)):=Hd (fun u'=>by
    rw[List.take_succ_eq_append_getElem hlt,List.map_append,List.map_append,HF.out];rfl)
   have hln:L[i].2.1.ins.length≤1000:=(HBD.out _ (List.getElem_mem hlt)).2.2.2;generalize L[i]=x at *;obtain⟨t,r,a',b'⟩:=x;simp only at hce KR HTK hln;go_wp2_with fail
   refine KR.out.mono ?_
   rintro e w3 ⟨u,rfl,hou,hb3⟩;obtain⟨au,cu,hu2,-,-⟩:=id (zac hou);rw[List.length_map] at hu2;subst hu2;have HOU:=Hd hou;have HB3:=Hd hb3;have hA3:∀ ob,Below w3.heap.size w3 (w3.alloc ob):=fun ob=>(Below.refl _ w3).alloc (Nat.le_refl _) _;obtain⟨W4,hW4⟩:∃ W,w3.alloc (.cells #[str r.out,str r.kind,str r.word, .slice au r.ins.length cu] 35)=W:=⟨_,rfl⟩;have hb4:Below w3.heap.size w3 W4:=hW4▸hA3 _;have hg4:W4.heap[w3.heap.size]? = some (zhp (str r.out) (str r.kind) (str r.word) (.slice au r.ins.length cu)):=hW4▸heap_alloc_here w3 _;obtain⟨⟨d0,d1,d2,d3⟩,-⟩:=zbc hg4;have HO4:=Hd ((HO.out.fr hb3).fr hb4);have HL4:=Hd (HBi.out.trans ((hb3.trans (hb4.mono hb3.size)).mono hzi));have hz4:=HL4.out.size;have HU4:=Hd (zaj (zb7 hou hb4) hzi);have HUN:Hid (∀ k,(Value.slice au r.ins.length cu).ownBlock=some k→u5.ownBlock≠some k):=Hd (fun k hk e=>by
    have h1:=(hou.lt k hk).1;have h2:=(HO.out.1.lt k e).2;omega)
   rw[← hW4] at d0 d1 d2 d3;have HW4:=Hd hW4;clear hou hb3 hb4 hg4 hW4 hA3 KR;have HO3:=Hd (HO4.out);have hzw3:w2.heap.size≤w3.heap.size:=Nat.le_trans hzi HB3.out.size;go_wp2_with (first
    |(at_builtin
      refine zbs _ rfl (.tmp 46) (.tmp 48) 22 rfl tyRules w2.heap.size u5 _ _ rfl (by rw[HW4.out]; exact HO4.out.1.alloc _) ⟨w3.heap.size+1,0,none⟩ 1 1 [str r.out,str r.kind,str r.word, .slice au r.ins.length cu] rfl rfl ?_ ?_ (by decide) ?_ ?_ ?_
      ·intro j u hj;have h:=zcm (w3.alloc (.cells #[str r.out,str r.kind,str r.word, .slice au r.ins.length cu] 35)) [str r.out,str r.kind,str r.word, .slice au r.ins.length cu] 35 j u hj;simpa using h
      ·intro u hu; simp at hu; rcases hu with rfl | rfl | rfl | rfl <;> rfl
      ·omega
      ·simp; omega
      intro v5 w5 ho5 hg5 hloc5))
   have hb34:Below w3.heap.size w3 ((w3.alloc (.cells #[str r.out,str r.kind,str r.word, .slice au r.ins.length cu] 35)).alloc (.cells #[str r.out,str r.kind,str r.word, .slice au r.ins.length cu] 35)):=((Below.refl _ w3).alloc (Nat.le_refl _) _).alloc (by simp) _
   have HX5:Hid (∀ (x:Value) (n:Nat) (xs:List Value),w3.ownsRow w2.heap.size 9 1 x n xs→(∀ k,x.ownBlock=some k→u5.ownBlock≠some k)→w5.ownsRow w2.heap.size 9 1 x n xs∧∀ k,x.ownBlock=some k→v5.ownBlock≠some k):=Hd (fun x n xs hx hne=>by
    have hfr:=Fr.of_grown hg5;have hlt:∀ k,x.ownBlock=some k→k<w3.heap.size:=fun k hk=>(hx.lt k hk).2;refine⟨zaf (zb7 hx hb34) hfr (fun k hk=>⟨by have:=hlt k hk; simp; omega,hne k hk⟩),fun k hk e=>?_⟩
    rcases hloc5 with h | h
    ·rw[h] at e; exact hne k hk e
    ·rw[h] at e;have h1:=Option.some.inj e;have h2:=hlt k hk;simp at h1;omega)
   have HB5:Hid (Below w2.heap.size w2 w5):=Hd (((HBi.out.trans (HB3.out.mono hzi)).trans (hb34.mono hzw3)).grown hg5 (by simp; omega) (fun k hk=>(HO.out.1.lt k hk).1))
   have HO5:=Hd ho5;have HOW:=Hd (HO.out.fr HB3.out);have HUW:=Hd (zaj HOU.out hzi);clear ho5 hg5 hloc5 hb34;go_roundw
   case rel =>
    refine⟨i+1,A++[(r, .slice au r.ins.length cu)],by omega,by go_num,HTK.out _,⟨?_,fun x hx=>?_⟩,HB5.out⟩
    ·have h5:=HO5.out;rw[List.map_append,List.flatten_append,List.length_append];simpa[zay] using h5
    ·rcases List.mem_append.1 hx with hx | hx
     ·exact HX5.out _ _ _ (HOW.out.2 x hx).1 (HOW.out.2 x hx).2
     ·obtain rfl:=List.mem_singleton.1 hx;exact HX5.out _ _ _ HUW.out HUN.out
   case measure=>simp[intOf]; omega
  ·obtain rfl:i=L.length:=by omega
   have hee:((L.length:Int)==(L.length:Int))=true:=by simp
   obtain⟨b,o,hix,hce⟩:=(HROW.out.below0 hbi).at (P:=Tryz.prog) Tryz.underlying33 (by kernel_rfl) L.length (by simp)
   simp only[List.getElem_map] at hce;rw[List.getElem_append_right (by simp)] at hce
   simp only[List.length_map,Nat.sub_self,List.getElem_cons_zero] at hce;have hfa:A.map Prod.fst=L.map (fun x=>x.2.1):=by have:=HF.out; rwa [List.take_length] at this
   have HFA:=Hd hfa;obtain⟨av,cv,hv5,-⟩:=id HO.out.rules.1.1;rw[List.length_map,hlA] at hv5;subst hv5;have hrul:=HO.out.rules;have KSF:=Hd (zgb A (.slice av L.length cv) wr (hrul.1.1) (fun x hx=>(hrul.1.2 x hx).1) (fun x hx=>by
    have hm:x.1∈L.map (fun x=>x.2.1):=hfa▸List.mem_map.2 ⟨x,hx,rfl⟩;obtain⟨y,hy,e⟩:=List.mem_map.1 hm;rw[← e];exact HBD.out y hy))
   clear hrul hfa;go_wp2_with fail
   refine KSF.out.mono ?_
   rintro e w6 ⟨⟨c,p,hf,rfl⟩,hb6⟩;rw[HFA.out] at hf;have hzero:c=0∧p = -1:=by
    by_cases hc:c=0
    ·subst hc;exact⟨rfl,(zl0 hf).2⟩
    ·exact absurd HR.out (zow hf (by omega))
   obtain⟨rfl,rfl⟩:=hzero;obtain⟨W7,hW7⟩:∃ W,w6.alloc (.cells #[.int .i64 0, .int .i64 (-1)] 71)=W:=⟨_,rfl⟩;have hA7:Below w6.heap.size w6 W7:=hW7▸(Below.refl _ w6).alloc (Nat.le_refl _) _;have hg7:W7.heap[w6.heap.size]? = some (.cells #[.int .i64 0, .int .i64 (-1)] 71 (0,0)):=hW7▸heap_alloc_here w6 _;have hbW:Below w2.heap.size w2 W7:=HBi.out.trans ((hb6.trans (hA7.mono hb6.size)).mono hzi);have hg17:W7.heap[w.heap.size]? = some (.cells #[.int .i64 0, .int .i64 0] 71 (0,0)):=by
    have h1:=(HB2.out.block _ (zab HG1.out)).trans HG1.out;exact (hbW.block _ (zab h1)).trans h1
   have hne7:w.heap.size≠w6.heap.size:=by have:=HZ1.out; have:=HB2.out.size; have:=hb6.size; omega
   have HO7:=Hd ((HO.out.fr hb6).fr hA7);have HB7:=Hd (hbW);have HG7:=Hd hg7;have HG17:=Hd hg17;have HW7:=Hd hW7;clear hf hb6 hA7 hg7 hbW hg17 hW7 KSF;obtain⟨hcc,ff0,ff1⟩:=zax HG7.out;have q0:W7.cell? ⟨w6.heap.size,0,none⟩=some (.int .i64 0):=hcc 0;have q1:W7.cell? ⟨w6.heap.size,1,none⟩=some (.int .i64 (-1)):=hcc 1;obtain⟨hcd,gg0,gg1⟩:=zax HG17.out;have p0:W7.cell? ⟨w.heap.size,0,none⟩=some (.int .i64 0):=hcd 0;have p1:W7.cell? ⟨w.heap.size,1,none⟩=some (.int .i64 0):=hcd 1;clear hcc hcd;rw[← HW7.out] at q0 q1 p0 p1 ff0 ff1 gg0 gg1;unfold zdz;go_wp2_with fail
   rw[HW7.out] at q0 q1 p0 p1 ff0 ff1 gg0 gg1 ⊢;have HPU:=Hd (zb5 HG17.out (.int .i64 0) (.int .i64 (-1)));have HFE:Hid (∀ x y,Fr W7.heap.size (fun k=>k=w.heap.size) W7 ((W7.setCell ⟨w.heap.size,0,none⟩ x).setCell ⟨w.heap.size,1,none⟩ y).drew):=Hd (fun x y=>(Fr.setCell (S:=fun k=>k=w.heap.size) (p:=⟨w.heap.size,1,none⟩) (Fr.setCell (S:=fun k=>k=w.heap.size) (p:=⟨w.heap.size,0,none⟩) (Fr.refl W7.heap.size _ W7) (fun _=>rfl) _) (fun _=>rfl) _).drew);have HZ12:Hid (w.heap.size<w2.heap.size):=Hd (by have:=HZ1.out; have:=HB2.out.size; omega)
   go_region_law (fail)
   all_goals
    go_wp2
    refine bodyPost_ret (zma rfl _ _ w.heap.size _ _ rfl HPU.out) rfl ?_
    refine⟨_,A,rfl,HFA.out,?_,?_⟩
    ·have h1:=zkq HO7.out (HFE.out (.int .i64 0) (.int .i64 (-1))) (fun q hq=>⟨(zey HO7.out hq).2,fun e=>by have:=(zey HO7.out hq).1; have:=HZ12.out; omega⟩)
     exact zng h1 HZ2.out
    ·exact ((HA1.out.trans (HB2.out.mono HA1.out.size)).trans (HB7.out.mono HZ2.out)).trans (((HFE.out _ _).mono (by have:=HB7.out.size; have:=HZ2.out; omega) (fun _ _ h=>h)).below (fun k hk e=>by omega))
theorem zct {w:World} {g:Nat} {e:TypeId} {s n:Nat} {xs:List Value} {B:Nat} (h:w.heap[g]? = some (.cells xs.toArray e (0,0))) (hl:xs.length=n*s) (hn:n≤1000) (hB:B≤g):w.ownsRow B e s (.slice (some ⟨g,0,none⟩) n n) n xs :=
 ⟨hl,Or.inr ⟨g,n,xs.toArray,rfl,hB,h,Nat.le_refl _,by unfold maxLen; omega,by simpa using hl,by rw[List.take_of_length_le (by simp[hl])]⟩⟩
def playL:List RuleL:=[⟨[97,108,108],[106,111,105,110],[43],[[97,46,117,112],[98,46,117,112]]⟩,⟨[97,46,117,112],[117,112,112,101,114],[],[[97]]⟩,⟨[98,46,117,112],[117,112,112,101,114],[],[[98]]⟩,
 ⟨[115,114,116],[115,111,114,116],[],[[97],[98],[99]]⟩,⟨[99,110,116],[99,111,117,110,116],[],[[97,108,108],[115,114,116]]⟩,⟨[104,100],[104,101,97,100],[49],[[115,114,116]]⟩]
def zzs (z:Nat):List RV:=playL.zip [.slice (some ⟨z,0,none⟩) 2 2, .slice (some ⟨z+1,0,none⟩) 1 1, .slice (some ⟨z+1+1,0,none⟩) 1 1, .slice (some ⟨z+1+1+1,0,none⟩) 3 3, .slice (some ⟨z+1+1+1+1,0,none⟩) 2 2, .slice (some ⟨z+1+1+1+1+1,0,none⟩) 1 1]
theorem playL_right:zbq playL:=by
 refine⟨by decide,fun i r h=>?_⟩
 have h0:∀ i,i<6→zcy playL i (playL.getD i noR)=0:=by decide +kernel
 have hi:i<playL.length:=(List.getElem?_eq_some_iff.1 h).1;have:=h0 i hi
 rwa [zat hi,(List.getElem?_eq_some_iff.1 h).2] at this
theorem zfr:∃ o,zau (zae playL) (fun _=>true) playL.length=some o:=⟨[1,2,0,3,4,5],by decide +kernel⟩
theorem zfs:∀ (os:List Obj) (w:World),(os.foldl (fun w o=>w.alloc o) w).heap.size=w.heap.size+os.length∧(∀ i o,os[i]? = some o→(os.foldl (fun w o=>w.alloc o) w).heap[w.heap.size+i]? = some o)∧Below w.heap.size w (os.foldl (fun w o=>w.alloc o) w)
 | [],w=>⟨rfl,fun i o h=>(by cases h),Below.refl _ _⟩
 | o::os,w=>by
  obtain⟨h1,h2,h3⟩:=zfs os (w.alloc o);have hz:(w.alloc o).heap.size=w.heap.size+1:=by simp
  have hb:Below w.heap.size w (w.alloc o):=(Below.refl _ w).alloc (Nat.le_refl _) _;rw[hz] at h1 h2 h3;refine⟨by rw[List.foldl_cons,h1,List.length_cons]; omega,fun i q hq=>?_,hb.trans (h3.mono (by omega))⟩
  cases i with
  | zero =>
   cases hq
   exact (h3.block _ (by omega)).trans (heap_alloc_here w o)
  | succ i =>
   have:=h2 i q hq
   rwa [show w.heap.size+1+i=w.heap.size+(i+1) by omega] at this
def zzt (z:Nat):List Obj:=[.cells #[str [97,46,117,112],str [98,46,117,112]] 9, .cells #[str [97]] 9, .cells #[str [98]] 9, .cells #[str [97],str [98],str [99]] 9, .cells #[str [97,108,108],str [115,114,116]] 9, .cells #[str [115,114,116]] 9,
 .cells ((zzs z).map zay).flatten.toArray 35]
theorem zxi (w:World):OwnAt w.heap.size ((zzt w.heap.size).foldl (fun w o=>w.alloc o) w) (.slice (some ⟨w.heap.size+1+1+1+1+1+1,0,none⟩) 6 6) (zzs w.heap.size):=by
 obtain⟨-,h2,-⟩:=zfs (zzt w.heap.size) w;generalize hW:(zzt w.heap.size).foldl (fun w o=>w.alloc o) w=W at h2;clear hW;refine⟨zct (h2 6 _ rfl) rfl (by decide) (by omega),fun x hx=>?_⟩
 simp only[zzs,playL,List.zip_cons_cons,List.zip_nil_right,List.mem_cons,List.not_mem_nil,or_false] at hx;rcases hx with rfl | rfl | rfl | rfl | rfl | rfl
 ·exact⟨zct (h2 0 _ rfl) rfl (by decide) (by omega),fun k hk e=>by simp only[Value.ownBlock,Option.some.injEq] at hk e; omega⟩
 ·exact⟨zct (h2 1 _ rfl) rfl (by decide) (by omega),fun k hk e=>by simp only[Value.ownBlock,Option.some.injEq] at hk e; omega⟩
 ·exact⟨zct (h2 2 _ rfl) rfl (by decide) (by omega),fun k hk e=>by simp only[Value.ownBlock,Option.some.injEq] at hk e; omega⟩
 ·exact⟨zct (h2 3 _ rfl) rfl (by decide) (by omega),fun k hk e=>by simp only[Value.ownBlock,Option.some.injEq] at hk e; omega⟩
 ·exact⟨zct (h2 4 _ rfl) rfl (by decide) (by omega),fun k hk e=>by simp only[Value.ownBlock,Option.some.injEq] at hk e; omega⟩
 ·exact⟨zct (h2 5 _ rfl) rfl (by decide) (by omega),fun k hk e=>by simp only[Value.ownBlock,Option.some.injEq] at hk e; omega⟩
theorem zid (w:World):Calls Tryz.prog 117 #[] w fun e w'=>∃ v R,e=.returned v∧R.map Prod.fst=playL∧OwnAt w.heap.size w' v R∧Below w.heap.size w w':=by
 go_enter Tryz.func117,Tryz.ntmps117
 go_wp2
 go_ret
 exact⟨_,zzs w.heap.size,rfl,rfl,zxi w,(zfs (zzt w.heap.size) w).2.2⟩
def playT:List UInt8:=[97,108,108,32,61,32,106,111,105,110,32,34,43,34,32,97,46,117,112,32,98,46,117,112,10,97,46,117,112,32,61,32,117,112,112,101,114,32,97,10,98,46,117,112,32,61,32,117,112,112,101,114,32,98,10,115,114,116,32,61,32,115,111,114,116,32,97,32,98,32,99,10,
 99,110,116,32,61,32,99,111,117,110,116,32,97,108,108,32,115,114,116,10,104,100,32,61,32,104,101,97,100,32,34,49,34,32,115,114,116,10]
def playLines:List (List UInt8×RuleL×Nat×Nat):=[
 ([97,108,108,32,61,32,106,111,105,110,32,34,43,34,32,97,46,117,112,32,98,46,117,112],playL.getD 0 noR,3,10),
 ([97,46,117,112,32,61,32,117,112,112,101,114,32,97],playL.getD 1 noR,4,12),
 ([98,46,117,112,32,61,32,117,112,112,101,114,32,98],playL.getD 2 noR,4,12),
 ([115,114,116,32,61,32,115,111,114,116,32,97,32,98,32,99],playL.getD 3 noR,3,10),
 ([99,110,116,32,61,32,99,111,117,110,116,32,97,108,108,32,115,114,116],playL.getD 4 noR,3,11),
 ([104,100,32,61,32,104,101,97,100,32,34,49,34,32,115,114,116],playL.getD 5 noR,2,9)]
theorem zpe:∀ x∈playLines,LineOk x:=by
 intro x hx;simp only[playLines,List.mem_cons,List.not_mem_nil,or_false] at hx;rcases hx with rfl | rfl | rfl | rfl | rfl | rfl
 ·exact⟨⟨by decide +kernel,by decide +kernel,by decide +kernel,by decide +kernel,by decide +kernel,by decide +kernel,by decide +kernel,by decide +kernel,by decide +kernel⟩,Or.inr ⟨by decide +kernel,13,by decide +kernel,by decide +kernel,by decide +kernel,by decide +kernel,by decide +kernel,by decide +kernel,by decide +kernel⟩,by decide +kernel⟩
 ·exact⟨⟨by decide +kernel,by decide +kernel,by decide +kernel,by decide +kernel,by decide +kernel,by decide +kernel,by decide +kernel,by decide +kernel,by decide +kernel⟩,Or.inl ⟨by decide +kernel,by decide +kernel,by decide +kernel⟩,by decide +kernel⟩
 ·exact⟨⟨by decide +kernel,by decide +kernel,by decide +kernel,by decide +kernel,by decide +kernel,by decide +kernel,by decide +kernel,by decide +kernel,by decide +kernel⟩,Or.inl ⟨by decide +kernel,by decide +kernel,by decide +kernel⟩,by decide +kernel⟩
 ·exact⟨⟨by decide +kernel,by decide +kernel,by decide +kernel,by decide +kernel,by decide +kernel,by decide +kernel,by decide +kernel,by decide +kernel,by decide +kernel⟩,Or.inl ⟨by decide +kernel,by decide +kernel,by decide +kernel⟩,by decide +kernel⟩
 ·exact⟨⟨by decide +kernel,by decide +kernel,by decide +kernel,by decide +kernel,by decide +kernel,by decide +kernel,by decide +kernel,by decide +kernel,by decide +kernel⟩,Or.inl ⟨by decide +kernel,by decide +kernel,by decide +kernel⟩,by decide +kernel⟩
 ·exact⟨⟨by decide +kernel,by decide +kernel,by decide +kernel,by decide +kernel,by decide +kernel,by decide +kernel,by decide +kernel,by decide +kernel,by decide +kernel⟩,Or.inr ⟨by decide +kernel,12,by decide +kernel,by decide +kernel,by decide +kernel,by decide +kernel,by decide +kernel,by decide +kernel,by decide +kernel⟩,by decide +kernel⟩
theorem zcz:∀ r∈playL,ShortR r:=by
 intro r hr;simp only[playL,List.mem_cons,List.not_mem_nil,or_false] at hr;rcases hr with rfl | rfl | rfl | rfl | rfl | rfl <;> exact⟨by decide,by decide,by decide,by decide,by decide +kernel,by decide⟩
theorem zhr:∀ r∈playL,r.out.length≤1000000∧r.word.length≤100000∧(∀ s∈r.ins,s.length≤1000000)∧r.ins.length≤1000:=fun r hr=>by
 obtain⟨h1,h2,h3,h4,h5,h6⟩:=zcz r hr;exact⟨by omega,by omega,fun s hs=>by have:=h5 s hs; omega,by omega⟩
theorem zie (w:World):Calls Tryz.prog 118 #[] w fun e w'=>∃ v R,e=.returned v∧R.map Prod.fst=playL∧OwnAt w.heap.size w' v R∧Below w.heap.size w w':=by
 have K:=Hd (zt4 playT playLines w (by decide +kernel) (by decide +kernel) zpe playL_right (by decide) (fun x hx=>zhr x.2.1 (by
  have:x.2.1∈playLines.map (fun x=>x.2.1):=List.mem_map.2 ⟨x,hx,rfl⟩;exact this)))
 go_enter Tryz.func118,Tryz.ntmps118
 go_wp2_with fail
 refine K.out.mono ?_
 rintro e w1 ⟨v,R,rfl,hR,ho,hb⟩;have HO:=Hd (ho.fr ((Below.refl _ w1).alloc (Nat.le_refl _) (.cells #[.int .i64 0, .int .i64 (-1)] 71)));have HB:=Hd (hb.alloc hb.size (.cells #[.int .i64 0, .int .i64 (-1)] 71));clear ho hb K;unfold zdz;go_wp2
 go_ret
 exact⟨_,R,rfl,hR,HO.out,HB.out⟩
set_option maxHeartbeats 4000000 in
theorem znc (A C:List RV) (va vc:Value) (w:World) {Ba Bc:Nat} (hoa:OwnAt Ba w va A) (hoc:OwnAt Bc w vc C) (he:A.map Prod.fst=C.map Prod.fst) (hn:A.length≤1000) :
  Calls Tryz.prog 116 #[va,vc] w fun e w'=>e=.returned (.bool true)∧Below w.heap.size w w':=by
 have ha:=hoa.rules.1;have hc:=hoc.rules.1;have HWA:=Hd (fun x (hx:x∈A)=>(hoa.2 x hx).1.lt);have HWC:=Hd (fun x (hx:x∈C)=>(hoc.2 x hx).1.lt);clear hoa hoc;have hl:A.length=C.length:=by have:=congrArg List.length he; simpa using this
 have hrow:∀ (R:List RV),∀ r∈R.map zay,r≠[]:=fun R r hr=>by obtain⟨x,-,rfl⟩:=List.mem_map.1 hr; simp[zay]
 obtain⟨aa,ca,hva,-,-⟩:=id ha.1;obtain⟨ac,cc,hvc,-,-⟩:=id hc.1;rw[List.length_map] at hva hvc;rw[← hl] at hvc;subst hva hvc;have HA:=Hd (fun wl (hb:Below w.heap.size w wl)=>(⟨zao ha.1 (hrow A) hb,fun x hx=>(ha.2 x hx).1.below0 hb⟩:ReadsK 4 wl (.slice aa A.length ca) (A.map zay)∧∀ x∈A,Reads wl x.2 (x.1.ins.map str)));have HC:=Hd (fun wl (hb:Below w.heap.size w wl)=>(⟨zao hc.1 (hrow C) hb,fun x hx=>(hc.2 x hx).1.below0 hb⟩:ReadsK 4 wl (.slice ac A.length cc) (C.map zay)∧∀ x∈C,Reads wl x.2 (x.1.ins.map str)));have HL:=Hd hl;have HE:=Hd he;clear ha hc hrow hl he;go_enter Tryz.func116,Tryz.ntmps116
 go_wp2_with fail
 go_loopw [5] (fun iv wl=>∃ i:Nat,i≤A.length∧iv=.int .i64 i∧Below w.heap.size w wl) (fun iv _=>A.length - (intOf iv).toNat)
 case atStart=>exact⟨0,by omega,rfl,Below.refl _ _⟩
 case round =>
  obtain⟨i,hi,rfl,hbi⟩:=hrel;have HB:=Hd hbi;have hzi:=hbi.size;by_cases hlt:i<A.length
  ·have hlc:((i:Int)<(A.length:Int))=True:=eq_true (by omega)
   have hlt2:i<C.length:=by rw[← HL.out]; exact hlt
   have hxy:C[i].1=A[i].1:=by
    have h1:(A.map Prod.fst)[i]'(by simpa using hlt)=(C.map Prod.fst)[i]'(by simpa using hlt2):=by simp only[HE.out]
    rw[List.getElem_map,List.getElem_map] at h1;exact h1.symm
   obtain⟨b1,o1,hix1,-,hce1⟩:=(HA.out wr hbi).1.at (P:=Tryz.prog) Tryz.underlying22 (by kernel_rfl) i (by simpa using hlt)
   obtain⟨b2,o2,hix2,-,hce2⟩:=(HC.out wr hbi).1.at (P:=Tryz.prog) Tryz.underlying22 (by kernel_rfl) i (by simpa using hlt2)
   simp only[List.getElem_map] at hce1 hce2;have a0:=hce1 0 _ rfl;have a1:=hce1 1 _ rfl;have a2:=hce1 2 _ rfl;have a3:=hce1 3 _ rfl;have c0:=hce2 0 _ rfl;have c1:=hce2 1 _ rfl;have c2:=hce2 2 _ rfl;have c3:=hce2 3 _ rfl;simp only[Nat.add_zero,hxy] at a0 c0 c1 c2;have hr1:∀ wl,Below wr.heap.size wr wl→Reads wl A[i].2 (A[i].1.ins.map str):=fun wl hb=>(HA.out wl (hbi.trans (hb.mono hzi))).2 _ (List.getElem_mem hlt);have hr2:∀ wl,Below wr.heap.size wr wl→Reads wl C[i].2 (A[i].1.ins.map str):=fun wl hb=>hxy▸(HC.out wl (hbi.trans (hb.mono hzi))).2 _ (List.getElem_mem hlt2);have hw1:=HWA.out _ (List.getElem_mem hlt);have hw2:=HWC.out _ (List.getElem_mem hlt2);clear hce1 hce2 hxy;generalize A[i].1.out=x0 at *;generalize A[i].1.kind=x1 at *;generalize A[i].1.word=x2 at *;generalize A[i].1.ins=xs at *;generalize A[i].2=u1 at *;generalize C[i].2=u2 at *;have KS:=Hd (fun wl (hb:Below wr.heap.size wr wl)=>(zux u1 u2 xs xs wl (hr1 wl hb) (hr2 wl hb) (fun k hk=>by have:=(hw1 k hk).2; have:=hb.size; omega) (fun k hk=>by have:=(hw2 k hk).2; have:=hb.size; omega)).mono (fun e w' h=>(⟨by rw[h.1,beq_self_eq_true],h.2⟩:e=.returned (.bool true)∧Below wl.heap.size wl w')))
   clear hr1 hr2 hw1 hw2;have HCE:=Hd (fun wl (hb:Below wr.heap.size wr wl)=>(⟨(hb.cell (zad a0)).trans a0,(hb.cell (zad a1)).trans a1,(hb.cell (zad a2)).trans a2,(hb.cell (zad a3)).trans a3,(hb.cell (zad c0)).trans c0,(hb.cell (zad c1)).trans c1,(hb.cell (zad c2)).trans c2,(hb.cell (zad c3)).trans c3⟩:wl.cell? ⟨b1,o1,none⟩=some (str x0)∧wl.cell? ⟨b1,o1+1,none⟩=some (str x1)∧wl.cell? ⟨b1,o1+2,none⟩=some (str x2)∧wl.cell? ⟨b1,o1+3,none⟩=some u1∧wl.cell? ⟨b2,o2,none⟩=some (str x0)∧wl.cell? ⟨b2,o2+1,none⟩=some (str x1)∧wl.cell? ⟨b2,o2+2,none⟩=some (str x2)∧wl.cell? ⟨b2,o2+3,none⟩=some u2));go_wp2_with fail
   clear a0 a1 a2 a3 c0 c1 c2 c3
   go_region_held3 (fun w'=>w'.cell? ⟨b1,o1,none⟩=some (str x0)∧w'.cell? ⟨b1,o1+1,none⟩=some (str x1)∧w'.cell? ⟨b1,o1+2,none⟩=some (str x2)∧w'.cell? ⟨b1,o1+3,none⟩=some u1∧w'.cell? ⟨b2,o2,none⟩=some (str x0)∧w'.cell? ⟨b2,o2+1,none⟩=some (str x1)∧w'.cell? ⟨b2,o2+2,none⟩=some (str x2)∧w'.cell? ⟨b2,o2+3,none⟩=some u2)
    (first | exact HCE.out _ hb6 | exact HCE.out _ ((Below.refl _ _).drew.trans hb6) | exact HCE.out _ (Below.refl _ _).drew)
    (first
     |(go_at_call 48
       refine (KS.out _ ?_).mono ?_
       ·first | exact Below.refl _ _ | exact (Below.refl _ _).drew
       rintro e w6 ⟨rfl,hb6⟩))
   all_goals
    have HB6:=Hd (HB.out.trans (Below.mono (by first | exact (Below.refl _ _).drew.trans hb6 | exact hb6) hzi))
    clear hb6;go_wp2
    go_roundw
    case rel=>exact⟨i+1,by omega,by go_num,HB6.out⟩
    case measure=>simp[intOf]; omega
  ·obtain rfl:i=A.length:=by omega
   have hlc:((A.length:Int)<(A.length:Int))=False:=eq_false (by omega)
   go_wp2
   go_ret
   exact⟨rfl,HB.out⟩
end Go.Proofs.YtgjialbmlhbngaaGreatDoor
