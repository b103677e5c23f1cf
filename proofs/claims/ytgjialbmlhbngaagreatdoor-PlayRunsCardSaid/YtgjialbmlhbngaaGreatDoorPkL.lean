/-
  The program's tree: New, Get, Remove, Put; strings.HasPrefix. The reference's acts: has, in, lay.
-/
import Derived.Test.YtgjialbmlhbngaaGreatDoorPkK
import Derived.Test.YtgjialbmlhbngaaGreatDoorPkF
import Derived.Test.YtgjialbmlhbngaaGreatDoorPkX
import Derived.Test.YtgjialbmlhbngaaGreatDoorPkC
import Derived.BigQuiet
import Derived.Test.YtgjialbmlhbngaaGreatDoorPkE

set_option maxRecDepth 100000
namespace Go.Proofs.YtgjialbmlhbngaaGreatDoor
open Go Go.RowKit Go.Kf
abbrev Ent:=List UInt8×List UInt8
structure TErr (w:World) (S:Nat→Addr):Prop where
 var:∀ k,k∈[1,2,3,5,6,7]→w.cell? ⟨zdq k,0,none⟩=some (errV (S k))
theorem TErr.below {w w':World} {S:Nat→Addr} {B:Nat} (h:TErr w S) (hb:Below B w w') (hB:w.heap.size≤B):TErr w' S :=
 ⟨fun k hk=>(hb.cell (p:=⟨zdq k,0,none⟩) (Nat.lt_of_lt_of_le (zad (h.var k hk)) hB)).trans (h.var k hk)⟩
theorem zog {w:World} {S:Nat→Addr} (h:ErrW w S):TErr w S:=⟨fun k hk=>h.var k (by
 simp only[List.mem_cons,List.not_mem_nil,or_false] at hk;omega)⟩
theorem zoh {w:World} {S:Nat→Addr} (h:TErr w S):PErr w S:=⟨h.var 1 (by decide),h.var 2 (by decide),h.var 3 (by decide),h.var 5 (by decide)⟩
theorem zep (s p:List UInt8) (w:World) :
  Calls Tryz.prog 71 #[str s,str p] w fun e w'=>e=.returned (.bool (p.isPrefixOf s))∧w=w':=by
 by_cases hle:p.length≤s.length
 ·have hx:(⟨s.toArray⟩:ByteArray).extract 0 p.length=⟨(s.take p.length).toArray⟩:=by rw[za4]; simp
  have HV:Hid ((s.take p.length==p)=p.isPrefixOf s):=Hd (by
   rw[Bool.eq_iff_iff,List.isPrefixOf_iff_prefix,List.prefix_iff_eq_take,beq_iff_eq];exact eq_comm)
  go_enter Tryz.func71,Tryz.ntmps71
  go_wp2
  go_ret
  exact⟨congrArg (fun b=>Ending.returned (Value.bool b)) HV.out,rfl⟩
 ·have hv:p.isPrefixOf s=false:=by
   rw[Bool.eq_false_iff];intro h;exact hle (List.IsPrefix.length_le (List.isPrefixOf_iff_prefix.1 h))
  rw[hv];clear hv;go_enter Tryz.func71,Tryz.ntmps71
  go_wp2
  go_ret
  exact⟨rfl,rfl⟩
def zb2 (a b:List UInt8):Bool:=(a++[47]).isPrefixOf b
theorem aboveB_iff {a b:List UInt8}:zb2 a b=true↔(a++[47]) <+: b:=List.isPrefixOf_iff_prefix
theorem zwc (a b:List UInt8) (w:World) :
  Calls Tryz.prog 112 #[str a,str b] w fun e w'=>e=.returned (.bool (zb2 a b))∧w=w':=by
 by_cases hlt:a.length<b.length
 ·have hx:(⟨b.toArray⟩:ByteArray).extract 0 a.length=⟨(b.take a.length).toArray⟩:=by rw[za4]; simp
  obtain⟨c,hc⟩:∃ c,b[a.length]=c:=⟨_,rfl⟩;have hidx:∀ h,(⟨b.toArray⟩:ByteArray)[a.length]'h=c:=fun _=>hc;have hv:zb2 a b=((b.take a.length==a)&&decide (c=47)):=by
   rw[Bool.eq_iff_iff,aboveB_iff,List.prefix_iff_eq_take];simp only[List.length_append,List.length_cons,List.length_nil,Nat.zero_add,Bool.and_eq_true,beq_iff_eq,decide_eq_true_eq];rw[List.take_succ_eq_append_getElem hlt,hc]
   constructor
   ·intro h;have:=List.append_inj' h rfl;exact⟨this.1.symm,by simpa using this.2.symm⟩
   ·rintro⟨h1,h2⟩;rw[h1,h2]
  have HV:=Hd hv;clear hv;by_cases he:(b.take a.length==a)=true
  ·have hdc:((c.toNat:Int)==47)=decide (c=47):=by
    have:=Kf.u8_eq c 47;rw[show ((47:UInt8).toNat:Int)=47 from rfl] at this;rw[this,zji]
   have HD:=Hd hdc;clear hdc hc;go_enter Tryz.func112,Tryz.ntmps112
   go_wp2
   go_ret
   exact⟨by rw[HV.out,he,HD.out]; simp,rfl⟩
  ·have he':(b.take a.length==a)=false:=by simpa using he
   clear he hc;go_enter Tryz.func112,Tryz.ntmps112
   go_wp2
   go_ret
   exact⟨by rw[HV.out,he']; simp,rfl⟩
 ·have hv:zb2 a b=false:=by
   rw[Bool.eq_false_iff];intro h;have:=List.IsPrefix.length_le (aboveB_iff.1 h);simp at this;omega
  rw[hv];clear hv;go_enter Tryz.func112,Tryz.ntmps112
  go_wp2
  go_ret
  exact⟨rfl,rfl⟩
theorem zd5:KeyBy Tryz.prog 9 str:=KeyBy.string Tryz.underlying9
theorem zeq:Tryz.prog.underlying 123=some (.map 9 9):=Tryz.underlying123
theorem zi6 (w:World):(zeroValue 9).run Tryz.prog w=.ok (str []) w:=by kernel_rfl
structure TAt (w:World) (tb mb:Nat) (m:List Ent):Prop where
 blk:w.heap[tb]? = some (.cells #[.map (some mb)] 125 (0,0))
 map:MapIs str str w mb m
theorem TAt.cell {w:World} {tb mb:Nat} {m:List Ent} (h:TAt w tb mb m):w.cell? ⟨tb,0,none⟩=some (.map (some mb)):=(cell_of_heap h.blk 0).trans rfl
theorem TAt.ne {w:World} {tb mb:Nat} {m:List Ent} (h:TAt w tb mb m):tb≠mb:=fun e=>by
 obtain⟨es,clock,hb,-⟩:=h.map;rw[← e,h.blk] at hb;cases hb
theorem TAt.lt {w:World} {tb mb:Nat} {m:List Ent} (h:TAt w tb mb m):tb<w.heap.size∧mb<w.heap.size:=⟨zab h.blk,h.map.lt⟩
theorem TAt.of_fr {w w':World} {tb mb:Nat} {m:List Ent} {B:Nat} {S:Nat→Prop} (h:TAt w tb mb m) (hf:Fr B S w w') (h1:tb<B∧mb<B) (h2:¬ S tb) (h3:¬ S mb):TAt w' tb mb m :=
 ⟨(hf.block _ h1.1 h2).trans h.blk,h.map.of_block (hf.block _ h1.2 h3)⟩
theorem TAt.below {w w':World} {tb mb:Nat} {m:List Ent} (h:TAt w tb mb m) (hb:Below w.heap.size w w'):TAt w' tb mb m :=
 h.of_fr (S:=fun _=>False) (Fr.of_below hb) h.lt id id
theorem zrt (w:World):Calls Tryz.prog 66 #[] w fun e w'=>∃ tb mb,e=.returned (.pointer (some ⟨tb,0,none⟩))∧w.heap.size≤tb∧w.heap.size≤mb∧TAt w' tb mb []∧Below w.heap.size w w':=by
 have hmm:=@run_makeMap Tryz.prog;go_enter Tryz.func66,Tryz.ntmps66
 go_wp2
 go_ret
 refine⟨w.heap.size+1,w.heap.size,rfl,by omega,by omega,⟨?_,?_⟩,?_⟩
 ·have:=heap_alloc_here (w.alloc (.map #[] 0)) (.cells #[.map (some w.heap.size)] 125);simpa using this
 ·exact (MapIs.made w).of_block (Below.heap_alloc _ _ _ (by simp))
 ·exact ((Below.refl _ w).alloc (Nat.le_refl _) _).alloc (by simp) _
theorem zm3 (tb mb:Nat) (m:List Ent) (p:List UInt8) (w:World) (h:TAt w tb mb m) :
  Calls Tryz.prog 23 #[.pointer (some ⟨tb,0,none⟩),str p] w fun e w'=>e=.returned (.tuple #[str ((zaa p m).getD []), .bool (zaa p m).isSome])∧w=w':=by
 have c0:=h.cell;have hlk:=h.map.lookup zd5 zeq zi6 p true;simp only[if_true] at hlk;clear h;cases hk:zaa p m with
 | none =>
  rw[hk] at hlk;simp only[Option.map_none,Option.getD_none,Option.isSome_none] at hlk;go_enter Tryz.func23,Tryz.ntmps23
  go_wp2
  go_ret2
  exact⟨rfl,rfl⟩
 | some v =>
  rw[hk] at hlk;simp only[Option.map_some,Option.getD_some,Option.isSome_some] at hlk;go_enter Tryz.func23,Tryz.ntmps23
  go_wp2
  go_ret2
  exact⟨rfl,rfl⟩
theorem zdj {p:List UInt8}:∀ {m:List Ent},zaa p m=none→mdel p m=m
 | [],_=>rfl
 | x::m,h=>by
  unfold zaa at h;unfold mdel
  split at h
  ·cases h
  ·rename_i hne
   rw[if_neg hne,zdj h]
def removeC (p:List UInt8) (m:List Ent):Nat:=if (zaa p m).isSome=true then 0 else 6
theorem zj4 (tb mb:Nat) (m:List Ent) (p:List UInt8) (w:World) (S:Nat→Addr) (h:TAt w tb mb m) (hE:TErr w S) :
  Calls Tryz.prog 18 #[.pointer (some ⟨tb,0,none⟩),str p] w fun e w'=>e=.returned (zyy S (removeC p m))∧TAt w' tb mb (mdel p m)∧Fr w.heap.size (fun k=>k=mb) w w':=by
 have c0:=h.cell;have hlk:=h.map.lookup zd5 zeq zi6 p true;simp only[if_true] at hlk;have H:=Hd h;have v5:=hE.var 5 (by decide)
 simp only[zdq] at v5;unfold removeC;cases hk:zaa p m with
 | none =>
  rw[hk] at hlk;simp only[Option.map_none,Option.getD_none,Option.isSome_none] at hlk;have HM:=Hd (zdj hk);clear h hE hk;go_enter Tryz.func18,Tryz.ntmps18
  go_wp2
  go_ret
  rw[HM.out];exact⟨rfl,H.out, .refl _ _ _⟩
 | some v =>
  rw[hk] at hlk;simp only[Option.map_some,Option.getD_some,Option.isSome_some] at hlk;obtain⟨es2,clock2,hdel,hmap2⟩:=MapIs.delete zd5 zeq h.map p 0;have HM:=Hd hmap2;clear h hE hk hmap2;go_enter Tryz.func18,Tryz.ntmps18
  go_wp2
  go_ret
  have hF:Fr w.heap.size (fun k=>k=mb) w (putMap w mb es2 clock2):=Fr.putMap (S:=fun k=>k=mb) (Fr.refl _ _ _) (fun _=>rfl) _ _;exact⟨rfl,⟨(hF.block _ H.out.lt.1 H.out.ne).trans H.out.blk,HM.out⟩,hF⟩
def clash (p:List UInt8) (m:List Ent):Bool:=m.any fun x=>zb2 p x.1||zb2 x.1 p
def putC (p b:List UInt8) (m:List Ent):Nat :=
 if zaq p=false then 4 else if 2000<b.length then 2 else if clash p m=true then 7 else if (zaa p m).isSome=false∧60≤m.length then 8 else 0
def putM (p b:List UInt8) (m:List Ent):List Ent:=if putC p b m=0 then mupd p b m else m
theorem zis {α:Type} {l:List α} {i:Nat} (hi:i<l.length) {y:α} (h:y∈l):y=l[i]∨y∈l.eraseIdx i:=by
 obtain⟨j,hj,rfl⟩:=List.getElem_of_mem h;by_cases e:j=i
 ·subst e; exact Or.inl rfl
 ·right
  rw[List.mem_eraseIdx_iff_getElem];exact⟨j,hj,e,rfl⟩
set_option maxHeartbeats 1000000 in
theorem zru (tb mb:Nat) (m:List Ent) (p b:List UInt8) (w:World) (S:Nat→Addr) (h:TAt w tb mb m) (hm:Ml w) (hE:TErr w S) (hp:p.length≤1000000) (hml:m.length≤1000) (hkl:∀ y∈m,y.1.length≤1000000) :
  Calls Tryz.prog 19 #[.pointer (some ⟨tb,0,none⟩),str p,str b] w fun e w'=>e=.returned (zyy S (putC p b m))∧TAt w' tb mb (putM p b m)∧Fr w.heap.size (fun k=>k=mb) w w':=by
 have HKL:=Hd hkl;clear hkl;have H:=Hd h;have HE:=Hd hE;have hck:=zns p w S hm (zoh hE).p1 hp;clear h hm hE;by_cases hp0:zaq p=false
 ·have hv:zgx S p=errI (S 3):=by
   unfold zaq at hp0;unfold zgx;rw[if_pos (by simpa using hp0)]
  rw[hv] at hck;have HC:=Hd hck;have e1:putC p b m=4:=by unfold putC; rw[if_pos hp0]
  have e2:putM p b m=m:=by unfold putM; rw[e1]; rfl
  rw[e1,e2];clear hck hv hp0 e1 e2;go_enter Tryz.func19,Tryz.ntmps19
  go_wp2_with fail
  refine HC.out.mono ?_
  rintro e w1 ⟨rfl,hb1⟩;go_wp2
  go_ret
  exact⟨rfl,H.out.below hb1,Fr.of_below hb1⟩
 have hv:zgx S p=.nilIface:=by
  unfold zaq at hp0;unfold zgx;rw[if_neg (by simpa using hp0)]
 rw[hv] at hck;have HC:=Hd hck;clear hck hv;by_cases hb0:2000<b.length
 ·have e1:putC p b m=2:=by unfold putC; rw[if_neg hp0,if_pos hb0]
  have e2:putM p b m=m:=by unfold putM; rw[e1]; rfl
  rw[e1,e2];clear hp0 e1 e2;go_enter Tryz.func19,Tryz.ntmps19
  go_wp2_with fail
  refine HC.out.mono ?_
  rintro e w1 ⟨rfl,hb1⟩;have v1:=(HE.out.below hb1 (Nat.le_refl _)).var 1 (by decide)
  simp only[zdq] at v1;have H1:=Hd hb1;clear hb1;go_wp2
  go_ret
  exact⟨rfl,H.out.below H1.out,Fr.of_below H1.out⟩
 have HQ:Hid (putC p b m=if clash p m=true then 7 else if (zaa p m).isSome=false∧60≤m.length then 8 else 0):=Hd (by unfold putC; rw[if_neg hp0,if_neg hb0])
 clear hp0;go_enter Tryz.func19,Tryz.ntmps19
 go_wp2_with fail
 refine HC.out.mono ?_
 rintro e w1 ⟨rfl,hb1⟩;have h1:=H.out.below hb1;have HE1:=Hd (HE.out.below hb1 (Nat.le_refl _));have c1:=h1.cell;obtain⟨w2,hrg,hR,hb2⟩:=Ranging.start (P:=Tryz.prog) zeq h1.map;have HT1:=Hd h1;have HB1:=Hd hb1;have HB2:=Hd hb2;have HR2:=Hd hR;obtain⟨r,hr⟩:∃ r,w1.heap.size=r:=⟨_,rfl⟩;have HRR:=Hd hr;rw[hr] at hrg HR2;clear h1 hb1 hb2 hR hr;go_wp2_with fail
 have hse:(⟨p.toArray⟩:ByteArray)++(⟨#[47]⟩:ByteArray)=⟨(p++[47]).toArray⟩:=by
  rw[show (⟨#[47]⟩:ByteArray)=⟨([47]:List UInt8).toArray⟩ from rfl,zar]
 go_loopw [8] (fun _ wl=>∃ left,Ranging str str mb r m left wl∧(∀ y∈left,y∈m)∧(∀ y∈m,y∈left∨(zb2 p y.1||zb2 y.1 p)=false)∧Below w1.heap.size w1 wl) (fun _ wl=>zet wl mb r)
 case atStart=>exact⟨m,HR2.out,fun y hy=>hy,fun y hy=>Or.inl hy,HB2.out⟩
 case round =>
  obtain⟨left,hR,hsub,hno,hbl⟩:=hrel;have HN:=Hd hno;have HL:=Hd hbl;have HI:=Hd (za2 hR);have HS:=Hd hsub;clear hno hbl hsub HR2 HB2;have HBw:Hid (Below w.heap.size w wr):=Hd (HB1.out.trans (HL.out.mono HB1.out.size));rcases hR.next (P:=Tryz.prog) 0 with ⟨rfl,hnx⟩ |⟨i,hi,w3,hnx,hR3,hF3,hz3,hen⟩
  ·clear hR;have HT:=Hd (HT1.out.below HL.out);have hc0:=HT.out.cell;have HCl:Hid (clash p m=false):=Hd (by
    unfold clash;rw[List.any_eq_false];intro y hy;rcases HN.out y hy with h | h
    ·cases h
    ·simpa using h)
   have hlk:=HT.out.map.lookup zd5 zeq zi6 p true;simp only[if_true] at hlk;have hln:=MapIs.len (P:=Tryz.prog) zeq HT.out.map 3;have fin:∀ es2 clock2,MapIs str str (putMap wr mb es2 clock2) mb (mupd p b m)→TAt (putMap wr mb es2 clock2) tb mb (mupd p b m)∧Fr w.heap.size (fun k=>k=mb) w (putMap wr mb es2 clock2):=by
    intro es2 clock2 hmp;have hF:Fr wr.heap.size (fun k=>k=mb) wr (putMap wr mb es2 clock2):=Fr.putMap (S:=fun k=>k=mb) (Fr.refl _ _ _) (fun _=>rfl) _ _;exact⟨⟨(hF.block _ HT.out.lt.1 HT.out.ne).trans HT.out.blk,hmp⟩,(Fr.of_below HBw.out).trans (hF.mono HBw.out.size (fun _ _ h=>h))⟩
   have FIN:=Hd fin;clear fin;cases hk:zaa p m with
   | none =>
    rw[hk] at hlk;simp only[Option.map_none,Option.getD_none,Option.isSome_none] at hlk;by_cases h60:60≤m.length
    ·have e1:putC p b m=8:=by rw[HQ.out,HCl.out,hk]; simp[h60]
     have e2:putM p b m=m:=by unfold putM; rw[e1]; rfl
     have v7:=(HE.out.below HBw.out (Nat.le_refl _)).var 7 (by decide)
     simp only[zdq] at v7;have E1:=Hd e1;have E2:=Hd e2;clear hk HN HCl e1 e2;go_wp2
     go_ret
     rw[E1.out,E2.out];exact⟨rfl,HT.out,Fr.of_below HBw.out⟩
    ·have e1:putC p b m=0:=by rw[HQ.out,HCl.out,hk]; simp[h60]
     have e2:putM p b m=mupd p b m:=by unfold putM; rw[e1]; rfl
     obtain⟨es2,clock2,hup,hmap2⟩:=HT.out.map.update zd5 zeq p b;have E1:=Hd e1;have E2:=Hd e2;have HM:=Hd hmap2;clear hk HN HCl e1 e2 hmap2;go_wp2
     go_ret
     rw[E1.out,E2.out];exact⟨rfl,FIN.out _ _ HM.out⟩
   | some v =>
    rw[hk] at hlk;simp only[Option.map_some,Option.getD_some,Option.isSome_some] at hlk;have e1:putC p b m=0:=by rw[HQ.out,HCl.out,hk]; simp
    have e2:putM p b m=mupd p b m:=by unfold putM; rw[e1]; rfl
    obtain⟨es2,clock2,hup,hmap2⟩:=HT.out.map.update zd5 zeq p b;have E1:=Hd e1;have E2:=Hd e2;have HM:=Hd hmap2;clear hk HN HCl e1 e2 hmap2;go_wp2
    go_ret
    rw[E1.out,E2.out];exact⟨rfl,FIN.out _ _ HM.out⟩
  ·have HM:=Hd (HS.out _ (List.getElem_mem hi));have HE3:=Hd (fun y (hy:y∈left)=>zis hi hy);have HLn:Hid ((left.eraseIdx i).length<left.length):=Hd (by rw[List.length_eraseIdx,if_pos hi]; omega)
   have HS3:Hid (∀ y∈left.eraseIdx i,y∈m):=Hd (fun y hy=>HS.out y (List.mem_of_mem_eraseIdx hy));have HR3:=Hd hR3;have HW3:Hid (Below w1.heap.size w1 w3):=Hd (HL.out.trans ((hF3.mono (S':=fun k=>k=r) HL.out.size (fun _ _ h=>h)).below (fun k hk e=>by have:=HRR.out; omega)))
   clear hR hR3 hF3 hz3;generalize left.eraseIdx i=left2 at *;obtain⟨x,hx⟩:∃ x,left[i]=x:=⟨_,rfl⟩;rw[hx] at hnx hen HM HE3;clear hx hi;obtain⟨s,c⟩:=x;have hsl:s.length≤1000000:=HKL.out _ HM.out;have hsf:(⟨s.toArray⟩:ByteArray)++(⟨#[47]⟩:ByteArray)=⟨(s++[47]).toArray⟩:=by
    rw[show (⟨#[47]⟩:ByteArray)=⟨([47]:List UInt8).toArray⟩ from rfl,zar]
   have HBx:Hid (Below w.heap.size w w3):=Hd (HB1.out.trans (HW3.out.mono HB1.out.size));have yes:(zb2 p s||zb2 s p)=true→putC p b m=7∧putM p b m=m:=by
    intro h;have hc:clash p m=true:=by
     unfold clash;rw[List.any_eq_true];exact⟨_,HM.out,h⟩
    have e1:putC p b m=7:=by rw[HQ.out,hc]; rfl
    exact⟨e1,by unfold putM; rw[e1]; rfl⟩
   have YES:=Hd yes;clear yes;have v6:=(HE.out.below HBx.out (Nat.le_refl _)).var 6 (by decide)
   simp only[zdq] at v6;cases q1:zb2 p s with
   | true =>
    obtain⟨e1,e2⟩:=YES.out (by rw[q1]; rfl)
    have E1:=Hd e1;have E2:=Hd e2;have K1:=Hd (fun w'=>zep s (p++[47]) w');have Q1:Hid ((p++[47]).isPrefixOf s=true):=Hd q1;clear e1 e2 q1 YES HE3;go_wp2_with fail
    refine (K1.out _).mono ?_
    rintro e w4 ⟨rfl,rfl⟩;rw[Q1.out];go_wp2
    go_ret
    rw[E1.out,E2.out];exact⟨rfl,HT1.out.below HW3.out,Fr.of_below HBx.out⟩
   | false =>
    have K1:=Hd (fun w'=>zep s (p++[47]) w');have K2:=Hd (fun w'=>zep p (s++[47]) w');have Q1:Hid ((p++[47]).isPrefixOf s=false):=Hd q1;cases q2:zb2 s p with
    | true =>
     obtain⟨e1,e2⟩:=YES.out (by rw[q1,q2]; rfl)
     have E1:=Hd e1;have E2:=Hd e2;have Q2:Hid ((s++[47]).isPrefixOf p=true):=Hd q2;clear e1 e2 q1 q2 YES HE3;go_wp2_with fail
     refine (K1.out _).mono ?_
     rintro e w4 ⟨rfl,rfl⟩;rw[Q1.out];go_wp2_with fail
     refine (K2.out _).mono ?_
     rintro e w4 ⟨rfl,rfl⟩;rw[Q2.out];go_wp2
     go_ret
     rw[E1.out,E2.out];exact⟨rfl,HT1.out.below HW3.out,Fr.of_below HBx.out⟩
    | false =>
     have Q2:Hid ((s++[47]).isPrefixOf p=false):=Hd q2;have HN3:Hid (∀ y∈m,y∈left2∨(zb2 p y.1||zb2 y.1 p)=false):=Hd (by
      intro y hy;rcases HN.out y hy with h | h
      ·rcases HE3.out y h with rfl | h
       ·right
        rw[q1,q2]; rfl
       ·exact Or.inl h
      ·exact Or.inr h)
     clear q1 q2 YES HE3 HN;go_wp2_with fail
     refine (K1.out _).mono ?_
     rintro e w4 ⟨rfl,rfl⟩;rw[Q1.out];go_wp2_with fail
     refine (K2.out _).mono ?_
     rintro e w4 ⟨rfl,rfl⟩;rw[Q2.out];go_wp2
     go_roundw
     case rel=>exact⟨left2,HR3.out,HS3.out,HN3.out,HW3.out⟩
     case measure=>rw[za2 HR3.out,HI.out]; exact HLn.out
open Go.Sort Go.Proofs
theorem zqf (s p:List UInt8) (i:Nat) (w:World) (hi:i≤s.length) (hs:s.length≤1000000) (hp:p.length≤1000000) :
  Calls Tryz.prog 240 #[str s, .int .i64 (i:Int),str p] w fun e w'=>e=.returned (.bool (hasB s i p))∧w=w':=by
 have hw1:IntKind.i64.wrap ((i:Int)+(p.length:Int))=(i:Int)+(p.length:Int):=IntWalk.i64_in _ (by omega)
 by_cases h:i+p.length≤s.length
 ·have hv:hasB s i p=((s.drop i).take p.length==p):=by
   rw[znz,show decide (i+p.length≤s.length∨p=[])=true from decide_eq_true (Or.inl h),Bool.true_and]
  rw[hv];have hex:(⟨s.toArray⟩:ByteArray).extract i (i+p.length)=⟨((s.drop i).take p.length).toArray⟩:=by
   rw[za4,Nat.add_sub_cancel_left]
  obtain⟨b,hb⟩:∃ b,((s.drop i).take p.length==p)=b:=⟨_,rfl⟩;rw[hb];generalize (s.drop i).take p.length=q at *;have hc:((i:Int)+(p.length:Int)≤(s.length:Int))=True:=eq_true (by omega)
  have hc2:(i+p.length≤s.length)=True:=eq_true h;have hc3:((i:Int)≤(i:Int)+(p.length:Int))=True:=eq_true (by omega)
  have hc4:(0≤(i:Int)+(p.length:Int))=True:=eq_true (by omega)
  have hc5:((i:Int)+(p.length:Int)).toNat=i+p.length:=by omega
  clear hv;go_enter Tryz.func240,Tryz.ntmps240
  go_wp2
  go_ret
  exact⟨rfl,rfl⟩
 ·have hv:hasB s i p=false:=by
   cases hq:hasB s i p with
   | false=>rfl
   | true=>exact absurd (zju hq hi) h
  rw[hv];have hc:((i:Int)+(p.length:Int)≤(s.length:Int))=False:=eq_false (by omega)
  clear hv;go_enter Tryz.func240,Tryz.ntmps240
  go_wp2
  go_ret
  exact⟨rfl,rfl⟩
theorem in_any (s p:List UInt8) (w:World) (hs:s.length≤1000000) (hp:p.length≤1000000) :
  Calls Tryz.prog 239 #[str s,str p] w fun e w'=>e=.returned (.bool (Lib.contains s p))∧w=w':=by
 have KH:=Hd (fun (i:Nat) (w1:World) (h:i≤s.length)=>zqf s p i w1 h hs hp);go_enter Tryz.func239,Tryz.ntmps239
 go_wp2_with fail
 go_loopw [5] (fun iv wl=>∃ i:Nat,i≤s.length+1∧iv=.int .i64 i∧(∀ j,j<i→hasB s j p=false)∧wl=w) (fun iv _=>s.length+1 - (intOf iv).toNat)
 case atStart=>exact⟨0,by omega,rfl,fun j hj=>by omega,rfl⟩
 case round =>
  obtain⟨i,hi,rfl,hno,rfl⟩:=hrel;have HNO:=Hd hno;clear hno;by_cases hlt:i≤s.length
  ·have hlc:((i:Int)≤(s.length:Int))=True:=eq_true (by omega)
   have K1:=KH.out i wr hlt;cases hh:hasB s i p with
   | true =>
    rw[hh] at K1;have HC:Hid (Lib.contains s p=true):=Hd ((zff s p).2 ⟨i,hlt,hh⟩);have K2:=Hd K1;clear K1 hh;go_wp2_with fail
    refine K2.out.mono ?_
    rintro e w2 ⟨rfl,rfl⟩;go_wp2
    go_ret
    exact⟨by rw[HC.out]; rfl,rfl⟩
   | false =>
    rw[hh] at K1;have HN1:Hid (∀ j,j<i+1→hasB s j p=false):=Hd (fun j hj=>by
     by_cases hji:j=i
     ·rw[hji]; exact hh
     ·exact HNO.out j (by omega))
    have K2:=Hd K1;clear K1 hh;go_wp2_with fail
    refine K2.out.mono ?_
    rintro e w2 ⟨rfl,rfl⟩;go_wp2
    go_roundw
    case rel=>exact⟨i+1,by omega,by go_num,HN1.out,trivial⟩
    case measure=>simp[intOf]; omega
  ·obtain rfl:i=s.length+1:=by omega
   have hlc:((s.length:Int)+1≤(s.length:Int))=False:=eq_false (by omega)
   have HC:Hid (Lib.contains s p=false):=Hd (by
    cases hq:Lib.contains s p with
    | false=>rfl
    | true =>
     obtain⟨j,hj,hh⟩:=(zff s p).1 hq;rw[HNO.out j (by omega)] at hh
     cases hh)
   go_wp2
   go_ret
   exact⟨by rw[HC.out]; rfl,rfl⟩
theorem zoi {α:Type} {p:α→Bool} {x:α}:∀ {l:List α},x∈l.takeWhile p→p x=true
 | [],h=>by simp at h
 | y::l,h=>by
  rw[List.takeWhile_cons] at h
  split at h
  ·rename_i hy
   rcases List.mem_cons.1 h with rfl | h
   ·exact hy
   ·exact zoi h
  ·cases h
theorem zlv {α:Type} {p:α→Bool} {y:α} {r:List α}:∀ {l:List α},l.dropWhile p=y::r→p y=false
 | [],h=>by simp at h
 | x::l,h=>by
  rw[List.dropWhile_cons] at h
  split at h
  ·exact zlv h
  ·rename_i hx
   obtain⟨rfl,-⟩:=List.cons.inj h;exact Bool.eq_false_iff.2 hx
def layB (l:List (List UInt8)) (s:List UInt8):List (List UInt8):=(l.reverse.dropWhile fun x=>decide (s<x)).reverse++s::(l.reverse.takeWhile fun x=>decide (s<x)).reverse
theorem zhc (l:List (List UInt8)) (s:List UInt8):(layB l s).Perm (s::l):=by
 unfold layB;refine List.perm_middle.trans (List.Perm.cons _ ?_)
 rw[← List.reverse_append,List.takeWhile_append_dropWhile,List.reverse_reverse]
theorem zwd {l:List (List UInt8)} {s:List UInt8} {k:Nat} (hk:k≤l.length) (h1:∀ j (h:j<l.length),k≤j→s<l[j]) (h2:∀ h:k - 1<l.length,0<k→¬ s<l[k - 1]):layB l s=l.take k++s::l.drop k:=by
 have hsp:l.reverse=(l.drop k).reverse++(l.take k).reverse:=by
  rw[← List.reverse_append,List.take_append_drop]
 have hall:∀ x∈(l.drop k).reverse,decide (s<x)=true:=fun x hx=>by
  rw[List.mem_reverse] at hx;obtain⟨j,hj,rfl⟩:=List.mem_iff_getElem.1 hx;rw[List.getElem_drop];rw[List.length_drop] at hj;exact decide_eq_true (h1 _ (by omega) (by omega))
 unfold layB;rw[hsp,List.dropWhile_append_of_pos hall,List.takeWhile_append_of_pos hall];have hno:(l.take k).reverse.dropWhile (fun x=>decide (s<x))=(l.take k).reverse∧(l.take k).reverse.takeWhile (fun x=>decide (s<x))=[]:=by
  cases hq:(l.take k).reverse with
  | nil=>exact⟨rfl,rfl⟩
  | cons x r =>
   have hk0:0<k:=by
    rcases Nat.eq_zero_or_pos k with h | h
    ·subst h; simp at hq
    ·exact h
   have hx:x=l[k - 1]'(by omega):=by
    have h0:(l.take k).reverse[0]? = some x:=by rw[hq]; rfl
    rw[List.getElem?_reverse (by rw[List.length_take]; omega)] at h0
    rw[List.length_take,show min k l.length - 1 - 0=k - 1 by omega,List.getElem?_take_of_lt (by omega),List.getElem?_eq_getElem (by omega)] at h0
    exact (Option.some.inj h0).symm
   have hd:decide (s<x)=false:=by
    rw[hx];exact decide_eq_false (h2 (by omega) hk0)
   constructor
   ·rw[List.dropWhile_cons,hd]; rfl
   ·rw[List.takeWhile_cons,hd]; rfl
 rw[hno.1,hno.2,List.reverse_reverse,List.append_nil,List.reverse_reverse]
theorem zer {l:List (List UInt8)} (s:List UInt8) (h:l.Pairwise (·≤·)):(layB l s).Pairwise (·≤·):=by
 have hsp:l=(l.reverse.dropWhile fun x=>decide (s<x)).reverse++(l.reverse.takeWhile fun x=>decide (s<x)).reverse:=by
  rw[← List.reverse_append,List.takeWhile_append_dropWhile,List.reverse_reverse]
 unfold layB;have hb:∀ x∈(l.reverse.takeWhile fun x=>decide (s<x)).reverse,s≤x:=fun x hx=>by
  rw[List.mem_reverse] at hx;have:=zoi hx;exact List.le_of_lt (of_decide_eq_true this)
 have ha:∀ x∈(l.reverse.dropWhile fun x=>decide (s<x)).reverse,x≤s:=fun x hx=>by
  rw[List.mem_reverse] at hx;cases hq:l.reverse.dropWhile (fun x=>decide (s<x)) with
  | nil=>rw[hq] at hx; simp at hx
  | cons y r =>
   have hy:¬ s<y:=by
    have:=zlv hq;simpa using this
   rw[hq] at hx;have hys:y≤s:=List.not_lt.1 hy;rcases List.mem_cons.1 hx with rfl | hx
   ·exact hys
   ·have hp:(y::r).reverse.Pairwise (·≤·):=by
     rw[← hq];have h':=h;rw[hsp] at h';exact (List.pairwise_append.1 h').1
    rw[List.reverse_cons] at hp;have:=(List.pairwise_append.1 hp).2.2 x (List.mem_reverse.2 hx) y (by simp)
    exact List.le_trans this hys
 rw[hsp] at h;obtain⟨p1,p2,p3⟩:=List.pairwise_append.1 h;refine List.pairwise_append.2 ⟨p1,List.pairwise_cons.2 ⟨hb,p2⟩,fun x hx y hy=>?_⟩
 rcases List.mem_cons.1 hy with rfl | hy
 ·exact ha x hx
 ·exact p3 x hx y hy
theorem zj5 (sep x:List UInt8):∀ {l:List (List UInt8)},l≠[]→Lib.join (l++[x]) sep=Lib.join l sep++sep++x
 | [],h=>absurd rfl h
 | [s],_=>by simp[Lib.join]
 | s::t::r,_=>by
  have ih:=zj5 sep x (l:=t::r) (by simp)
  have e1:Lib.join (s::t::r) sep=s++(sep++Lib.join (t::r) sep):=by simp[Lib.join]
  have e2:Lib.join (s::t::r++[x]) sep=s++(sep++Lib.join (t::r++[x]) sep):=by simp[Lib.join]
  rw[e2,ih,e1];simp
set_option maxHeartbeats 1000000 in
theorem zwe (word:List UInt8) (v:Value) (ins:List (List UInt8)) (w:World) (hr:Reads w v (ins.map str)) (h1:1≤ins.length) (h8:ins.length≤8) (hl:word.length≤100) (hx:∀ s∈ins,s.length≤10000) :
  Calls Tryz.prog 170 #[str [106,111,105,110],str word,v] w fun e w'=>e=.returned (str (Lib.join ins word))∧Below w.heap.size w w':=by
 have hle:=hr.le;obtain⟨a,cap,rfl,-,-⟩:=id hr;simp only[List.length_map] at *;have HR:=Hd hr;have HX:=Hd hx;obtain⟨b0,o0,hix0,hce0⟩:=hr.at (P:=Tryz.prog) Tryz.underlying33 (by kernel_rfl) 0 (by rw[List.length_map]; omega)
 simp only[List.getElem_map] at hce0;have hix1:∀ w',(Instr.indexAt 33 (.slice a ins.length cap) (.int .i64 0)).run Tryz.prog w'=.ok (.pointer (some ⟨b0,o0,none⟩)) w':=hix0;have HJ:Hid (∀ k,(Lib.join (ins.take k) word).length≤10100*8):=Hd (fun k=>by
  have hj:=zjx word (ins:=ins.take k) (fun s hs=>hx s (List.mem_of_mem_take hs));have hm:(10000+word.length)*(ins.take k).length≤10100*8:=Nat.mul_le_mul (by omega) (by rw[List.length_take]; omega)
  omega)
 have H1:Hid (Lib.join (ins.take 1) word=ins[0]):=Hd (by
  rw[List.take_succ_eq_append_getElem (by omega)]
  simp[Lib.join])
 have hl0:=hx ins[0] (List.getElem_mem _);clear hr hx hix0;generalize ins[0]=s0 at *;go_enter Tryz.func170,Tryz.ntmps170
 go_wp2_with fail
 go_loopw [7,8] (fun ov iv wl=>∃ i:Nat,1≤i∧i≤ins.length∧iv=.int .i64 i∧ov=str (Lib.join (ins.take i) word)∧wl=w) (fun _ iv _=>ins.length - (intOf iv).toNat)
 case atStart=>exact⟨1,by omega,h1,rfl,by rw[H1.out],rfl⟩
 case round =>
  obtain⟨i,hi1,hi,rfl,rfl,rfl⟩:=hrel;by_cases hlt:i<ins.length
  ·obtain⟨b,o,hix,hce⟩:=HR.out.at (P:=Tryz.prog) Tryz.underlying33 (by kernel_rfl) i (by simpa using hlt)
   simp only[List.getElem_map] at hce;have hlc:((i:Int)<(ins.length:Int))=True:=eq_true (by omega)
   have HN:Hid (Lib.join (ins.take (i+1)) word=Lib.join (ins.take i) word++word++ins[i]):=Hd (by
    rw[List.take_succ_eq_append_getElem hlt,zj5 _ _ (List.ne_nil_of_length_pos (by rw[List.length_take]; omega))])
   have hj:=HJ.out i;have hs:=HX.out ins[i] (List.getElem_mem _);generalize ins[i]=s at *;generalize Lib.join (ins.take i) word=out at *;have hz1:¬ 9223372036854775807<out.length+word.length:=by omega
   have hz2:¬ 9223372036854775807<out.length+word.length+s.length:=by omega
   go_wp2
   go_roundw
   case rel=>exact⟨i+1,by omega,by omega,by go_num,by rw[HN.out]; simp[zar],trivial⟩
   case measure=>simp[intOf]; omega
  ·obtain rfl:i=ins.length:=by omega
   have hlc:((ins.length:Int)<(ins.length:Int))=False:=eq_false (by omega)
   rw[List.take_length];go_wp2
   go_ret
   exact⟨rfl,Below.refl _ _⟩
set_option maxHeartbeats 1000000 in
theorem ztc (word s:List UInt8) (v:Value) (w:World) (hr:Reads w v ([s].map str)) (hl:s.length≤10000) :
  Calls Tryz.prog 170 #[str [117,112,112,101,114],str word,v] w fun e w'=>e=.returned (str (s.map upB))∧Below w.heap.size w w':=by
 have hle:=hr.le;obtain⟨a,cap,rfl,-,-⟩:=id hr;simp only[List.length_map,List.length_cons,List.length_nil] at *;obtain⟨b0,o0,hix0,hce0⟩:=hr.at (P:=Tryz.prog) Tryz.underlying33 (by kernel_rfl) 0 (by simp)
 have hce1:w.cell? ⟨b0,o0,none⟩=some (str s):=hce0;have hix1:∀ w',(Instr.indexAt 33 (.slice a 1 cap) (.int .i64 0)).run Tryz.prog w'=.ok (.pointer (some ⟨b0,o0,none⟩)) w':=hix0;have HCE:=Hd hce1;clear hr hix0 hce0 hce1;go_enter Tryz.func170,Tryz.ntmps170
 go_wp2_with fail
 go_loopw [7,9,10] (fun ov iv _ wl=>∃ i:Nat,i≤s.length∧iv=.int .i64 i∧ov=str ((s.take i).map upB)∧Below w.heap.size w wl) (fun _ iv _ _=>s.length - (intOf iv).toNat)
 case atStart=>exact⟨0,by omega,rfl,rfl,Below.refl _ _⟩
 case round =>
  obtain⟨i,hi,rfl,rfl,hbi⟩:=hrel;have HBi:=Hd hbi;have hce:=(hbi.cell (p:=⟨b0,o0,none⟩) (zad HCE.out)).trans HCE.out;clear hbi;by_cases hlt:i<s.length
  ·have hlc:((i:Int)<(s.length:Int))=True:=eq_true (by omega)
   have HN:Hid ((s.take (i+1)).map upB=(s.take i).map upB++[upB s[i]]):=Hd (by rw[List.take_succ_eq_append_getElem hlt,List.map_append]; rfl)
   have hol:((s.take i).map upB).length≤10000:=by rw[List.length_map,List.length_take]; omega
   obtain⟨x,hx⟩:∃ x,s[i]=x:=⟨_,rfl⟩;have hidx:∀ h,(⟨s.toArray⟩:ByteArray)[i]'h=x:=fun _=>hx;rw[hx] at HN;clear hx;have hx8:x.toNat<256:=x.toNat_lt;have hwr:IntKind.i64.wrap (x.toNat:Int)=(x.toNat:Int):=IntWalk.i64_in _ (by omega)
   generalize (s.take i).map upB=out at *;have hz1:¬ 9223372036854775807<out.length+1:=by omega
   by_cases hup:97≤x.toNat∧x.toNat≤122
   ·have hc1:((97:Int)≤(x.toNat:Int))=True:=eq_true (by omega)
    have hc2:((x.toNat:Int)≤122)=True:=eq_true (by omega)
    have hws:IntKind.i64.wrap ((x.toNat:Int) - 32)=(x.toNat:Int) - 32:=IntWalk.i64_in _ (by omega)
    have hu:upB x=UInt8.ofNat (x.toNat - 32):=by unfold upB; rw[if_pos hup]
    have KB:=Hd (fun w1=>zi3 ((x.toNat:Int) - 32) (x.toNat - 32) (upB x) w1 (by omega) (by omega) (Hd hu))
    generalize upB x=y at *;clear hu;go_wp2_with fail
    refine (KB.out _).mono ?_
    rintro e w2 ⟨rfl,hb2⟩;have HB2:=Hd (HBi.out.trans (hb2.mono HBi.out.size));clear hb2;go_wp2
    go_roundw
    case rel=>exact⟨i+1,by omega,by go_num,by rw[HN.out]; simp[zar],HB2.out⟩
    case measure=>simp[intOf]; omega
   ·have hu:upB x=x:=by unfold upB; rw[if_neg hup]
    have KB:=Hd (fun w1=>zi3 (x.toNat:Int) x.toNat (upB x) w1 (by omega) rfl (Hd (by rw[hu]; simp)))
    generalize upB x=y at *;clear hu;by_cases h97:97≤x.toNat
    ·have hc1:((97:Int)≤(x.toNat:Int))=True:=eq_true (by omega)
     have hc2:((x.toNat:Int)≤122)=False:=eq_false (by omega)
     go_wp2_with fail
     refine (KB.out _).mono ?_
     rintro e w2 ⟨rfl,hb2⟩;have HB2:=Hd (HBi.out.trans (hb2.mono HBi.out.size));clear hb2;go_wp2
     go_roundw
     case rel=>exact⟨i+1,by omega,by go_num,by rw[HN.out]; simp[zar],HB2.out⟩
     case measure=>simp[intOf]; omega
    ·have hc1:((97:Int)≤(x.toNat:Int))=False:=eq_false (by omega)
     go_wp2_with fail
     refine (KB.out _).mono ?_
     rintro e w2 ⟨rfl,hb2⟩;have HB2:=Hd (HBi.out.trans (hb2.mono HBi.out.size));clear hb2;go_wp2
     go_roundw
     case rel=>exact⟨i+1,by omega,by go_num,by rw[HN.out]; simp[zar],HB2.out⟩
     case measure=>simp[intOf]; omega
  ·obtain rfl:i=s.length:=by omega
   have hlc:((s.length:Int)<(s.length:Int))=False:=eq_false (by omega)
   rw[List.take_length];go_wp2
   go_ret
   exact⟨rfl,HBi.out⟩
set_option maxHeartbeats 1000000 in
theorem zm4 (ds:List UInt8) (w:World) (hl:ds.length≤100000) :
  Calls Tryz.prog 237 #[str ds, .int .i64 3] w fun e w'=>w=w' ∧
   ((∃ n:Nat,IsN3 ds n∧e=.returned (.int .i64 n))∨((∀ n,¬ IsN3 ds n)∧e=.returned (.int .i64 (-1)))):=by
 by_cases h4:ds.length≤3
 ·cases ds with
  | nil =>
   have hno:Hid (∀ n,¬ IsN3 [] n):=Hd (fun n h=>dec_ne n h.2.symm);go_enter Tryz.func237,Tryz.ntmps237
   go_wp2
   go_ret
   exact⟨rfl,Or.inr ⟨hno.out,rfl⟩⟩
  | cons b r =>
   by_cases h48:r≠[]∧b=48
   ·obtain⟨hr,rfl⟩:=h48;have hno:Hid (∀ n,¬ IsN3 (48::r) n):=Hd (fun n h=>by
     by_cases hn:10≤n
     ·obtain⟨b,r',e,hb⟩:=zyg n hn;have:=h.2;rw[e] at this;exact hb (List.cons.inj this).1.symm
     ·have:=h.2;rw[Lib.decDigits_one (by omega)] at this
      exact hr (List.cons.inj this).2)
    have hlen:1<(48::r).length:=by
     have:r.length≠0:=by simpa using hr
     simp; omega
    obtain⟨ds,hds⟩:∃ ds,48::r=ds:=⟨_,rfl⟩;have hidx:∀ h,(⟨ds.toArray⟩:ByteArray)[0]'h=(48:UInt8):=fun _=>by
     show ds[0]=48;simp[← hds]
    rw[hds] at hno hlen h4 hl ⊢;clear hds hr;have hz1:((ds.length:Int)<1)=False:=by simp; omega
    have hz2:((3:Int)<(ds.length:Int))=False:=by simp; omega
    have hz3:((1:Int)<(ds.length:Int))=True:=by simp; omega
    go_enter Tryz.func237,Tryz.ntmps237
    go_wp2
    go_ret
    exact⟨rfl,Or.inr ⟨hno.out,rfl⟩⟩
   ·have hor:r=[]∨b≠48:=by
     by_cases hr:r=[]
     ·exact Or.inl hr
     ·exact Or.inr (fun e=>h48 ⟨hr,e⟩)
    have HOR:=Hd hor;obtain⟨ds,hds⟩:∃ ds,b::r=ds:=⟨_,rfl⟩;have HDS:=Hd hds;have hb0:ds[0]? = some b:=by rw[← hds]; rfl
    have hpos:1≤ds.length:=by rw[← hds]; simp
    have hidx0:∀ h,(⟨ds.toArray⟩:ByteArray)[0]'h=b:=fun _=>by
     show ds[0]=b;simp[← hds]
    rw[hds] at h4 hl ⊢;have hz1:((ds.length:Int)<1)=False:=by simp; omega
    have hz2:((3:Int)<(ds.length:Int))=False:=by simp; omega
    have key:(((b.toNat:Int)==48)=false∧((1:Int)<(ds.length:Int))=True)∨((1:Int)<(ds.length:Int))=False:=by
     by_cases h1:1<ds.length
     ·left
      refine⟨?_,by simp; omega⟩
      have hb:b≠48:=HOR.out.resolve_left (fun e=>by rw[← HDS.out,e] at h1; simp at h1)
      have:=Kf.u8_eq b 48;rw[show ((48:UInt8).toNat:Int)=48 from rfl] at this;rw[this]; simpa using hb
     ·right
      simp; omega
    have FIN:Hid (∀ m:Nat,Lib.decFrom 0 ds=some m→IsN3 ds m):=Hd (fun m hm=>by
     rw[← HDS.out] at hm ⊢;have e:=dec_of r.length b r m rfl HOR.out hm;refine⟨zvg ?_,e⟩
     rw[← e,HDS.out]; exact h4)
    clear hor hds hb0;rcases key with ⟨hz4,hz3⟩ | hz3
    all_goals
     go_enter Tryz.func237,Tryz.ntmps237
     go_wp2_with fail
     go_loopw [5,6] (fun nv iv wl=>∃ m i:Nat,i≤ds.length∧nv=.int .i64 m∧iv=.int .i64 i∧Lib.decFrom 0 (ds.take i)=some m∧wl=w) (fun _ iv _=>ds.length - (intOf iv).toNat)
     case atStart=>exact⟨0,0,by omega,rfl,rfl,by simp[Lib.decFrom],rfl⟩
     case round =>
      obtain⟨m,i,hi,rfl,rfl,hm,rfl⟩:=hrel;have HMM:=Hd hm;clear hm;by_cases hlt:i<ds.length
      ·obtain⟨c,hc⟩:∃ c,ds[i]=c:=⟨_,rfl⟩;have hidx:∀ h,(⟨ds.toArray⟩:ByteArray)[i]'h=c:=fun _=>hc;have HC:=Hd hc;clear hc;by_cases hlo:c.toNat<48
       ·have hd1:((c.toNat:Int)<48)=True:=by simp; omega
        have HNO:Hid (∀ n,¬ IsN3 ds n):=Hd (fun n h=>by
         have:=zjs n c (by rw[← h.2,← HC.out]; exact List.getElem_mem hlt)
         omega)
        go_wp2
        go_ret
        exact⟨rfl,Or.inr ⟨HNO.out,rfl⟩⟩
       ·have hd1:((c.toNat:Int)<48)=False:=by simp; omega
        by_cases hhi:57<c.toNat
        ·have hd2:((57:Int)<(c.toNat:Int))=True:=by simp; omega
         have HNO:Hid (∀ n,¬ IsN3 ds n):=Hd (fun n h=>by
          have:=zjs n c (by rw[← h.2,← HC.out]; exact List.getElem_mem hlt)
          omega)
         go_wp2
         go_ret
         exact⟨rfl,Or.inr ⟨HNO.out,rfl⟩⟩
        ·have hd2:((57:Int)<(c.toNat:Int))=False:=by simp; omega
         obtain⟨d,hd⟩:∃ d,c.toNat=48+d:=⟨c.toNat - 48,by omega⟩
         have hm9:m≤999:=by
          have h1:=Lib.decFrom_lt _ _ _ HMM.out;have h2:(ds.take i).length≤3:=by rw[List.length_take]; omega
          have h3:=Nat.pow_le_pow_right (n:=10) (by decide) h2
          omega
         have HST:Hid (Lib.decFrom 0 (ds.take (i+1))=some (m*10+d)):=Hd (by
          rw[List.take_succ_eq_append_getElem hlt,zel _ _ _ _ HMM.out,HC.out];have hv:Lib.digitVal c=some d:=by
           unfold Lib.digitVal;rw[if_pos (by omega)]
           congr 1
           omega
          simp only[Lib.decFrom,hv])
         have hs0:(c.toNat:Int) - 48=(d:Int):=by omega
         have hs1:IntKind.u8.wrap ((c.toNat:Int) - 48)=(d:Int):=by
          rw[hs0];simp[IntKind.wrap,IntKind.signed,IntKind.bits];omega
         have hs2:IntKind.i64.wrap (d:Int)=(d:Int):=IntWalk.i64_in _ (by omega)
         have hs3:IntKind.i64.wrap (10*(m:Int))=10*(m:Int):=IntWalk.i64_in _ (by omega)
         have hs4:IntKind.i64.wrap (10*(m:Int)+(d:Int))=10*(m:Int)+(d:Int):=IntWalk.i64_in _ (by omega)
         go_wp2
         go_roundw
         case rel=>exact⟨m*10+d,i+1,by omega,by go_num,by go_num,HST.out,by first | rfl | trivial⟩
         case measure=>simp[intOf]; omega
      ·obtain rfl:i=ds.length:=by omega
       have hM:=HMM.out;rw[List.take_length] at hM;have HN:=Hd (FIN.out m hM);clear hM;go_wp2
       go_ret
       exact⟨rfl,Or.inl ⟨m,HN.out,rfl⟩⟩
 ·have hno:Hid (∀ n,¬ IsN3 ds n):=Hd (fun n h=>by
   have:=zec 2 n (by have:=h.1; omega)
   rw[← h.2] at this;exact h4 this)
  have hz1:((ds.length:Int)<1)=False:=by simp; omega
  have hz2:((3:Int)<(ds.length:Int))=True:=by simp; omega
  clear h4;go_enter Tryz.func237,Tryz.ntmps237
  go_wp2
  go_ret
  exact⟨rfl,Or.inr ⟨hno.out,rfl⟩⟩
def numV (s:List UInt8):Int:=match num3 s with
 | some n=>n
 | none=>-1
theorem zwf (ds:List UInt8) (w:World) (hl:ds.length≤100000) :
  Calls Tryz.prog 237 #[str ds, .int .i64 3] w fun e w'=>e=.returned (.int .i64 (numV ds))∧w=w':=by
 refine (zm4 ds w hl).mono ?_
 rintro e w' ⟨rfl,⟨n,hn,rfl⟩ |⟨hno,rfl⟩⟩
 ·unfold numV;rw[zvf hn];exact⟨rfl,rfl⟩
 ·unfold numV;cases hq:num3 ds with
  | some n=>exact absurd (zp0 hq) (hno n)
  | none=>exact⟨rfl,rfl⟩
set_option maxHeartbeats 1000000 in
theorem ztd (word s:List UInt8) (v:Value) (w:World) (hr:Reads w v ([s].map str)) (hw:word.length≤100) (hl:s.length≤10000) :
  Calls Tryz.prog 170 #[str [108,105,110,101,115],str word,v] w fun e w'=>e=.returned (str (zai (zc4 word s)))∧Below w.heap.size w w':=by
 have hle:=hr.le;obtain⟨a,cap,rfl,-,-⟩:=id hr;simp only[List.length_map,List.length_cons,List.length_nil] at *;obtain⟨b0,o0,hix0,hce0⟩:=hr.at (P:=Tryz.prog) Tryz.underlying33 (by kernel_rfl) 0 (by simp)
 have hce1:w.cell? ⟨b0,o0,none⟩=some (str s):=hce0;have hix1:∀ w',(Instr.indexAt 33 (.slice a 1 cap) (.int .i64 0)).run Tryz.prog w'=.ok (.pointer (some ⟨b0,o0,none⟩)) w':=hix0;have KL:=Hd (zdo s w (by omega))
 have hel:=zdn s;have hll:=zcn s;unfold zc4;generalize za8 s=L at *;have HM:Hid (∀ x∈L,x.length≤10001):=Hd (fun x hx=>by have:=zdf hx; omega)
 have HE:Hid (∀ i,(zai ((L.take i).filter fun x=>Lib.contains x word)).length≤10001):=Hd (fun i=>by
  have h1:=zci L i;have h2:∀ (M:List (List UInt8)),(zai (M.filter fun x=>Lib.contains x word)).length≤(zai M).length:=by
   intro M
   induction M with
   | nil=>exact Nat.le_refl _
   | cons x M ih =>
    rw[List.filter_cons]
    split
    ·rw[zbj,zbj,List.length_append,List.length_append,List.length_cons,List.length_cons];omega
    ·rw[zbj,List.length_append,List.length_cons];omega
  have h3:=h2 (L.take i);omega)
 clear hr hix0 hce0 hel;go_enter Tryz.func170,Tryz.ntmps170
 go_wp2_with fail
 refine KL.out.mono ?_
 rintro e w1 ⟨vl,rfl,hol,hb1⟩;have HRL:=Hd (zac hol);have HB1:=Hd hb1;obtain⟨al,cl,rfl,-,-⟩:=id HRL.out;clear hol hb1 hce1;simp only[List.length_map] at *;go_wp2_with fail
 go_loopw [7,12] (fun ov iv wl=>∃ i:Nat,i≤L.length∧iv=.int .i64 i∧ov=str (zai ((L.take i).filter fun x=>Lib.contains x word))∧wl=w1) (fun _ iv _=>L.length - (intOf iv).toNat)
 case atStart=>exact⟨0,by omega,rfl,rfl,rfl⟩
 case round =>
  obtain⟨i,hi,rfl,rfl,rfl⟩:=hrel;by_cases hlt:i<L.length
  ·obtain⟨b,o,hix,hce⟩:=HRL.out.at (P:=Tryz.prog) Tryz.underlying33 (by kernel_rfl) i (by simpa using hlt)
   simp only[List.getElem_map] at hce;have hlc:((i:Int)<(L.length:Int))=True:=eq_true (by omega)
   have HN:Hid ((L.take (i+1)).filter (fun x=>Lib.contains x word)=(L.take i).filter (fun x=>Lib.contains x word)++(if Lib.contains L[i] word=true then [L[i]] else [])):=Hd (by
    rw[List.take_succ_eq_append_getElem hlt,List.filter_append]
    congr 1
    rw[List.filter_cons]
    split <;> rfl)
   have hs:=HM.out L[i] (List.getElem_mem _);have hol:=HE.out i;have KI:=in_any L[i] word wr (by omega) (by omega)
   generalize L[i]=x at *;generalize (L.take i).filter (fun x=>Lib.contains x word)=F at *;cases hcx:Lib.contains x word with
   | true =>
    rw[hcx,if_pos rfl] at HN;rw[hcx] at KI;have K1:=Hd KI;have HN2:Hid (zai ((L.take (i+1)).filter fun x=>Lib.contains x word)=zai F++(x++[10])):=Hd (by rw[HN.out,zb4])
    clear KI hcx;generalize zai F=out at *;have hz1:¬ 9223372036854775807<out.length+x.length:=by omega
    have hz2:¬ 9223372036854775807<out.length+x.length+1:=by omega
    go_wp2_with fail
    refine K1.out.mono ?_
    rintro e w2 ⟨rfl,rfl⟩;go_wp2
    go_roundw
    case rel=>exact⟨i+1,by omega,by go_num,by rw[HN2.out]; simp[zar],by first | rfl | trivial⟩
    case measure=>simp[intOf]; omega
   | false =>
    rw[hcx,if_neg (by decide),List.append_nil] at HN
    rw[hcx] at KI;have K1:=Hd KI;clear KI hcx;go_wp2_with fail
    refine K1.out.mono ?_
    rintro e w2 ⟨rfl,rfl⟩;go_wp2
    go_roundw
    case rel=>exact⟨i+1,by omega,by go_num,by rw[HN.out],by first | rfl | trivial⟩
    case measure=>simp[intOf]; omega
  ·obtain rfl:i=L.length:=by omega
   have hlc:((L.length:Int)<(L.length:Int))=False:=eq_false (by omega)
   rw[List.take_length];go_wp2
   go_ret
   exact⟨rfl,HB1.out⟩
set_option maxHeartbeats 1000000 in
theorem zwg (word s:List UInt8) (n:Nat) (v:Value) (w:World) (hr:Reads w v ([s].map str)) (hn:num3 word=some n) (hw:word.length≤100) (hl:s.length≤10000) :
  Calls Tryz.prog 170 #[str [104,101,97,100],str word,v] w fun e w'=>e=.returned (str (zmx n s))∧Below w.heap.size w w':=by
 have hle:=hr.le;obtain⟨a,cap,rfl,-,-⟩:=id hr;simp only[List.length_map,List.length_cons,List.length_nil] at *;obtain⟨b0,o0,hix0,hce0⟩:=hr.at (P:=Tryz.prog) Tryz.underlying33 (by kernel_rfl) 0 (by simp)
 have hce1:w.cell? ⟨b0,o0,none⟩=some (str s):=hce0;have hix1:∀ w',(Instr.indexAt 33 (.slice a 1 cap) (.int .i64 0)).run Tryz.prog w'=.ok (.pointer (some ⟨b0,o0,none⟩)) w':=hix0;have KL:=Hd (zdo s w (by omega))
 have KN:Hid (∀ w1,Calls Tryz.prog 237 #[str word, .int .i64 3] w1 fun e w'=>e=.returned (.int .i64 (n:Int))∧w1=w'):=Hd (fun w1=>by
  have:=zwf word w1 (by omega)
  unfold numV at this;rw[hn] at this;exact this)
 have hel:=zdn s;have hll:=zcn s;unfold zmx;generalize za8 s=L at *;have HM:Hid (∀ x∈L,x.length≤10001):=Hd (fun x hx=>by have:=zdf hx; omega)
 have HE:Hid (∀ i,(zai (L.take i)).length≤10001):=Hd (fun i=>by
  have h1:=zci L i;omega)
 clear hr hix0 hce0 hel hn;go_enter Tryz.func170,Tryz.ntmps170
 go_wp2_with fail
 refine KL.out.mono ?_
 rintro e w1 ⟨vl,rfl,hol,hb1⟩;have HRL:=Hd (zac hol);have HB1:=Hd hb1;obtain⟨al,cl,rfl,-,-⟩:=id HRL.out;clear hol hb1 hce1;simp only[List.length_map] at *;go_wp2_with fail
 go_loopw [7,26] (fun ov iv wl=>∃ i:Nat,i≤L.length∧i≤n∧iv=.int .i64 i∧ov=str (zai (L.take i))∧wl=w1) (fun _ iv _=>L.length - (intOf iv).toNat)
 case atStart=>exact⟨0,by omega,by omega,rfl,rfl,rfl⟩
 case round =>
  obtain⟨i,hi,hin,rfl,rfl,rfl⟩:=hrel;by_cases hlt:i<L.length
  ·obtain⟨b,o,hix,hce⟩:=HRL.out.at (P:=Tryz.prog) Tryz.underlying33 (by kernel_rfl) i (by simpa using hlt)
   simp only[List.getElem_map] at hce;have hlc:((i:Int)<(L.length:Int))=True:=eq_true (by omega)
   by_cases hn2:i<n
   ·have hnc:((i:Int)<(n:Int))=True:=eq_true (by omega)
    have HN:Hid (zai (L.take (i+1))=zai (L.take i)++(L[i]++[10])):=Hd (by rw[List.take_succ_eq_append_getElem hlt,zb4])
    have hs:=HM.out L[i] (List.getElem_mem _);have hol:=HE.out i;generalize L[i]=x at *;generalize zai (L.take i)=out at *;have hz1:¬ 9223372036854775807<out.length+x.length:=by omega
    have hz2:¬ 9223372036854775807<out.length+x.length+1:=by omega
    go_wp2_with fail
    refine (KN.out _).mono ?_
    rintro e w2 ⟨rfl,rfl⟩;go_wp2
    go_roundw
    case rel=>exact⟨i+1,by omega,by omega,by go_num,by rw[HN.out]; simp[zar],by first | rfl | trivial⟩
    case measure=>simp[intOf]; omega
   ·obtain rfl:i=n:=by omega
    have hnc:((i:Int)<(i:Int))=False:=eq_false (by omega)
    go_wp2_with fail
    refine (KN.out _).mono ?_
    rintro e w2 ⟨rfl,rfl⟩;go_wp2
    go_ret
    exact⟨rfl,HB1.out⟩
  ·obtain rfl:i=L.length:=by omega
   have hlc:((L.length:Int)<(L.length:Int))=False:=eq_false (by omega)
   have HT:Hid (zai (L.take n)=zai (L.take L.length)):=Hd (by rw[List.take_length,List.take_of_length_le hin])
   go_wp2
   go_ret
   exact⟨by rw[HT.out]; rfl,HB1.out⟩
end Go.Proofs.YtgjialbmlhbngaaGreatDoor
