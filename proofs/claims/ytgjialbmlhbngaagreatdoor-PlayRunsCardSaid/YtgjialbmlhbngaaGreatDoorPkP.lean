/-
  The reference's tree (kilnfieldref1.Tree): Find, Paths. The program's tree: Paths, Text. The reference's tree: Text, Remove, Put. The reference's tree: Remove, Put.
-/
import Derived.Test.YtgjialbmlhbngaaGreatDoorPkL
import Derived.Test.YtgjialbmlhbngaaGreatDoorPkD
import Derived.Test.YtgjialbmlhbngaaGreatDoorPkC
import Derived.Test.YtgjialbmlhbngaaGreatDoorPkH0
import Derived.BigQuiet
import Derived.Deep.RegionHeld3
import Derived.Laws.AppendOwnNone

set_option maxRecDepth 100000
namespace Go.Proofs.YtgjialbmlhbngaaGreatDoor
open Go Go.RowKit Go.Kf
abbrev zam (e:Ent):List Value:=[str e.1,str e.2]
abbrev zav (L:List Ent):List Value:=(L.map zam).flatten
theorem zqi {L:List Ent}:∀ r∈L.map zam,r.length=2:=by
 intro r hr;obtain⟨e,-,rfl⟩:=List.mem_map.1 hr;rfl
theorem tyFiles:SliceTyK Tryz.prog 37 39 (.agg #[str [],str []]) 2 32:=⟨Tryz.underlying37,by kernel_rfl,rfl,by decide⟩
structure RTAt (base:Nat) (w:World) (rb:Nat) (lv:Value) (L:List Ent):Prop where
 blk:w.heap[rb]? = some (.cells #[lv] 142 (0,0))
 row:w.ownsRow base 39 2 lv L.length (zav L)
 ne:lv.ownBlock≠some rb
theorem RTAt.cell {base:Nat} {w:World} {rb:Nat} {lv:Value} {L:List Ent} (h:RTAt base w rb lv L):w.cell? ⟨rb,0,none⟩=some lv:=(cell_of_heap h.blk 0).trans rfl
theorem RTAt.reads {base:Nat} {w:World} {rb:Nat} {lv:Value} {L:List Ent} (h:RTAt base w rb lv L):ReadsK 2 w lv (L.map zam):=zcb h.row (by simp) zqi
theorem RTAt.of_fr {base:Nat} {w w':World} {rb:Nat} {lv:Value} {L:List Ent} (h:RTAt base w rb lv L) {B:Nat} {S:Nat→Prop} (hf:Fr B S w w') (hB:w.heap.size≤B) (h1:¬ S rb) (h2:∀ k,lv.ownBlock=some k→¬ S k):RTAt base w' rb lv L :=
 ⟨(hf.block rb (Nat.lt_of_lt_of_le (zab h.blk) hB) h1).trans h.blk,zaf h.row hf (fun k hk=>⟨Nat.lt_of_lt_of_le (h.row.lt k hk).2 hB,h2 k hk⟩),h.ne⟩
theorem RTAt.below {base:Nat} {w w':World} {rb:Nat} {lv:Value} {L:List Ent} (h:RTAt base w rb lv L) (hb:Below w.heap.size w w'):RTAt base w' rb lv L :=
 h.of_fr (S:=fun _=>False) (Fr.of_below hb) (Nat.le_refl _) id (fun _ _=>id)
theorem zj8 {p:List UInt8}:∀ {L:List Ent},p∉L.map Prod.fst→za3 p L=none
 | [],_=>rfl
 | x::L,h=>by
  simp only[List.map_cons,List.mem_cons,not_or] at h;unfold za3;rw[if_neg (fun e=>h.1 e.symm),zj8 h.2];rfl
theorem zj9 {p:List UInt8}:∀ {L:List Ent} {i:Nat} (h:i<L.length),L[i].1=p→p∉(L.take i).map Prod.fst→za3 p L=some i
 | x::L,0,_,he,_=>by
  unfold za3;rw[if_pos (show x.1=p from he)]
 | x::L,i+1,h,he,hn=>by
  simp only[List.take_succ_cons,List.map_cons,List.mem_cons,not_or] at hn;unfold za3;rw[if_neg (fun e=>hn.1 e.symm),zj9 (L:=L) (i:=i) (by simpa using h) (by simpa using he) hn.2]
  rfl
def zdb (p:List UInt8) (L:List Ent):Int:=match za3 p L with
 | some i=>(i:Int)
 | none=>-1
theorem zy5 {L:List Ent} {p:List UInt8} {k:Nat} (hk:k<L.length) (h:p∉(L.take k).map Prod.fst) (hne:L[k].1≠p):p∉(L.take (k+1)).map Prod.fst:=by
 rw[List.take_succ_eq_append_getElem hk,List.map_append,List.mem_append,not_or];refine⟨h,?_⟩
 simp only[List.map_cons,List.map_nil,List.mem_singleton];exact fun e=>hne e.symm
theorem zfo (base rb:Nat) (lv:Value) (L:List Ent) (p:List UInt8) (w:World) (h:RTAt base w rb lv L) :
  Calls Tryz.prog 100 #[.pointer (some ⟨rb,0,none⟩),str p] w fun e w'=>e=.returned (.int .i64 (zdb p L))∧w=w':=by
 have hr:=h.reads;have hle:=hr.le;have c0:=h.cell;obtain⟨a,cap,rfl,-,-⟩:=id hr;simp only[List.length_map] at *;have HR:=Hd hr;clear h hr;go_enter Tryz.func100,Tryz.ntmps100
 go_wp2
 go_loop [5] (fun i=>∃ k:Nat,k≤L.length∧p∉(L.take k).map Prod.fst∧i=.int .i64 k) (fun i=>L.length - (intOf i).toNat)
 case atStart=>exact⟨0,by omega,by simp,rfl⟩
 case round =>
  obtain⟨k,hkl,hno,rfl⟩:=hrel;have HN:=Hd hno;clear hno;by_cases hlt:k<L.length
  ·obtain⟨b,o,hix,-,hce⟩:=HR.out.at (P:=Tryz.prog) Tryz.underlying37 (by kernel_rfl) k (by simpa using hlt)
   have e0:w.cell? ⟨b,o,none⟩=some (str L[k].1):=hce 0 _ (by simp)
   clear hce;by_cases he:L[k].1=p
   ·have hd:(L[k].1==p)=true:=by simpa using he
    have HE:=Hd he;clear he;go_wp2
    go_ret
    have e1:zdb p L=(k:Int):=by unfold zdb; rw[zj9 hlt HE.out HN.out]
    rw[e1];exact⟨rfl,rfl⟩
   ·have hd:(L[k].1==p)=false:=by simpa using he
    have HE:=Hd he;clear he;go_wp2
    go_round
    case rel=>exact⟨k+1,by omega,zy5 hlt HN.out HE.out,by go_num⟩
    case measure=>simp[intOf]; omega
  ·go_wp2
   go_ret
   have:=HN.out;rw[List.take_of_length_le (by omega)] at this
   have e1:zdb p L = -1:=by unfold zdb; rw[zj8 this]
   rw[e1];exact⟨rfl,rfl⟩
theorem zqj:SliceTy Tryz.prog 33 9 (str []) 16:=⟨Tryz.underlying33,by kernel_rfl,rfl⟩
open Go.Sort
def zdu (m:List Ent):List (List UInt8):=(m.map Prod.fst).mergeSort leB
theorem zh4 (m:List Ent):(zdu m).Perm (m.map Prod.fst):=List.mergeSort_perm _ _
theorem zhd (m:List Ent):(zdu m).length=m.length:=by rw[(zh4 m).length_eq,List.length_map]
theorem ztn (tb mb:Nat) (m:List Ent) (w:World) (h:TAt w tb mb m) (hd:(m.map Prod.fst).Nodup) (hn:m.length≤1000) (hk:∀ x∈m,x.1.length≤1000000) :
  Calls Tryz.prog 22 #[.pointer (some ⟨tb,0,none⟩)] w fun e w'=>∃ v,e=.returned v∧w'.ownsRow w.heap.size 9 1 v m.length ((zdu m).map str)∧Below w.heap.size w w':=by
 obtain⟨D,hown,hperm,hsz⟩:=ziy (P:=Tryz.prog) Tryz.underlying9 h.map (by unfold maxLen; omega) (fun p hp=>by have:=hk p hp; unfold maxLen; omega) hd
 have c0:=h.cell;have K1:=Hd (callsIn_wide.1 (Tryz.maps_Keys_78 (some mb) w));have K2:=Hd (callsIn_wide.1 (Tryz.slices_Sorted_keys_77_78 mb m.length D _ w hown (by rw[hsz]; unfold maxLen; omega) (by rw[hsz]; omega)))
 have HP:=Hd hperm;clear h hd hn hk hown hperm hsz;go_enter Tryz.func22,Tryz.ntmps22
 go_wp2_with fail
 refine K1.out.mono ?_
 rintro e w1 ⟨rfl,hw1⟩;rw[hw1];go_wp2_with fail
 refine K2.out.mono ?_
 rintro e w2 ⟨v,ss,rfl,hS,hrow,-,hb⟩;have hss:ss.mergeSort leB=zdu m:=mergeSort_of_perm (hS.trans HP.out);have hlen:ss.length=m.length:=by rw[(hS.trans HP.out).length_eq,List.length_map]
 have hrow2:w2.ownsRow w.heap.size 9 1 v m.length ((zdu m).map str):=by
  rw[← hlen,← hss];exact zaj hrow (by simp)
 have hb2:Below w.heap.size w w2:=((Below.refl _ w).alloc (Nat.le_refl _) _).trans (hb.mono (by simp))
 clear hrow hb hS hss;go_wp2
 go_ret
 exact⟨v,rfl,hrow2,hb2⟩
def zka (p b:List UInt8):List UInt8:=((((p++[32])++Lib.decDigits b.length)++[10])++b)++[10]
def mget (m:List Ent) (p:List UInt8):List UInt8:=(zaa p m).getD []
def zcv (m:List Ent) (ks:List (List UInt8)):List UInt8:=(ks.map fun p=>zka p (mget m p)).flatten
theorem zqk (m:List Ent) (ks:List (List UInt8)) (p:List UInt8):zcv m (ks++[p])=zcv m ks++zka p (mget m p):=by simp[zcv]
theorem zop {p b:List UInt8} (hp:p.length≤1000) (hb:b.length≤10000):(zka p b).length≤12000:=by
 have:=zec 4 b.length (by omega)
 unfold zka;simp only[List.length_append,List.length_cons,List.length_nil];omega
theorem zh5 {m:List Ent}:∀ {ks:List (List UInt8)},(∀ p∈ks,p.length≤1000∧(mget m p).length≤10000)→(zcv m ks).length≤12000*ks.length
 | [],_=>by simp[zcv]
 | p::ks,h=>by
  have h1:=zop (h p List.mem_cons_self).1 (h p List.mem_cons_self).2;have ih:=zh5 (m:=m) (ks:=ks) (fun q hq=>h q (List.mem_cons_of_mem _ hq));unfold zcv at ih ⊢;simp only[List.map_cons,List.flatten_cons,List.length_append,List.length_cons];omega
theorem TAt.lookupAt {w:World} {tb mb:Nat} {m:List Ent} (h:TAt w tb mb m) (p:List UInt8) (hp:(zaa p m).isSome=true) :
  (Instr.lookup 123 (.map (some mb)) (str p) false).run Tryz.prog w=.ok (str (mget m p)) w:=by
 have hlk:=h.map.lookup zd5 zeq zi6 p false;unfold mget;cases hk:zaa p m with
 | none=>rw[hk] at hp; cases hp
 | some v =>
  rw[hk] at hlk;simpa using hlk
theorem zh6 {p:List UInt8}:∀ {m:List Ent},p∈m.map Prod.fst→(zaa p m).isSome=true
 | x::m,h=>by
  unfold zaa
  split
  ·rfl
  ·rename_i hne
   rcases List.mem_cons.1 h with h | h
   ·exact absurd h.symm hne
   ·exact zh6 h
set_option maxHeartbeats 2000000 in
theorem zoq (tb mb:Nat) (m:List Ent) (w:World) (h:TAt w tb mb m) (ht:Tab w) (hd:(m.map Prod.fst).Nodup) (hn:m.length≤1000) (hk:∀ x∈m,x.1.length≤1000) (hb:∀ p,(mget m p).length≤10000) :
  Calls Tryz.prog 25 #[.pointer (some ⟨tb,0,none⟩)] w fun e w'=>e=.returned (str (zcv m (zdu m)))∧Below w.heap.size w w':=by
 have HT:=Hd ht;have HH:=Hd h;have HKM:Hid (∀ p∈zdu m,p.length≤1000∧(zaa p m).isSome=true):=Hd (fun p hp=>by
  have hm:=(zh4 m).mem_iff.1 hp;refine⟨?_,zh6 hm⟩
  obtain⟨x,hx,rfl⟩:=List.mem_map.1 hm;exact hk x hx)
 have HGB:=Hd hb;have hw0:Below w.heap.size w (w.alloc (.cells #[.pointer none, .slice none 0 0] 138)):=(Below.refl _ _).alloc (Nat.le_refl _) _;have hP:=ztn tb mb m (w.alloc (.cells #[.pointer none, .slice none 0 0] 138)) (h.of_fr (S:=fun _=>False) (Fr.of_below hw0) h.lt id id) hd hn (fun x hx=>by have:=hk x hx; omega)
 have HP:=Hd hP;clear h ht hd hk hb hP;go_enter Tryz.func25,Tryz.ntmps25
 go_wp2_with fail
 refine HP.out.mono ?_
 rintro e w1 ⟨v,rfl,hrow,hb1⟩;have b1:=hw0.trans (hb1.mono (by simp))
 have hz:w.heap.size<w1.heap.size:=by have:=hb1.size; simp at this; omega
 have HB1:Hid (Bld w1.heap.size w.heap.size (Lib.byteCells []) w1):=Hd (Bld.fresh ((hb1.block _ (by simp)).trans (heap_alloc_here _ _)) hz)
 have hrd:=zac hrow;have hlv:∀ k,v.ownBlock=some k→k<w1.heap.size:=fun k hk=>(hrow.lt k hk).2;have hlw:∀ k,v.ownBlock=some k→w.heap.size<k:=fun k hk=>by have:=(hrow.lt k hk).1; simp at this; omega
 obtain⟨a,cap,rfl,-,-⟩:=id hrd;rw[List.length_map,zhd] at *;have HR:=Hd hrd;have HLV:=Hd hlv;have HLW:=Hd hlw;clear hb1 hrow hrd hlv hlw hw0 HP;go_wp2
 have HZ:=Hd hz;have hbz:=b1.size;have HW1:=Hd b1;clear b1 hz
 go_loopw [9] (fun i wl=>∃ j:Nat,j≤m.length∧i=.int .i64 j∧Bld w1.heap.size w.heap.size (Lib.byteCells (zcv m ((zdu m).take j))) wl∧Fr w1.heap.size (fun k=>k=w.heap.size) w1 wl) (fun i _=>m.length - (intOf i).toNat)
 case atStart=>exact⟨0,by omega,rfl,by simpa[zcv] using HB1.out, .refl _ _ _⟩
 case round =>
  obtain⟨j,hj,rfl,hB,hF⟩:=hrel;have HBj:=Hd hB;have HFj:=Hd hF;have HWj:Hid (Below w.heap.size w wr):=Hd (HW1.out.trans ((hF.mono (S':=fun k=>k=w.heap.size) HW1.out.size (fun _ _ h=>h)).below (fun k hk e=>by omega)))
  have hzr:=hF.size;clear hB hF;by_cases hlt:j<m.length
  ·have hlt2:j<(zdu m).length:=by rw[zhd]; exact hlt
   obtain⟨b,o,hix,hce⟩:=(HR.out.fr HFj.out (fun k hk=>⟨HLV.out k hk,fun e=>by have:=HLW.out k hk; omega⟩)).at (P:=Tryz.prog) Tryz.underlying33 (by kernel_rfl) j (by simpa using hlt2)
   simp only[List.getElem_map] at hce;have HSN:Hid (zcv m ((zdu m).take (j+1))=zcv m ((zdu m).take j)++zka (zdu m)[j] (mget m (zdu m)[j])):=Hd (by rw[List.take_succ_eq_append_getElem hlt2,zqk])
   obtain⟨hp1,hp2⟩:=HKM.out _ (List.getElem_mem hlt2);have HLL:Hid ((zcv m ((zdu m).take j)).length≤12000*1000):=Hd (by
    refine Nat.le_trans (zh5 (fun q hq=>⟨(HKM.out q (List.mem_of_mem_take hq)).1,HGB.out q⟩)) (Nat.mul_le_mul_left _ ?_)
    rw[List.length_take];omega)
   obtain⟨p,hp⟩:∃ p,(zdu m)[j]=p:=⟨_,rfl⟩;rw[hp] at hce HSN hp1 hp2;clear hp;have hlk:∀ wq,Below w.heap.size w wq→(Instr.lookup 123 (.map (some mb)) (str p) false).run Tryz.prog wq=.ok (str (mget m p)) wq:=fun wq q=>(HH.out.below q).lookupAt p hp2;have hgb:=HGB.out p;have HLK:=Hd hlk;have hcl:∀ wq,Below w.heap.size w wq→wq.cell? ⟨tb,0,none⟩=some (.map (some mb)):=fun wq q=>(HH.out.below q).cell;have HCL:=Hd hcl;have hdl:=zec 4 (mget m p).length (by omega)
   clear hp2 hlk hcl;generalize mget m p=c at *;obtain⟨x1,hx1⟩:∃ x,p++[32]=x:=⟨_,rfl⟩;obtain⟨x2,hx2⟩:∃ x,x1++Lib.decDigits c.length=x:=⟨_,rfl⟩;obtain⟨x3,hx3⟩:∃ x,x2++[10]=x:=⟨_,rfl⟩;obtain⟨x4,hx4⟩:∃ x,x3++c=x:=⟨_,rfl⟩;obtain⟨x5,hx5⟩:∃ x,x4++[10]=x:=⟨_,rfl⟩;have e1:(⟨p.toArray⟩:ByteArray)++(⟨#[32]⟩:ByteArray)=⟨x1.toArray⟩:=by rw[← hx1,show (⟨#[32]⟩:ByteArray)=⟨([32]:List UInt8).toArray⟩ from rfl,zar]
   have e2:(⟨x1.toArray⟩:ByteArray)++(⟨(Lib.decDigits c.length).toArray⟩:ByteArray)=⟨x2.toArray⟩:=by rw[← hx2,zar]
   have e3:(⟨x2.toArray⟩:ByteArray)++(⟨#[10]⟩:ByteArray)=⟨x3.toArray⟩:=by rw[← hx3,show (⟨#[10]⟩:ByteArray)=⟨([10]:List UInt8).toArray⟩ from rfl,zar]
   have e4:(⟨x3.toArray⟩:ByteArray)++(⟨c.toArray⟩:ByteArray)=⟨x4.toArray⟩:=by rw[← hx4,zar]
   have e5:(⟨x4.toArray⟩:ByteArray)++(⟨#[10]⟩:ByteArray)=⟨x5.toArray⟩:=by rw[← hx5,show (⟨#[10]⟩:ByteArray)=⟨([10]:List UInt8).toArray⟩ from rfl,zar]
   have l1:x1.length=p.length+1:=by rw[← hx1]; simp
   have l2:x2.length=x1.length+(Lib.decDigits c.length).length:=by rw[← hx2]; simp
   have l3:x3.length=x2.length+1:=by rw[← hx3]; simp
   have l4:x4.length=x3.length+c.length:=by rw[← hx4]; simp
   have l5:x5.length=x4.length+1:=by rw[← hx5]; simp
   have HL5:Hid (zka p c=x5):=Hd (by rw[← hx5,← hx4,← hx3,← hx2,← hx1]; rfl)
   have hz1:¬ 9223372036854775807<p.length+1:=by omega
   have hz2:¬ 9223372036854775807<x1.length+(Lib.decDigits c.length).length:=by omega
   have hz3:¬ 9223372036854775807<x2.length+1:=by omega
   have hz4:¬ 9223372036854775807<x3.length+c.length:=by omega
   have hz5:¬ 9223372036854775807<x4.length+1:=by omega
   have hx5l:x5.length≤20000:=by omega
   have HX5:=Hd hx5l;have hcl2:c.length≤1000000:=by omega
   clear hx1 hx2 hx3 hx4 hx5 l1 l2 l3 l4 l5 hx5l hgb hdl;go_wp2_with fail
   go_region_held3 (fun w'=>w'.cell? ⟨tb,0,none⟩=some (.map (some mb))∧(Instr.lookup 123 (.map (some mb)) (str p) false).run Tryz.prog w'=.ok (str c) w')
    (first | exact⟨HCL.out _ HW6.out,HLK.out _ HW6.out⟩ | exact⟨HCL.out _ HW5.out,HLK.out _ HW5.out⟩ | exact⟨HCL.out _ HWj.out.drew,HLK.out _ HWj.out.drew⟩)
    (first
     |(go_at_call 80
       refine (zg1 c.length _ hcl2 (by first | exact zaz HT.out HWj.out (Nat.le_refl _) | exact zaz HT.out HWj.out.drew (Nat.le_refl _))).mono ?_
       rintro e w5 ⟨rfl,hb5⟩;have HQ5:Hid (Below wr.heap.size wr w5):=Hd (by first | exact hb5 | exact (Below.refl _ _).drew.trans hb5)
       have HW5:Hid (Below w.heap.size w w5):=Hd (HWj.out.trans (HQ5.out.mono HWj.out.size));clear hb5)
     |(go_at_call 79
       refine (zfa w1.heap.size w.heap.size _ _ w5 (HBj.out.below HQ5.out) (by rw[Lib.byteCells_length]; have:=HLL.out; have:=HX5.out; simp[ByteArray.size]; omega) (Nat.le_trans hzr HQ5.out.size)).mono ?_
       rintro e w6 ⟨rfl,hB6,hF6⟩;have HB6:=Hd hB6;have HF6:=Hd hF6;have HW6:Hid (Below w.heap.size w w6):=Hd (HW5.out.trans ((hF6.mono (S':=fun k=>k=w.heap.size) (by omega) (fun _ _ h=>h)).below (fun k hk e=>by omega)))
       clear hB6 hF6))
   all_goals
    have HB7:Hid (Bld w1.heap.size w.heap.size (Lib.byteCells (zcv m ((zdu m).take (j+1)))) w6):=Hd (by
     have:=HB6.out;rw[Lib.strCells_toArray,← Lib.byteCells_append,← HL5.out,← HSN.out] at this;exact this)
    have HF7:Hid (Fr w1.heap.size (fun k=>k=w.heap.size) w1 w6):=Hd (HFj.out.trans ((Fr.of_below (HQ5.out.mono hzr)).trans HF6.out));go_wp2
    go_roundw
    case rel=>exact⟨j+1,by omega,by go_num,HB7.out,HF7.out⟩
    case measure=>simp[intOf]; omega
  ·obtain rfl:j=m.length:=by omega
   have hBj:=HBj.out;rw[List.take_of_length_le (by rw[zhd]; exact Nat.le_refl _)] at hBj
   have K:=Hd (zlf w1.heap.size w.heap.size _ wr hBj HWj.out.size);clear hBj;go_wp2_with fail
   refine K.out.mono ?_
   rintro e w6 ⟨rfl,hb6⟩;go_wp2
   go_ret
   exact⟨rfl,HWj.out.trans hb6⟩
def zcw (L:List Ent):List UInt8:=(L.map fun x=>zka x.1 x.2).flatten
theorem zql (L:List Ent) (x:Ent):zcw (L++[x])=zcw L++zka x.1 x.2:=by simp[zcw]
theorem zh7:∀ {L:List Ent},(∀ x∈L,x.1.length≤1000∧x.2.length≤10000)→(zcw L).length≤12000*L.length
 | [],_=>by simp[zcw]
 | x::L,h=>by
  have h1:=zop (h x List.mem_cons_self).1 (h x List.mem_cons_self).2;have ih:=zh7 (L:=L) (fun q hq=>h q (List.mem_cons_of_mem _ hq));unfold zcw at ih ⊢;simp only[List.map_cons,List.flatten_cons,List.length_append,List.length_cons];omega
set_option maxHeartbeats 2000000 in
theorem zor (base rb:Nat) (lv:Value) (L:List Ent) (w:World) (h:RTAt base w rb lv L) (hn:L.length≤1000) (hx:∀ x∈L,x.1.length≤1000∧x.2.length≤10000) :
  Calls Tryz.prog 47 #[.pointer (some ⟨rb,0,none⟩)] w fun e w'=>e=.returned (str (zcw L))∧Below w.heap.size w w':=by
 have HH:=Hd h;have hr:=h.reads;have HX:=Hd hx;obtain⟨a,cap,rfl,-,-⟩:=id hr;simp only[List.length_map] at *;clear h hr hx;go_enter Tryz.func47,Tryz.ntmps47
 go_wp2
 go_loopw [3,4] (fun out i wl=>∃ k:Nat,k≤L.length∧i=.int .i64 k∧out=str (zcw (L.take k))∧Below w.heap.size w wl) (fun _ i _=>L.length - (intOf i).toNat)
 case atStart=>exact⟨0,by omega,rfl,by simp[zcw],Below.refl _ _⟩
 case round =>
  obtain⟨k,hkl,rfl,rfl,hbl⟩:=hrel;have hh:=HH.out.below hbl;have c1:=hh.cell;have hrr:=hh.reads;have HB:=Hd hbl;clear hbl hh;by_cases hlt:k<L.length
  ·obtain⟨b,o,hix,-,hce⟩:=hrr.at (P:=Tryz.prog) Tryz.underlying37 (by kernel_rfl) k (by simpa using hlt)
   have e0:wr.cell? ⟨b,o,none⟩=some (str L[k].1):=hce 0 _ (by simp)
   have e1:wr.cell? ⟨b,o+1,none⟩=some (str L[k].2):=hce 1 _ (by simp)
   have HSN:Hid (zcw (L.take (k+1))=zcw (L.take k)++zka L[k].1 L[k].2):=Hd (by rw[List.take_succ_eq_append_getElem hlt,zql])
   obtain⟨hp1,hgb⟩:=HX.out _ (List.getElem_mem hlt);have hll:(zcw (L.take k)).length≤12000*1000:=by
    refine Nat.le_trans (zh7 (fun q hq=>HX.out q (List.mem_of_mem_take hq))) (Nat.mul_le_mul_left _ ?_)
    rw[List.length_take];omega
   clear hce hrr;obtain⟨p,hp⟩:∃ p,L[k].1=p:=⟨_,rfl⟩;obtain⟨c,hc⟩:∃ c,L[k].2=c:=⟨_,rfl⟩;rw[hp] at e0 HSN hp1;rw[hc] at e1 HSN hgb;clear hp hc;have hdl:=zec 4 c.length (by omega)
   obtain⟨out,hout⟩:∃ x,zcw (L.take k)=x:=⟨_,rfl⟩;rw[hout] at hll HSN ⊢;clear hout;obtain⟨x0,hx0⟩:∃ x,out++p=x:=⟨_,rfl⟩;obtain⟨x1,hx1⟩:∃ x,x0++[32]=x:=⟨_,rfl⟩;obtain⟨x2,hx2⟩:∃ x,x1++Lib.decDigits c.length=x:=⟨_,rfl⟩;obtain⟨x3,hx3⟩:∃ x,x2++[10]=x:=⟨_,rfl⟩;obtain⟨x4,hx4⟩:∃ x,x3++c=x:=⟨_,rfl⟩;obtain⟨x5,hx5⟩:∃ x,x4++[10]=x:=⟨_,rfl⟩;have y0:(⟨out.toArray⟩:ByteArray)++(⟨p.toArray⟩:ByteArray)=⟨x0.toArray⟩:=by rw[← hx0,zar]
   have y1:(⟨x0.toArray⟩:ByteArray)++(⟨#[32]⟩:ByteArray)=⟨x1.toArray⟩:=by rw[← hx1,show (⟨#[32]⟩:ByteArray)=⟨([32]:List UInt8).toArray⟩ from rfl,zar]
   have y2:(⟨x1.toArray⟩:ByteArray)++(⟨(Lib.decDigits c.length).toArray⟩:ByteArray)=⟨x2.toArray⟩:=by rw[← hx2,zar]
   have y3:(⟨x2.toArray⟩:ByteArray)++(⟨#[10]⟩:ByteArray)=⟨x3.toArray⟩:=by rw[← hx3,show (⟨#[10]⟩:ByteArray)=⟨([10]:List UInt8).toArray⟩ from rfl,zar]
   have y4:(⟨x3.toArray⟩:ByteArray)++(⟨c.toArray⟩:ByteArray)=⟨x4.toArray⟩:=by rw[← hx4,zar]
   have y5:(⟨x4.toArray⟩:ByteArray)++(⟨#[10]⟩:ByteArray)=⟨x5.toArray⟩:=by rw[← hx5,show (⟨#[10]⟩:ByteArray)=⟨([10]:List UInt8).toArray⟩ from rfl,zar]
   have l0:x0.length=out.length+p.length:=by rw[← hx0]; simp
   have l1:x1.length=x0.length+1:=by rw[← hx1]; simp
   have l2:x2.length=x1.length+(Lib.decDigits c.length).length:=by rw[← hx2]; simp
   have l3:x3.length=x2.length+1:=by rw[← hx3]; simp
   have l4:x4.length=x3.length+c.length:=by rw[← hx4]; simp
   have HL5:Hid (out++zka p c=x5):=Hd (by rw[← hx5,← hx4,← hx3,← hx2,← hx1,← hx0]; simp[zka])
   have hz0:¬ 9223372036854775807<out.length+p.length:=by omega
   have hz1:¬ 9223372036854775807<x0.length+1:=by omega
   have hz2:¬ 9223372036854775807<x1.length+(Lib.decDigits c.length).length:=by omega
   have hz3:¬ 9223372036854775807<x2.length+1:=by omega
   have hz4:¬ 9223372036854775807<x3.length+c.length:=by omega
   have hz5:¬ 9223372036854775807<x4.length+1:=by omega
   have hcl2:c.length≤1000000:=by omega
   have KS:Hid (∀ wq,Below wr.heap.size wr wq→wq.cell? ⟨rb,0,none⟩=some (.slice a L.length cap)∧wq.cell? ⟨b,o,none⟩=some (str p)∧wq.cell? ⟨b,o+1,none⟩=some (str c)):=Hd (fun wq hq =>
    ⟨(hq.cell (p:=⟨rb,0,none⟩) (zad c1)).trans c1,(hq.cell (p:=⟨b,o,none⟩) (zad e0)).trans e0,(hq.cell (p:=⟨b,o+1,none⟩) (zad e1)).trans e1⟩)
   have BR:=Hd (Below.refl wr.heap.size wr);clear hx0 hx1 hx2 hx3 hx4 hx5 l0 l1 l2 l3 l4 hgb hdl hll;go_wp2_with fail
   go_region_held3 (fun w'=>w'.cell? ⟨rb,0,none⟩=some (.slice a L.length cap)∧w'.cell? ⟨b,o,none⟩=some (str p)∧w'.cell? ⟨b,o+1,none⟩=some (str c))
    (first | exact KS.out _ HQ.out | exact KS.out _ BR.out.drew)
    (first | (
         go_at_call 114
         refine (zcx c.length _ hcl2).mono ?_
         rintro e w5 ⟨rfl,hb5⟩;have HQ:Hid (Below wr.heap.size wr w5):=Hd (by first | exact hb5 | exact BR.out.drew.trans hb5)
         clear hb5))
   all_goals
    have HW5:Hid (Below w.heap.size w w5):=Hd (HB.out.trans (HQ.out.mono HB.out.size));go_wp2
    go_roundw
    case rel=>exact⟨k+1,by omega,by go_num,by rw[HSN.out,HL5.out],HW5.out⟩
    case measure=>simp[intOf]; omega
  ·obtain rfl:k=L.length:=by omega
   rw[List.take_length];clear hrr;go_wp2
   go_ret
   exact⟨rfl,HB.out⟩
end Go.Proofs.YtgjialbmlhbngaaGreatDoor

namespace Go.Kf
open Go Go.RowKit
theorem ReadsK.pre {s:Nat} {w:World} {ad:Option Addr} {n c:Nat} {rows:List (List Value)} (h:ReadsK s w (.slice ad n c) rows) (k c':Nat) (hk:k≤n):ReadsK s w (.slice ad k c') (rows.take k):=by
 obtain⟨a,cap,e,hle,hc⟩:=h;cases e
 refine⟨ad,c',by rw[List.length_take,Nat.min_eq_left hk],by rw[List.length_take]; omega,fun i r hi=>?_⟩
 rw[List.getElem?_take] at hi
 split at hi
 ·exact hc i r hi
 ·cases hi
theorem ReadsK.suf {s:Nat} {w:World} {g o n c:Nat} {rows:List (List Value)} (h:ReadsK s w (.slice (some ⟨g,o,none⟩) n c) rows) (k c':Nat) (hk:k≤n):ReadsK s w (.slice (some ⟨g,o+k*s,none⟩) (n - k) c') (rows.drop k):=by
 obtain⟨a,cap,e,hle,hc⟩:=h;cases e
 refine⟨_,c',by rw[List.length_drop],by rw[List.length_drop]; omega,fun i r hi=>⟨g,o+k*s,rfl,fun j u hj=>?_⟩⟩
 rw[List.getElem?_drop] at hi;obtain⟨b,o',e',hcell⟩:=hc _ r hi;cases e'
 have:=hcell j u hj
 rwa [show o+k*s+i*s+j=o+(k+i)*s+j by rw[Nat.add_mul]; omega]
theorem ReadsK.nil (s:Nat) (w:World) (ad:Option Addr) (c:Nat):ReadsK s w (.slice ad 0 c) []:=⟨ad,c,rfl,by simp,fun i r hi=>by simp at hi⟩
theorem zh8 {s:Nat} (hs:0<s):∀ (rows:List (List Value)),(∀ r∈rows,r.length=s)→∀ (j:Nat) (u:Value),rows.flatten[j]? = some u→∃ r,rows[j / s]? = some r∧r[j % s]? = some u
 | [],_,j,u,h=>by simp at h
 | x::rows,hl,j,u,h=>by
  have hx:x.length=s:=hl x List.mem_cons_self;rw[List.flatten_cons] at h;by_cases hj:j<s
  ·rw[List.getElem?_append_left (by omega)] at h
   exact⟨x,by rw[Nat.div_eq_of_lt hj]; rfl,by rw[Nat.mod_eq_of_lt hj]; exact h⟩
  ·rw[List.getElem?_append_right (by omega),hx] at h
   obtain⟨r,h1,h2⟩:=zh8 hs rows (fun r hr=>hl r (List.mem_cons_of_mem _ hr)) (j - s) u h;refine⟨r,?_,?_⟩
   ·rw[show j / s=(j - s) / s+1 by rw[← Nat.add_div_right _ hs,Nat.sub_add_cancel (by omega)]]
    exact h1
   ·rw[Nat.mod_eq_sub_mod (by omega)]
    exact h2
theorem za6 {P:Program} (w:World) {ops:Array Oper} {rest:List Oper} {o:Oper} {a:Act} {Q:Exit→Act→World→Prop}
  (hg:o.guard=none) (s x:Operand) (T:TypeId) (hop:o.op=Op.call { callee:=Callee.builtin Builtin.append,args:=#[s,x],argTypes:=#[T,T] })
  {e:TypeId} {z:Value} {sz bytes:Nat} (hT:SliceTyK P T e z sz bytes) (base:Nat) (v:Value) (n:Nat) (xs:List Value) (hs:a.eval s=v) (hown:w.ownsRow base e sz v n xs)
  (rows:List (List Value)) (ad:Addr) (m c:Nat) (hx:a.eval x=.slice (some ad) m c) (hrd:ReadsK sz w (.slice (some ad) m c) rows) (hr:∀ r∈rows,r.length=sz∧∀ u∈r,u.oneCell'=true)
  (hby:bytes≤128) (hlen:n+rows.length≤1000000000) (hbase:base≤w.heap.size)
  (h:∀ v' w',w'.ownsRow base e sz v' (n+rows.length) (xs++rows.flatten)→w.grownBy w' v.ownBlock→(v'.ownBlock=v.ownBlock∨v'.ownBlock=some w.heap.size)→wpList P ops Q rest (a.put o.dst v') w') :
  wpList P ops Q (o::rest) a w:=by
 have hm:=hrd.len;have hfl:rows.flatten.length=m*sz:=by
  rw[hm];clear hrd h hlen hm
  induction rows with
  | nil=>simp
  | cons r rows ih =>
   simp only[List.flatten_cons,List.length_append,List.length_cons,(hr r List.mem_cons_self).1,ih (fun r hr'=>hr r (List.mem_cons_of_mem _ hr'))];rw[Nat.add_mul]; omega
 have hnews:∀ j u,rows.flatten[j]? = some u→w.cell? (ad.add j)=some u:=by
  intro j u hj;obtain⟨r,h1,h2⟩:=zh8 hT.pos rows (fun r hr'=>(hr r hr').1) j u hj;obtain⟨a',c',e',-,hc⟩:=hrd;cases e'
  obtain⟨b,off,e',hcell⟩:=hc _ r h1;cases e'
  have:=hcell _ u h2;rw[show off+j / sz*sz+j % sz=off+j by rw[Nat.add_assoc,Nat.div_add_mod']] at this
  rw[zb0 rfl];exact this
 refine zbs w hg s x T hop hT base v n xs hs hown ad m c rows.flatten hx hfl hnews (fun u hu=>?_) hby (by omega) hbase (fun v' w' h1 h2 h3=>h v' w' (by rw[← hm]; exact h1) h2 h3)
 obtain⟨r,hr1,hr2⟩:=List.mem_flatten.1 hu;exact (hr r hr1).2 u hr2
end Go.Kf
namespace Go.Proofs.YtgjialbmlhbngaaGreatDoor
open Go Go.RowKit Go.Kf
theorem zbk {L:List Ent}:∀ r∈L.map zam,r.length=2∧∀ u∈r,u.oneCell'=true:=by
 intro r hr;obtain⟨e,-,rfl⟩:=List.mem_map.1 hr;exact⟨rfl,fun u hu=>by simp at hu; rcases hu with rfl | rfl <;> rfl⟩
theorem zc0 {p:List UInt8}:∀ {L:List Ent},(zaa p L).isSome=true→∃ i,za3 p L=some i∧∃ h:i<L.length,L[i].1=p∧mdel p L=L.take i++L.drop (i+1)∧∀ b,mupd p b L=L.set i (p,b)
 | [],h=>by simp[zaa] at h
 | x::L,h=>by
  unfold zaa at h;unfold za3 mdel;by_cases hx:x.1=p
  ·exact⟨0,by rw[if_pos hx],by simp,hx,by rw[if_pos hx]; simp,fun b=>by unfold mupd; rw[if_pos hx]; rfl⟩
  ·rw[if_neg hx] at h;obtain⟨i,h1,h2,h3,h4,h5⟩:=zc0 h;exact⟨i+1,by rw[if_neg hx,h1]; rfl,by simpa using h2,by simpa using h3,by rw[if_neg hx,h4]; rfl,fun b=>by unfold mupd; rw[if_neg hx,h5]; rfl⟩
theorem zch {p:List UInt8}:∀ {L:List Ent},zaa p L=none→za3 p L=none
 | [],_=>rfl
 | x::L,h=>by
  unfold zaa at h;unfold za3;by_cases hx:x.1=p
  ·rw[if_pos hx] at h; cases h
  ·rw[if_neg hx] at h;rw[if_neg hx,zch h]; rfl
set_option maxHeartbeats 1000000 in
theorem zkb (base rb:Nat) (lv:Value) (L:List Ent) (p:List UInt8) (w:World) (h:RTAt base w rb lv L) (hb:base≤w.heap.size) (hn:L.length≤1000) :
  Calls Tryz.prog 43 #[.pointer (some ⟨rb,0,none⟩),str p] w fun e w' =>
   e=.returned (.int .i64 (removeC p L:Int))∧∃ lv',RTAt base w' rb lv' (mdel p L)∧Fr w.heap.size (fun k=>k=rb) w w'∧(∀ k,lv'.ownBlock=some k→lv.ownBlock=some k∨w.heap.size≤k):=by
 have HH:=Hd h;have K:=Hd (zfo base rb lv L p w h);unfold removeC;cases hk:zaa p L with
 | none =>
  have hf:zdb p L = -1:=by unfold zdb; rw[zch hk]
  rw[hf] at K;have HM:=Hd (zdj hk);clear h hf hk;go_enter Tryz.func43,Tryz.ntmps43
  go_wp2_with fail
  refine K.out.mono ?_
  rintro e w1 ⟨rfl,rfl⟩;go_wp2
  go_ret
  rw[HM.out];exact⟨rfl,lv,HH.out, .refl _ _ _,fun k hk=>Or.inl hk⟩
 | some v =>
  obtain⟨i,hpl,hi,-,hdel,-⟩:=zc0 (L:=L) (p:=p) (by rw[hk]; rfl)
  have hf:zdb p L=(i:Int):=by unfold zdb; rw[hpl]
  rw[hf] at K;have HD:=Hd hdel;have hr:=h.reads;have c0:=h.cell;obtain⟨g,cap,rfl⟩:=zbd h.row (by omega)
  have hcap:L.length≤cap∧cap≤9223372036854775807:=by
   rcases h.row.2 with ⟨e,-⟩ |⟨g',cap',cur,e,-,-,h3,h4,-⟩
   ·cases e
   ·cases e
    exact⟨h3,by unfold maxLen at h4; omega⟩
  have HR:=Hd hr;have hrb:rb<w.heap.size:=zab h.blk;clear h hf hk hpl hdel hr;go_enter Tryz.func43,Tryz.ntmps43
  go_wp2_with fail
  refine K.out.mono ?_
  rintro e w1 ⟨rfl,rfl⟩;have hlm:(L.map zam).length=L.length:=List.length_map _;have hbk:=Hd HH.out.blk;have hne:=HH.out.ne;have hgr:g≠rb:=fun e=>hne (by rw[e]; rfl)
  have hgl:g<w.heap.size:=(HH.out.row.lt g rfl).2;have FIRST:Hid (∀ v5 w5,w5.ownsRow w.heap.size 39 2 v5 (0+((L.map zam).take i).length) ([]++((L.map zam).take i).flatten)→w.grownBy w5 (Value.slice none 0 0).ownBlock →
    Below w.heap.size w w5∧w5.ownsRow w.heap.size 39 2 v5 i (((L.map zam).take i).flatten)):=Hd (by
   intro v5 w5 ho hg5;refine⟨(Below.refl _ w).grown hg5 (Nat.le_refl _) (fun r hr=>by cases hr),?_⟩
   have e:0+((L.map zam).take i).length=i:=by rw[List.length_take,hlm]; omega
   rw[e,List.nil_append] at ho;exact ho)
  have SECOND:Hid (∀ v5 w5 v6 w6,Below w.heap.size w w5→w5.ownsRow w.heap.size 39 2 v5 i (((L.map zam).take i).flatten) →
    w6.ownsRow w.heap.size 39 2 v6 (i+((L.map zam).drop (i+1)).length) (((L.map zam).take i).flatten++((L.map zam).drop (i+1)).flatten)→w5.grownBy w6 v5.ownBlock →
    Below w.heap.size w w6∧w6.ownsRow w.heap.size 39 2 v6 (mdel p L).length (zav (mdel p L))∧∃ ao n' c',v6=.slice ao n' c'):=Hd (by
   intro v5 w5 v6 w6 hb5 ho5 ho6 hg6;refine⟨hb5.grown hg6 hb5.size (fun r hr=>za5 ho5 hr),?_,?_⟩
   ·rw[HD.out];have e:zav (L.take i++L.drop (i+1))=((L.map zam).take i).flatten++((L.map zam).drop (i+1)).flatten:=by
     simp[zav,List.map_take,List.map_drop]
    rw[e,show (L.take i++L.drop (i+1)).length=i+((L.map zam).drop (i+1)).length by simp; omega]
    exact ho6
   ·rcases ho6.2 with ⟨hv,_⟩ |⟨g,cap,cur,hv,_⟩
    ·exact⟨_,_,_,hv⟩
    ·exact⟨_,_,_,hv⟩)
  have hsub:∀ (w5:World),Below w.heap.size w w5→ReadsK 2 w5 (.slice (some ⟨g,0,none⟩) L.length cap) (L.map zam):=fun w5 q=>HR.out.below q (fun k hk=>by cases hk; exact hgl)
  have HSUB:=Hd hsub;clear hsub;obtain⟨off,c2,hsl⟩:∃ off c2,(cap=i+1→off=0∧c2=0)∧(cap≠i+1→off=(i+1)*2∧c2=cap - (i+1)):=by
   by_cases hc:cap=i+1
   ·exact⟨0,0,fun _=>⟨rfl,rfl⟩,fun h=>absurd hc h⟩
   ·exact⟨(i+1)*2,cap - (i+1),fun h=>absurd h hc,fun _=>⟨rfl,rfl⟩⟩
  have READ2:Hid (∀ w5,Below w.heap.size w w5→ReadsK 2 w5 (.slice (some ⟨g,off,none⟩) (L.length - (i+1)) c2) ((L.map zam).drop (i+1))):=Hd (by
   intro w5 hq;have hr5:=HSUB.out w5 hq;by_cases hc:cap=i+1
   ·have e0:(L.map zam).drop (i+1)=[]:=List.drop_eq_nil_of_le (by rw[hlm]; omega)
    rw[e0,show L.length - (i+1)=0 by omega]
    exact ReadsK.nil _ _ _ _
   ·rw[(hsl.2 hc).1];have:=hr5.suf (i+1) c2 (by omega)
    simpa using this)
  have fin:∀ v6 w6,Below w.heap.size w w6→w6.ownsRow w.heap.size 39 2 v6 (mdel p L).length (zav (mdel p L)) →
    ∃ lv',RTAt base (w6.setCell ⟨rb,0,none⟩ v6) rb lv' (mdel p L)∧Fr w.heap.size (fun k=>k=rb) w (w6.setCell ⟨rb,0,none⟩ v6)∧(∀ k,lv'.ownBlock=some k→(Value.slice (some ⟨g,0,none⟩) L.length cap).ownBlock=some k∨w.heap.size≤k):=by
   intro v6 w6 hb6 ho6;have h6:=(hb6.block _ hrb).trans hbk.out;have hF:Fr w6.heap.size (fun k=>k=rb) w6 (w6.setCell ⟨rb,0,none⟩ v6):=Fr.setCell (S:=fun k=>k=rb) (p:=⟨rb,0,none⟩) (.refl _ _ _) (fun _=>rfl) _;refine⟨v6,⟨(Kf.heap_setCell_same h6 _).trans rfl,zaj (zaf ho6 hF (fun k hk=>⟨(ho6.lt k hk).2,fun e=>?_⟩)) hb,fun e=>?_⟩,Fr.setCell (S:=fun k=>k=rb) (p:=⟨rb,0,none⟩) (Fr.of_below hb6) (fun _=>rfl) _,fun k hk=>Or.inr (za5 ho6 hk)⟩
   ·have:=za5 ho6 hk; omega
   ·have:=za5 ho6 e; omega
  have FIN:=Hd fin;clear fin hne hlm;by_cases hc:cap=i+1
  ·obtain⟨ho1,ho2⟩:=hsl.1 hc;subst ho1 ho2 hc;clear hsl;go_wp2_with (first
    |(at_builtin
      refine za6 _ rfl (.tmp 12) (.tmp 18) 37 rfl tyFiles w.heap.size _ 0 [] rfl (World.ownsRow_nil _ _ _ _) ((L.map zam).take i) ⟨g,0,none⟩ i (i+1) rfl (HR.out.pre i (i+1) (by omega)) (fun r hr=>zbk r (List.mem_of_mem_take hr)) (by decide) (by rw[List.length_take,List.length_map]; omega) (Nat.le_refl _) ?_
      intro v5 w5 ho5 hg5 hloc5;obtain⟨hb5,ho5'⟩:=FIRST.out v5 w5 ho5 hg5;have h5:=(hb5.block _ hrb).trans hbk.out;have d0:w5.cell? ⟨rb,0,none⟩=some (.slice (some ⟨g,0,none⟩) L.length (i+1)):=(cell_of_heap h5 0).trans rfl;have hz5:=hb5.size;have HB5:=Hd hb5;have HO5:=Hd ho5';clear hb5 ho5' h5 ho5 hg5 hloc5)
    |(at_builtin
      refine za6 _ rfl (.tmp 21) (.tmp 28) 37 rfl tyFiles w.heap.size v5 i _ rfl HO5.out ((L.map zam).drop (i+1)) ⟨g,_,none⟩ 0 _ rfl (by have:=READ2.out w5 HB5.out; rwa [show L.length - (i+1)=0 by omega] at this) (fun r hr=>zbk r (List.mem_of_mem_drop hr)) (by decide) (by rw[List.length_drop,List.length_map]; omega) hz5 ?_
      intro v6 w6 ho6 hg6 hloc6;obtain⟨hb6,ho6',ao,n',c',rfl⟩:=SECOND.out v5 w5 v6 w6 HB5.out HO5.out ho6 hg6;have h6:=(hb6.block _ hrb).trans hbk.out;have d6:w6.cell? ⟨rb,0,none⟩=some (.slice (some ⟨g,0,none⟩) L.length (i+1)):=(cell_of_heap h6 0).trans rfl;have f6:w6.frozen? ⟨rb,0,none⟩=false:=zal h6 0;have HB6:=Hd hb6;have HO6:=Hd ho6';clear hb6 ho6' h6 ho6 hg6 hloc6))
   go_ret
   exact⟨rfl,FIN.out _ _ HB6.out HO6.out⟩
  ·obtain⟨ho1,ho2⟩:=hsl.2 hc;subst ho1 ho2;clear hsl;go_wp2_with (first
    |(at_builtin
      refine za6 _ rfl (.tmp 12) (.tmp 18) 37 rfl tyFiles w.heap.size _ 0 [] rfl (World.ownsRow_nil _ _ _ _) ((L.map zam).take i) ⟨g,0,none⟩ i cap rfl (HR.out.pre i cap (by omega)) (fun r hr=>zbk r (List.mem_of_mem_take hr)) (by decide) (by rw[List.length_take,List.length_map]; omega) (Nat.le_refl _) ?_
      intro v5 w5 ho5 hg5 hloc5;obtain⟨hb5,ho5'⟩:=FIRST.out v5 w5 ho5 hg5;have h5:=(hb5.block _ hrb).trans hbk.out;have d0:w5.cell? ⟨rb,0,none⟩=some (.slice (some ⟨g,0,none⟩) L.length cap):=(cell_of_heap h5 0).trans rfl;have hz5:=hb5.size;have HB5:=Hd hb5;have HO5:=Hd ho5';clear hb5 ho5' h5 ho5 hg5 hloc5)
    |(at_builtin
      refine za6 _ rfl (.tmp 21) (.tmp 28) 37 rfl tyFiles w.heap.size v5 i _ rfl HO5.out ((L.map zam).drop (i+1)) ⟨g,_,none⟩ (L.length - (i+1)) _ rfl (READ2.out w5 HB5.out) (fun r hr=>zbk r (List.mem_of_mem_drop hr)) (by decide) (by rw[List.length_drop,List.length_map]; omega) hz5 ?_
      intro v6 w6 ho6 hg6 hloc6;obtain⟨hb6,ho6',ao,n',c',rfl⟩:=SECOND.out v5 w5 v6 w6 HB5.out HO5.out ho6 hg6;have h6:=(hb6.block _ hrb).trans hbk.out;have d6:w6.cell? ⟨rb,0,none⟩=some (.slice (some ⟨g,0,none⟩) L.length cap):=(cell_of_heap h6 0).trans rfl;have f6:w6.frozen? ⟨rb,0,none⟩=false:=zal h6 0;have HB6:=Hd hb6;have HO6:=Hd ho6';clear hb6 ho6' h6 ho6 hg6 hloc6))
   go_ret
   exact⟨rfl,FIN.out _ _ HB6.out HO6.out⟩
end Go.Proofs.YtgjialbmlhbngaaGreatDoor
