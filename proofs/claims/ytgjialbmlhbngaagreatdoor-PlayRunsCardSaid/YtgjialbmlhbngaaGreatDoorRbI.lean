/-
  The walks of the model cache (kilnfieldref2.Cache): Find, Keys. The walks of the model cache (kilnfieldref2.Cache): Put, Get. The plain law of CacheActs: the cache and the model's list of entries stay twins under Put and Get. The walk of the model cache's Get.
-/
import Derived.Test.YtgjialbmlhbngaaGreatDoorPkC
import Derived.Test.YtgjialbmlhbngaaGreatDoorPkZ

set_option maxRecDepth 100000
namespace Go.Proofs.YtgjialbmlhbngaaGreatDoor
open Go Go.RowKit Go.Kf
abbrev EntL:=List UInt8×List UInt8
abbrev ze1 (e:EntL):List Value:=[str e.1,str e.2]
structure RefAt (w:World) (rb:Nat) (lv:Value) (many:Nat) (es:List EntL):Prop where
 blk:w.heap[rb]? = some (.cells #[.int .i64 many,lv] 68 (0,0))
 row:ReadsK 2 w lv (es.map ze1)
def NoKey (es:List EntL) (key:List UInt8):Prop:=key∉es.map (·.1)
def KeyAt (es:List EntL) (key:List UInt8) (i:Nat):Prop:=∃ h:i<es.length,es[i].1=key∧key∉(es.take i).map (·.1)
theorem zo6 {es:List EntL} {key:List UInt8} {k:Nat} (hk:k<es.length) (h:key∉(es.take k).map (·.1)) (hne:es[k].1≠key):key∉(es.take (k+1)).map (·.1):=by
 rw[List.take_succ_eq_append_getElem hk,List.map_append,List.mem_append,not_or];refine⟨h,?_⟩
 simp only[List.map_cons,List.map_nil,List.mem_singleton];exact fun e=>hne e.symm
theorem zzq (rb:Nat) (lv:Value) (many:Nat) (es:List EntL) (key:List UInt8) (w:World) (h:RefAt w rb lv many es) :
  Calls Tryz.prog 168 #[.pointer (some ⟨rb,0,none⟩),str key] w fun e w' =>
   w=w'∧((e=.returned (.int .i64 (-1))∧NoKey es key)∨∃ i:Nat,e=.returned (.int .i64 i)∧KeyAt es key i):=by
 have hle:=h.row.le;have hr:=h.row;obtain⟨a,cap,rfl,-,-⟩:=hr;simp only[List.length_map] at *;have c1:w.cell? ⟨rb,1,none⟩=some (.slice a es.length cap):=by rw[cell_of_heap h.blk]; rfl
 have HR:=Hd h.row;clear h;go_enter Tryz.func168,Tryz.ntmps168
 go_wp2
 go_loop [5] (fun i=>∃ k:Nat,k≤es.length∧key∉(es.take k).map (·.1)∧i=.int .i64 k) (fun i=>es.length - (intOf i).toNat)
 case atStart=>exact⟨0,by omega,by simp,rfl⟩
 case round =>
  obtain⟨k,hkl,hno,rfl⟩:=hrel;have HN:=Hd hno;clear hno;by_cases hlt:k<es.length
  ·obtain⟨b,o,hix,-,hce⟩:=HR.out.at (P:=Tryz.prog) Tryz.underlying66 (by kernel_rfl) k (by simpa using hlt)
   have e0:w.cell? ⟨b,o,none⟩=some (str es[k].1):=hce 0 _ (by simp)
   clear hce;by_cases he:es[k].1=key
   ·have hd:(es[k].1==key)=true:=by simpa using he
    have HE:=Hd he;clear he;go_wp2
    go_ret
    exact⟨rfl,Or.inr ⟨k,rfl,hlt,HE.out,HN.out⟩⟩
   ·have hd:(es[k].1==key)=false:=by simpa using he
    have HE:=Hd he;clear he;go_wp2
    go_round
    case rel=>exact⟨k+1,by omega,zo6 hlt HN.out HE.out,by go_num⟩
    case measure=>simp[intOf]; omega
  ·go_wp2
   go_ret
   refine⟨rfl,Or.inl ⟨rfl,?_⟩⟩
   have:=HN.out;unfold NoKey
   rwa [List.take_of_length_le (by omega)] at this
theorem zxf:SliceTyK Tryz.prog 66 245 (.agg #[str [],str []]) 2 32:=⟨Tryz.underlying66,by kernel_rfl,rfl,by decide⟩
abbrev zbf (key:List UInt8) (es:List EntL):List EntL:=es.filter fun e=>!(e.1==key)
abbrev zew (es:List EntL):List Value:=(es.map ze1).flatten
def zhn (many:Nat) (key v:List UInt8) (es:List EntL):List EntL:=if many<(zbf key es).length+1 then (zbf key es++[(key,v)]).drop 1 else zbf key es++[(key,v)]
theorem zkl (key:List UInt8) (es:List EntL):(zbf key es).length≤es.length:=List.length_filter_le _ _
theorem zqv {es:List EntL} {key:List UInt8} {k:Nat} (hk:k<es.length) (h:(es[k].1==key)=false):zbf key (es.take (k+1))=zbf key (es.take k)++[es[k]]:=by
 rw[List.take_succ_eq_append_getElem hk];unfold zbf;rw[List.filter_append];simp[h]
theorem zqw {es:List EntL} {key:List UInt8} {k:Nat} (hk:k<es.length) (h:(es[k].1==key)=true):zbf key (es.take (k+1))=zbf key (es.take k):=by
 rw[List.take_succ_eq_append_getElem hk];unfold zbf;rw[List.filter_append];simp[h]
theorem zl7 {es:List EntL}:∀ r∈es.map ze1,r.length=2:=by
 intro r hr;obtain⟨e,-,rfl⟩:=List.mem_map.1 hr;rfl
theorem take_le (key:List UInt8) (es:List EntL) (k:Nat):(zbf key (es.take k)).length≤es.length :=
 Nat.le_trans (zkl _ _) (by simp; omega)
theorem zgd {s:Nat} {w:World} {v:Value} {xs:List (List Value)} (h:ReadsK s w v xs) {p:Addr} (hp:∀ k,v.ownBlock=some k→k≠p.block) (u:Value):ReadsK s (w.setCell p u) v xs:=by
 obtain⟨a,cap,rfl,hle,h⟩:=h;refine⟨a,cap,rfl,hle,fun i row hi=>?_⟩
 obtain⟨b,o,rfl,hcell⟩:=h i row hi;exact⟨b,o,rfl,fun j x hj=>(World.cell?_of_block (w:=w) (a:=⟨b,o+i*s+j,none⟩) (Below.heap_setCell _ _ _ _ (hp b rfl))).trans (hcell j x hj)⟩
theorem zl8 (rb:Nat) (lv:Value) (many:Nat) (es:List EntL) (key v:List UInt8) (w:World) (h:RefAt w rb lv many es) (hlv:∀ k,lv.ownBlock=some k→k<w.heap.size) (hm:es.length≤1000) (h1:1≤many) :
  Calls Tryz.prog 105 #[.pointer (some ⟨rb,0,none⟩),str key,str v] w fun e w' =>
   e=.returned (.tuple #[])∧∃ lv',RefAt w' rb lv' many (zhn many key v es)∧Fr w.heap.size (fun k=>k=rb) w w'∧(∀ k,lv'.ownBlock=some k→w.heap.size≤k∧k<w'.heap.size):=by
 have hle:=h.row.le;have hr:=h.row;have hrb:rb<w.heap.size:=zab h.blk;obtain⟨a,cap,rfl,-,-⟩:=hr;simp only[List.length_map] at *;have HH:=Hd h;clear h;go_enter Tryz.func105,Tryz.ntmps105
 go_wp2
 go_loopw [6,7] (fun lv i wl=>∃ k:Nat,k≤es.length∧i=.int .i64 k∧wl.ownsRow w.heap.size 245 2 lv (zbf key (es.take k)).length (zew (zbf key (es.take k)))∧Below w.heap.size w wl) (fun _ i _=>es.length - (intOf i).toNat)
 case atStart=>exact⟨0,by omega,rfl,by simpa[zew] using World.ownsRow_nil w _ _ _,Below.refl _ _⟩
 case round =>
  obtain⟨k,hkl,rfl,hown,hbl⟩:=hrel;have c1:wr.cell? ⟨rb,1,none⟩=some (.slice a es.length cap):=by
   rw[cell_of_heap ((hbl.block _ hrb).trans HH.out.blk)]; rfl
  have hrr:=HH.out.row.below hbl hlv;have HO:=Hd hown;have HB:=Hd hbl;clear hown hbl;by_cases hlt:k<es.length
  ·obtain⟨b,o,hix,-,hce⟩:=hrr.at (P:=Tryz.prog) Tryz.underlying66 (by kernel_rfl) k (by simpa using hlt)
   have e0:wr.cell? ⟨b,o,none⟩=some (str es[k].1):=hce 0 _ (by simp)
   have e1:wr.cell? ⟨b,o+1,none⟩=some (str es[k].2):=hce 1 _ (by simp)
   clear hce hrr;have hsz:=HB.out.size;have hn:=take_le key es k;by_cases he:es[k].1=key
   ·have hd:(es[k].1==key)=true:=by simpa using he
    have HD:=Hd (zqw hlt hd);have HE:=Hd he;clear he;go_wp2
    go_roundw
    case rel=>exact⟨k+1,by omega,by go_num,by rw[HD.out]; exact HO.out,HB.out⟩
    case measure=>simp[intOf]; omega
   ·have hd:(es[k].1==key)=false:=by simpa using he
    have HD:=Hd (zqv hlt hd);have HE:=Hd he;clear he;go_wp2_with (first
     |(at_builtin
       refine zbs _ rfl (.tmp 27) (.tmp 35) 66 rfl zxf w.heap.size u6 _ _ rfl (HO.out.alloc _) ⟨wr.heap.size,0,none⟩ 1 1 (ze1 es[k]) rfl rfl (zcm wr (ze1 es[k]) _) ?_ (by decide) ?_ ?_ ?_
       ·intro u hu; simp at hu; rcases hu with rfl | rfl <;> rfl
       ·omega
       ·simp; omega
       intro v5 w5 ho5 hg5 hloc5))
    go_roundw
    case rel =>
     refine⟨k+1,by omega,by go_num,?_,?_⟩
     ·rw[HD.out];simp only[zew,List.map_append,List.flatten_append,List.length_append,List.map_cons,List.map_nil,List.flatten_cons,List.flatten_nil,List.append_nil,List.length_cons,List.length_nil];exact ho5
     ·exact (HB.out.alloc hsz _).grown hg5 (by simp; omega) (fun r hr=>za5 HO.out hr)
    case measure=>simp[intOf]; omega
  ·obtain rfl:k=es.length:=by omega
   have HO2:=HO.out;rw[List.take_length] at HO2;have c0:wr.cell? ⟨rb,0,none⟩=some (.int .i64 many):=by
    rw[cell_of_heap ((HB.out.block _ hrb).trans HH.out.blk)]; rfl
   have HO3:=Hd HO2;have hsz:=HB.out.size;have hn:=zkl key es;obtain⟨n,hnn⟩:∃ n,n=(zbf key es).length:=⟨_,rfl⟩;have HO4:Hid (wr.ownsRow w.heap.size 245 2 u6 n (zew (zbf key es))):=Hd (by rw[hnn]; exact HO2)
   have HN:=Hd hnn;rw[← hnn] at hn;clear HO HO2 HO3 hrr hnn;have app:∀ v5 w5,w5.ownsRow w.heap.size 245 2 v5 (n+1) (zew (zbf key es)++ze1 (key,v))→(wr.alloc (.cells #[str key,str v] 245)).grownBy w5 u6.ownBlock →
     Below w.heap.size w w5∧∃ g cap5,v5=.slice (some ⟨g,0,none⟩) (n+1) cap5∧n+1≤cap5∧cap5≤9223372036854775807∧w.heap.size≤g∧g<w5.heap.size:=by
    intro v5 w5 ho hg;refine⟨(HB.out.alloc hsz _).grown hg (by simp; omega) (fun r hr=>za5 HO4.out hr),?_⟩
    rcases ho.2 with ⟨-,h0⟩ |⟨g,cap5,cur,rfl,h1,h2,h3,h4,-⟩
    ·omega
    ·exact⟨g,cap5,rfl,h3,by unfold maxLen at h4; omega,h1,zab h2⟩
   have rows:∀ (w5:World) (g cap5:Nat),w5.ownsRow w.heap.size 245 2 (.slice (some ⟨g,0,none⟩) (n+1) cap5) (n+1) (zew (zbf key es)++ze1 (key,v)) →
     w5.ownsRow w.heap.size 245 2 (.slice (some ⟨g,0,none⟩) (n+1) cap5) (n+1) ((zbf key es++[(key,v)]).map ze1).flatten:=by
    intro w5 g cap5 ho;simpa[zew] using ho
   have APP:=Hd app;have ROWS:=Hd rows;clear app rows;by_cases hl:many<n+1
   ·have hd:decide ((many:Int)<(n:Int)+1)=true:=by simp; omega
    go_wp2_with (first
     |(at_builtin
       refine zbs _ rfl (.tmp 37) (.tmp 41) 66 rfl zxf w.heap.size u6 n _ rfl (HO4.out.alloc _) ⟨wr.heap.size,0,none⟩ 1 1 (ze1 (key,v)) rfl rfl (zcm wr (ze1 (key,v)) _) ?_ (by decide) ?_ ?_ ?_
       ·intro u hu; simp at hu; rcases hu with rfl | rfl <;> rfl
       ·omega
       ·simp; omega
       intro v5 w5 ho5 hg5 hloc5;obtain⟨hb5,g,cap5,rfl,hc1,hc2,hg1,hg2⟩:=APP.out v5 w5 ho5 hg5;have hh5:=(hb5.block _ hrb).trans HH.out.blk;have d0:w5.cell? ⟨rb,0,none⟩=some (.int .i64 many):=(cell_of_heap hh5 0).trans rfl;have d1:w5.cell? ⟨rb,1,none⟩=some (.slice a es.length cap):=(cell_of_heap hh5 1).trans rfl;have f1:w5.frozen? ⟨rb,1,none⟩=false:=zal hh5 1;have HB5:=Hd hb5;have H5:=Hd hh5;have HO5:=Hd (ROWS.out w5 g cap5 ho5);have hne1:¬ cap5=1:=by omega
       have G1:=Hd hg1;have G2:=Hd hg2;clear hb5 hh5 ho5 hg5 hloc5 hg1 hg2))
    go_end0
    have hrest:∃ e0 rest,zbf key es++[(key,v)]=e0::rest:=by
     cases zbf key es with
     | nil=>exact⟨_,_,rfl⟩
     | cons x l=>exact⟨_,_,rfl⟩
    obtain⟨e0,rest,hrest⟩:=hrest;have hlen:rest.length=n:=by
     have:=congrArg List.length hrest;simp at this;rw[HN.out]; omega
    refine⟨rfl,_,⟨Kf.heap_setCell_same H5.out _,?_⟩,?_,?_⟩
    ·unfold zhn;rw[if_pos (by rw[← HN.out]; exact hl),hrest]
     have ho:=HO5.out;rw[hrest] at ho;have hr5:=zgf ho (by simp[hlen]) (zl7 (es:=e0::rest)) (cap5 - 1)
     rw[Nat.add_sub_cancel] at hr5;refine zgd hr5 (fun k hk=>?_) _
     cases hk
     have:=G1.out;show g≠rb;omega
    ·exact Fr.setCell (S:=fun k=>k=rb) (p:=⟨rb,1,none⟩) (Fr.of_below HB5.out) (fun _=>rfl) _
    ·intro k hk;cases hk
     refine⟨G1.out,?_⟩
     have:=G2.out;simpa[World.setCell] using this
   ·have hd:decide ((many:Int)<(n:Int)+1)=false:=by simp; omega
    go_wp2_with (first
     |(at_builtin
       refine zbs _ rfl (.tmp 37) (.tmp 41) 66 rfl zxf w.heap.size u6 n _ rfl (HO4.out.alloc _) ⟨wr.heap.size,0,none⟩ 1 1 (ze1 (key,v)) rfl rfl (zcm wr (ze1 (key,v)) _) ?_ (by decide) ?_ ?_ ?_
       ·intro u hu; simp at hu; rcases hu with rfl | rfl <;> rfl
       ·omega
       ·simp; omega
       intro v5 w5 ho5 hg5 hloc5;obtain⟨hb5,g,cap5,rfl,hc1,hc2,hg1,hg2⟩:=APP.out v5 w5 ho5 hg5;have hh5:=(hb5.block _ hrb).trans HH.out.blk;have d0:w5.cell? ⟨rb,0,none⟩=some (.int .i64 many):=(cell_of_heap hh5 0).trans rfl;have d1:w5.cell? ⟨rb,1,none⟩=some (.slice a es.length cap):=(cell_of_heap hh5 1).trans rfl;have f1:w5.frozen? ⟨rb,1,none⟩=false:=zal hh5 1;have HB5:=Hd hb5;have H5:=Hd hh5;have HO5:=Hd (ROWS.out w5 g cap5 ho5);have G1:=Hd hg1;have G2:=Hd hg2;clear hb5 hh5 ho5 hg5 hloc5 hg1 hg2))
    go_end0
    refine⟨rfl,_,⟨Kf.heap_setCell_same H5.out _,?_⟩,?_,?_⟩
    ·unfold zhn;rw[if_neg (by rw[← HN.out]; exact hl)]
     refine zgd (zcb HO5.out (by simp[HN.out]) zl7) (fun k hk=>?_) _
     cases hk
     have:=G1.out;show g≠rb;omega
    ·exact Fr.setCell (S:=fun k=>k=rb) (p:=⟨rb,1,none⟩) (Fr.of_below HB5.out) (fun _=>rfl) _
    ·intro k hk;cases hk
     refine⟨G1.out,?_⟩
     have:=G2.out;simpa[World.setCell] using this
structure Twin (many:Nat) (l:List (List UInt8)) (m:List (List UInt8×List UInt8)) (es:List EntL):Prop where
 keys:es.map Prod.fst=l
 nodup:l.Nodup
 mnodup:(m.map Prod.fst).Nodup
 len:es.length≤many
 look:∀ k,zaa k m=zaa k es
theorem Twin.init (many:Nat):Twin many [] [] []:=⟨rfl,List.nodup_nil,List.nodup_nil,by simp,fun _=>rfl⟩
theorem zex (key:List UInt8) (es:List EntL):(zbf key es).map Prod.fst=zan key (es.map Prod.fst):=by
 unfold zbf zan;rw[List.filter_map];rfl
theorem zkm (key k:List UInt8):∀ es:List EntL,zaa k (zbf key es)=if key=k then none else zaa k es
 | []=>by simp[zbf,zaa]
 | e::es=>by
  have ih:=zkm key k es;unfold zbf at ih ⊢;rw[List.filter_cons];by_cases he:e.1=key
  ·have hd:(e.1==key)=true:=by simpa using he
   rw[hd];simp only[Bool.not_true,Bool.false_eq_true,if_false];rw[ih];by_cases hk:key=k
   ·simp[hk]
   ·rw[if_neg hk,if_neg hk]
    conv=>rhs; unfold zaa
    rw[if_neg (by rw[he]; exact hk)]
  ·have hd:(e.1==key)=false:=by simpa using he
   rw[hd];simp only[Bool.not_false,if_true];unfold zaa;rw[ih];by_cases hk:key=k
   ·rw[if_pos hk,if_pos hk,if_neg (by rw[← hk]; exact he)]
   ·rw[if_neg hk,if_neg hk]
theorem zo7 (key v k:List UInt8):∀ es:List EntL,zaa k (es++[(key,v)])=(zaa k es).or (if key=k then some v else none)
 | []=>by simp[zaa]
 | e::es=>by
  rw[List.cons_append];unfold zaa;by_cases h:e.1=k
  ·simp[h]
  ·rw[if_neg h,if_neg h];exact zo7 key v k es
theorem zo8 (key v k:List UInt8) (es:List EntL):zaa k (zbf key es++[(key,v)])=if key=k then some v else zaa k es:=by
 rw[zo7,zkm];by_cases h:key=k
 ·simp[h]
 ·simp[h]
theorem zo9 {key:List UInt8} {l:List (List UInt8)} (h:l.Nodup):(zan key l++[key]).Nodup:=by
 rw[List.nodup_append];refine⟨h.sublist List.filter_sublist,by simp,fun a ha b hb e=>?_⟩
 simp only[List.mem_singleton] at hb;subst hb e;simp[zan] at ha
theorem zpa (k v:List UInt8):∀ l:List (List UInt8×List UInt8),(l.map Prod.fst).Nodup→((mupd k v l).map Prod.fst).Nodup∧∀ x,x∈(mupd k v l).map Prod.fst→x=k∨x∈l.map Prod.fst
 | [],_=>by simp[mupd]
 | p::l,h=>by
  rw[List.map_cons,List.nodup_cons] at h;obtain⟨i1,i2⟩:=zpa k v l h.2;unfold mupd;by_cases he:p.1=k
  ·rw[if_pos he];subst he;exact⟨by rw[List.map_cons,List.nodup_cons]; exact h,fun x hx=>by rw[List.map_cons] at hx ⊢; exact Or.inr hx⟩
  ·rw[if_neg he];rw[List.map_cons];refine⟨List.nodup_cons.2 ⟨fun hm=>?_,i1⟩,fun x hx=>?_⟩
   ·rcases i2 _ hm with e | e
    ·exact he e
    ·exact h.1 e
   ·rw[List.map_cons,List.mem_cons];rw[List.mem_cons] at hx;rcases hx with e | e
    ·exact Or.inr (Or.inl e)
    ·rcases i2 _ e with e | e
     ·exact Or.inl e
     ·exact Or.inr (Or.inr e)
theorem Twin.put {many:Nat} {l:List (List UInt8)} {m:List (List UInt8×List UInt8)} {es:List EntL} (h:Twin many l m es) (key v:List UInt8):Twin many (zic many key l) (zgo many key v l m) (zhn many key v es):=by
 have hlen:(zan key l).length=(zbf key es).length:=by rw[← h.keys,← zex,List.length_map]
 have hk1:(zbf key es++[(key,v)]).map Prod.fst=zan key l++[key]:=by rw[List.map_append,zex,h.keys]; rfl
 have hn1:=zo9 (key:=key) h.nodup;have hm1:=(zpa key v m h.mnodup).1;have hl1:∀ k,zaa k (mupd key v m)=zaa k (zbf key es++[(key,v)]):=fun k=>by rw[zd8,zo8,h.look]
 have hle:=zkl key es;have hlen1:(zan key l++[key]).length=(zbf key es).length+1:=by rw[List.length_append,hlen]; rfl
 unfold zic zgo zhn;rw[hlen1];by_cases hd:many<(zbf key es).length+1
 ·rw[if_pos hd,if_pos hd,if_pos hd];obtain⟨e0,rest,hr⟩:∃ e0 rest,zbf key es++[(key,v)]=e0::rest:=by
   cases zbf key es with
   | nil=>exact⟨_,_,rfl⟩
   | cons x l=>exact⟨_,_,rfl⟩
  rw[hr] at hk1 hl1 ⊢;rw[List.map_cons] at hk1;rw[← hk1] at hn1 ⊢;refine⟨by simp,(List.nodup_cons.1 hn1).2,?_,?_,fun k=>?_⟩
  ·rw[zc3 _ _ hm1];exact hm1.sublist List.filter_sublist
  ·have:=congrArg List.length hr;have hh:=h.len;simp at this ⊢;omega
  ·simp only[List.headD_cons,List.drop_succ_cons,List.drop_zero];rw[zgu _ _ _ hm1,hl1]
   conv=>lhs; rw[show zaa k (e0::rest)=if e0.1=k then some e0.2 else zaa k rest from rfl]
   by_cases he:e0.1=k
   ·rw[if_pos he];have hno:=(List.nodup_cons.1 hn1).1;rw[he] at hno;exact (mlook_none.2 hno).symm
   ·rw[if_neg he,if_neg he]
 ·rw[if_neg hd,if_neg hd,if_neg hd];exact⟨hk1,hn1,hm1,by simp; omega,hl1⟩
theorem Twin.get {many:Nat} {l:List (List UInt8)} {m:List (List UInt8×List UInt8)} {es:List EntL} (h:Twin many l m es) (key s:List UInt8) (hs:zaa key m=some s):Twin many (zan key l++[key]) m (zhn many key s es):=by
 have hs':zaa key es=some s:=by rw[← h.look,hs]
 have hin:key∈l:=by
  rcases Classical.em (key∈l) with h' | h'
  ·exact h'
  ·rw[← h.keys] at h';rw[mlook_none.2 h'] at hs';cases hs'
 have hlen:(zan key l).length=(zbf key es).length:=by rw[← h.keys,← zex,List.length_map]
 have hlt:=zl5 hin;have hll:l.length=es.length:=by rw[← h.keys,List.length_map]
 have hk1:(zbf key es++[(key,s)]).map Prod.fst=zan key l++[key]:=by rw[List.map_append,zex,h.keys]; rfl
 have hle:=h.len;unfold zhn;rw[if_neg (by omega)]
 refine⟨hk1,zo9 h.nodup,h.mnodup,by simp; omega,fun k=>?_⟩
 rw[zo8,h.look];by_cases he:key=k
 ·rw[if_pos he,← he,hs']
 ·rw[if_neg he]
def zpb (many:Nat) (key:List UInt8) (es:List EntL):List EntL :=
 match zaa key es with
 | none=>es
 | some s=>zhn many key s es
theorem zt1 {es:List EntL} {key:List UInt8} (h:NoKey es key):zaa key es=none:=mlook_none.2 h
theorem zl9:∀ {es:List EntL} {key:List UInt8} {i:Nat},KeyAt es key i→∃ h:i<es.length,zaa key es=some es[i].2
 | [],_,_,⟨h,_,_⟩=>by simp at h
 | e::es,key,i,⟨h,h1,h2⟩=>by
  refine⟨h,?_⟩
  cases i with
  | zero =>
   simp only[List.getElem_cons_zero] at h1 ⊢;unfold zaa;rw[if_pos h1]
  | succ i =>
   simp only[List.getElem_cons_succ] at h1 ⊢;simp only[List.take_succ_cons,List.map_cons,List.mem_cons,not_or] at h2;unfold zaa;rw[if_neg (fun e=>h2.1 e.symm)];obtain⟨_,h3⟩:=zl9 (es:=es) (key:=key) (i:=i) ⟨by simpa using h,h1,h2.2⟩
   exact h3
theorem zt2 (rb:Nat) (lv:Value) (many:Nat) (es:List EntL) (key:List UInt8) (w:World) (h:RefAt w rb lv many es) (hlv:∀ k,lv.ownBlock=some k→k<w.heap.size) (hm:es.length≤1000) (h1:1≤many) :
  Calls Tryz.prog 103 #[.pointer (some ⟨rb,0,none⟩),str key] w fun e w' =>
   e=.returned (.tuple #[str ((zaa key es).getD []), .bool (zaa key es).isSome]) ∧
   ∃ lv',RefAt w' rb lv' many (zpb many key es)∧Fr w.heap.size (fun k=>k=rb) w w'∧(∀ k,lv'.ownBlock=some k→lv.ownBlock=some k∨(w.heap.size≤k∧k<w'.heap.size)):=by
 have hle:=h.row.le;have hr:=h.row;obtain⟨a,cap,rfl,-,-⟩:=hr;simp only[List.length_map] at *;have c1:w.cell? ⟨rb,1,none⟩=some (.slice a es.length cap):=by rw[cell_of_heap h.blk]; rfl
 have HH:=Hd h;clear h;go_enter Tryz.func103,Tryz.ntmps103
 go_wp2_with fail
 go_at_call 168
 refine (zzq rb _ many es key _ HH.out).mono ?_
 rintro e w' ⟨rfl,⟨rfl,hno⟩ |⟨i,rfl,hat⟩⟩
 ·have HL:=Hd (zt1 hno);clear hno;go_wp2
  go_ret2
  rw[HL.out];refine⟨rfl,_,?_, .refl _ _ _,fun k hk=>Or.inl hk⟩
  unfold zpb;rw[HL.out];exact HH.out
 ·obtain⟨hi,hlk⟩:=zl9 hat
  have HL:=Hd hlk;clear hlk hat
  obtain⟨b,o,hix,-,hce⟩:=HH.out.row.at (P:=Tryz.prog) Tryz.underlying66 (by kernel_rfl) i (by simpa using hi)
  have e1:w.cell? ⟨b,o+1,none⟩=some (str es[i].2):=hce 1 _ (by simp)
  clear hce;go_wp2_with fail
  go_at_call 105
  refine (zl8 rb _ many es key es[i].2 _ HH.out hlv hm h1).mono ?_
  rintro e w2 ⟨rfl,lv',hR,hF,hown⟩;go_wp2
  go_ret2
  rw[HL.out];refine⟨rfl,lv',?_,hF,fun k hk=>Or.inr (hown k hk)⟩
  unfold zpb;rw[HL.out];exact hR
end Go.Proofs.YtgjialbmlhbngaaGreatDoor
