/-
  The reference's yard: one number of a script. The reference's yard: a whole script. The reference: Joined.
-/
import Derived.Test.YtgjialbmlhbngaaGreatDoorRsE
import Derived.Test.YtgjialbmlhbngaaGreatDoorRsB

set_option maxRecDepth 100000
namespace Go.Proofs.YtgjialbmlhbngaaGreatDoor
open Go Go.RowKit Go.Kf Go.Sort Go.Proofs
def zph (n j:Nat):List UInt8:=((List.range j).map (bitV n)).reverse
theorem zuc (n j:Nat):zph n (j+1)=bitV n j::zph n j:=by
 unfold zph;rw[List.range_succ,List.map_append,List.reverse_append];rfl
theorem zud (n:Nat):zph n 5=ze4 n:=rfl
theorem zzx {w:World} {g:Nat} {x y:Value} {t:TypeId} (h:w.heap[g]? = some (.cells #[x,y] t (0,0))):∀ q u,[x,y][q]? = some u→w.cell? ((⟨g,0,none⟩:Addr).add q)=some u:=by
 intro q u hq;rw[zb0 rfl];simp only[Nat.zero_add];rw[cell_of_heap h]
 match q,hq with
 | 0,hq=>simpa using hq
 | 1,hq=>simpa using hq
 | q+2,hq=>simp at hq
theorem zzy {w:World} (y:Nat) (v:Int) (h:v<0):Calls Tryz.prog 121 #[ptrV y, .int .i64 v] w fun e w'=>e=.returned (.int .i64 (-1))∧w'=w:=by
 go_enter Tryz.func121,Tryz.ntmps121
 go_wp2
 go_ret
 exact⟨rfl,rfl⟩
set_option maxHeartbeats 3000000 in
theorem zzz {w1 w:World} {Z:RY} {a:PS} {L O:List Ent} (v:Nat) (hv:v≤9223372036854775807) (h:RPSt w1 Z a L O w) (hR:Z.R.map Prod.fst=playL) :
  Calls Tryz.prog 121 #[ptrV Z.y, .int .i64 (v:Int)] w fun e w'=>∃ (x:Nat) (b:PS) (lt' lo' lc':Value) (L' O':List Ent),e=.returned (.int .i64 (x:Int))∧PlayRel a v x b ∧
   RPSt w1 { Z with lt:=lt',lo:=lo',lc:=lc' } b L' O' w'∧RTurn Z { Z with lt:=lt',lo:=lo',lc:=lc' } w w':=by
 have h3:v / 8 % 3=0∨v / 8 % 3=1∨v / 8 % 3=2:=by omega
 have HF:=Hd h;have HR:=Hd hR;obtain⟨cc0,-,-,-⟩:=h.yard.cells;have HTT:=Hd h.yard.tree;have HHB:=Hd h.yard.hB;have hLm:=h.twt.many;have hLp:=h.twt.perm.length_eq;clear h hR;obtain⟨k,hk⟩:∃ k,v % 8=k:=⟨_,rfl⟩;have HK:=Hd hk;have hk8:k<8:=by omega
 have hki:(v:Int) % 8=(k:Int):=by omega
 have hneg:((v:Int)<0)=False:=eq_false (by omega)
 clear hk;rcases h3 with h3 | h3 | h3
 all_goals
  have hqi:(v:Int) / 8 % 3=((v / 8 % 3:Nat):Int):=by omega
  rw[h3] at hqi;obtain⟨nm,hnm⟩:∃ s:List UInt8,zqy (v / 8)=s:=⟨_,rfl⟩;have HNM:=Hd hnm;unfold zqy at hnm;rw[h3] at hnm;simp only[Nat.add_zero,Nat.reduceAdd] at hnm;clear h3
 all_goals
  by_cases h4:k=4
  ·have c4:((v:Int) % 8==4)=true:=by simp; omega
   have KR:=Hd (zkb w1.heap.size Z.t Z.lt L nm w HTT.out HHB.out (by omega))
   subst h4;subst hnm;clear hki;go_enter Tryz.func121,Tryz.ntmps121
   go_wp2_with fail
   refine KR.out.mono ?_
   rintro e w4 ⟨rfl,lt',hT,hf,hl⟩;have HY:=Hd (HF.out.yard.tstep hT (hf.mono (Nat.le_refl _) (fun _ _ h=>Or.inl h)) hl);have HN:Hid (RPSt w1 { Z with lt:=lt' } { a with m:=mdel _ a.m } (mdel _ L) O w4):=Hd ⟨HY.out.1,HF.out.twt.del _,HF.out.two,HF.out.cok,HF.out.low.trans ((hf.mono HF.out.low.size (fun _ _ h=>h)).below (fun k hk e=>by have:=HF.out.yard.low 1 k (by omega) (Or.inl e); omega))⟩
   clear hT hf hl;go_wp2
   go_ret
   exact⟨_,_,lt',Z.lo,Z.lc,_,O,rfl,by have h:=PlayRel.rem (a:=a) HK.out; rw[HNM.out,HF.out.twt.removeC] at h; exact h,HN.out,HY.out.2⟩
  have c4:((v:Int) % 8==4)=false:=by simp; omega
  by_cases h5:k=5
  ·have c5:((v:Int) % 8==5)=true:=by simp; omega
   subst h5;clear hki;go_enter Tryz.func121,Tryz.ntmps121
   have KM:=Hd (zif HF.out HR.out [] (.slice none 0 0) ⟨none,0,rfl,by simp,fun i u h=>by cases h⟩ (fun _=>rfl) (by simp) (fun s hs=>by cases hs))
   go_wp2_with fail
   refine KM.out.mono ?_
   rintro e w8 ⟨uu,n,mo',c',lo',lc',O',rfl,hrel,hf8,ht8⟩;obtain⟨W9,hW9⟩:∃ W,w8.alloc (.cells #[.int .i64 0, .int .i64 (-1)] 71)=W:=⟨_,rfl⟩;have hA9:Below w8.heap.size w8 W9:=hW9▸(Below.refl _ w8).alloc (Nat.le_refl _) _;have hg9:W9.heap[w8.heap.size]? = some (.cells #[.int .i64 0, .int .i64 (-1)] 71 (0,0)):=hW9▸heap_alloc_here w8 _;have hz0:W9.cell? ⟨w8.heap.size,0,none⟩=some (.int .i64 0):=(cell_of_heap hg9 0).trans rfl;have HF9:=Hd (hf8.below hA9);have HT9:=Hd (RTurn.trans (RTurn.of_below (Below.refl _ _)) (RTurn.trans ht8 (RTurn.of_below hA9)));have HREL:=Hd hrel;have HW9:=Hd hW9;clear hrel hf8 hW9 ht8 hA9 hg9;unfold zdz;go_wp2_with fail
   try rw[HW9.out]
   go_wp2
   go_ret
   exact⟨0,⟨a.m,mo',c'⟩,Z.lt,lo',lc',L,O',rfl, .make (by have:=HK.out; omega) (by rw[HK.out]; exact HREL.out),HF9.out,HT9.out⟩
  have c5:((v:Int) % 8==5)=false:=by simp; omega
  by_cases h6:k=6
  ·have c6:((v:Int) % 8==6)=true:=by simp; omega
   have KS:=Hd (zie w);subst h6;clear hki;go_enter Tryz.func121,Tryz.ntmps121
   go_wp2_with fail
   refine KS.out.mono ?_
   rintro e w2 ⟨vs,Rs,rfl,hRs,hos,hb2⟩;have hrul:=hos.rules.1.1;obtain⟨asl,csl,hvs,-,-⟩:=id hrul;have hRl:Rs.length=6:=by have:=congrArg List.length hRs; rw[List.length_map] at this; exact this
   rw[List.length_map,hRl] at hvs;subst hvs;have hq6:v / 8 % 6<6:=by omega
   obtain⟨b,o,hix,-,hce⟩:=hrul.at (P:=Tryz.prog) Tryz.underlying22 (by kernel_rfl) (v / 8 % 6) (by rw[List.length_map,hRl]; exact hq6)
   simp only[List.getElem_map] at hce;have hc0:=hce 0 _ rfl;have hro:Rs[v / 8 % 6].1.out=(playL.getD (v / 8 % 6) noR).out:=by
    rw[zat (show v / 8 % 6<playL.length from hq6)];have h1:(Rs.map Prod.fst)[v / 8 % 6]'(by rw[List.length_map,hRl]; exact hq6)=playL[v / 8 % 6]'(show v / 8 % 6<playL.length from hq6):=by simp only[hRs]
    rw[List.getElem_map] at h1;rw[h1]
   simp only[Nat.add_zero,hro] at hc0;have HOV:Hid (zqz 6 (v / 8)=[(playL.getD (v / 8 % 6) noR).out]):=Hd (by unfold zqz; rw[if_pos rfl])
   have hcast:(v:Int) / 8 % 6=((v / 8 % 6:Nat):Int):=by omega
   clear hce hro hq6;generalize (playL.getD (v / 8 % 6) noR).out=so at *;generalize v / 8 % 6=j at *;have HF2:=Hd (HF.out.below hb2);have hzw:=hb2.size;have HB2:=Hd hb2;clear hRs hos hb2 hrul KS;go_wp2_with (first
    |(at_builtin
      refine zah _ rfl _ _ 33 rfl tyStrsK w.heap.size _ _ _ rfl (World.ownsRow_nil _ _ _ _) ⟨w2.heap.size,0,none⟩ 1 1 [str so] rfl rfl (zap ?_) ?_ (by decide) ?_ ?_ ?_
      ·rw[cell_of_heap (heap_alloc_here w2 _)]; rfl
      ·intro u hu; simp at hu; first | (subst hu; rfl) | (rcases hu with rfl | rfl <;> rfl)
      ·omega
      ·simp; omega
      intro v6 w6 ho6 hg6 hloc6;have HO6:Hid (w6.ownsRow w.heap.size 9 1 v6 1 ([str so])):=Hd (by simpa using ho6)
      have HB6:Hid (Below w.heap.size w w6):=Hd ((HB2.out.alloc HB2.out.size _).grown hg6 (by simp; omega) (fun q hq=>by cases hq))
      clear ho6 hg6 hloc6))
   have HF6:=Hd (HF.out.below HB6.out);have KM:=Hd (zif HF6.out HR.out [so] v6 (zac HO6.out) (fun h=>by cases h) (by simp) (by rw[← HOV.out]; exact zi9 _ _))
   refine KM.out.mono ?_
   rintro e w8 ⟨uu,n,mo',c',lo',lc',O',rfl,hrel,hf8,ht8⟩;obtain⟨W9,hW9⟩:∃ W,w8.alloc (.cells #[.int .i64 0, .int .i64 (-1)] 71)=W:=⟨_,rfl⟩;have hA9:Below w8.heap.size w8 W9:=hW9▸(Below.refl _ w8).alloc (Nat.le_refl _) _;have hg9:W9.heap[w8.heap.size]? = some (.cells #[.int .i64 0, .int .i64 (-1)] 71 (0,0)):=hW9▸heap_alloc_here w8 _;have hz0:W9.cell? ⟨w8.heap.size,0,none⟩=some (.int .i64 0):=(cell_of_heap hg9 0).trans rfl;have HF9:=Hd (hf8.below hA9);have HT9:=Hd (RTurn.trans (RTurn.of_below HB6.out) (RTurn.trans ht8 (RTurn.of_below hA9)));have HREL:=Hd hrel;have HW9:=Hd hW9;clear hrel hf8 hW9 ht8 hA9 hg9;unfold zdz;go_wp2_with fail
   try rw[HW9.out]
   go_wp2
   go_ret
   exact⟨0,⟨a.m,mo',c'⟩,Z.lt,lo',lc',L,O',rfl, .make (by have:=HK.out; omega) (by rw[HK.out]; rw[HOV.out]; exact HREL.out),HF9.out,HT9.out⟩
  have c6:((v:Int) % 8==6)=false:=by simp; omega
  by_cases h7:k=7
  ·have c7:((v:Int) % 8==7)=true:=by simp; omega
   subst h7;go_enter Tryz.func121,Tryz.ntmps121
   go_wp2_with (first
    |(at_builtin
      refine zah _ rfl _ _ 33 rfl tyStrsK w.heap.size _ _ _ rfl (World.ownsRow_nil _ _ _ _) ⟨w.heap.size,0,none⟩ 2 2 [str [104,100],str [99,110,116]] rfl rfl (zzx (heap_alloc_here w _)) ?_ (by decide) ?_ ?_ ?_
      ·intro u hu; simp at hu; first | (subst hu; rfl) | (rcases hu with rfl | rfl <;> rfl)
      ·first | omega | simp
      ·first | omega | (simp; done) | (simp; omega)
      intro v6 w6 ho6 hg6 hloc6;have HO6:Hid (w6.ownsRow w.heap.size 9 1 v6 2 ([str [104,100],str [99,110,116]])):=Hd (by simpa using ho6)
      have HB6:Hid (Below w.heap.size w w6):=Hd (((Below.refl w.heap.size w).alloc (Nat.le_refl _) _).grown hg6 (by first | omega | (simp; done) | (simp; omega)) (fun q hq=>by cases hq))
      clear ho6 hg6 hloc6))
   have HF6:=Hd (HF.out.below HB6.out);have KM:=Hd (zif HF6.out HR.out [[104,100],[99,110,116]] v6 (zac HO6.out) (fun h=>by cases h) (by simp) (zi9 7 0))
   refine KM.out.mono ?_
   rintro e w8 ⟨uu,n,mo',c',lo',lc',O',rfl,hrel,hf8,ht8⟩;obtain⟨W9,hW9⟩:∃ W,w8.alloc (.cells #[.int .i64 0, .int .i64 (-1)] 71)=W:=⟨_,rfl⟩;have hA9:Below w8.heap.size w8 W9:=hW9▸(Below.refl _ w8).alloc (Nat.le_refl _) _;have hg9:W9.heap[w8.heap.size]? = some (.cells #[.int .i64 0, .int .i64 (-1)] 71 (0,0)):=hW9▸heap_alloc_here w8 _;have hz0:W9.cell? ⟨w8.heap.size,0,none⟩=some (.int .i64 0):=(cell_of_heap hg9 0).trans rfl;have HF9:=Hd (hf8.below hA9);have HT9:=Hd (RTurn.trans (RTurn.of_below HB6.out) (RTurn.trans ht8 (RTurn.of_below hA9)));have HREL:=Hd hrel;have HW9:=Hd hW9;clear hrel hf8 hW9 ht8 hA9 hg9;unfold zdz;go_wp2_with fail
   try rw[HW9.out]
   go_wp2
   go_ret
   exact⟨0,⟨a.m,mo',c'⟩,Z.lt,lo',lc',L,O',rfl, .make (by have:=HK.out; omega) (by rw[HK.out]; exact HREL.out),HF9.out,HT9.out⟩
  have c7:((v:Int) % 8==7)=false:=by simp; omega
  have hcast:(v:Int) / 8 / 3 % 32=((v / 8 / 3 % 32:Nat):Int):=by omega
  obtain⟨nn,hnn⟩:∃ n,v / 8 / 3 % 32=n:=⟨_,rfl⟩;have hnl:nn<32:=by omega
  have HNN:=Hd hnn;rw[hnn] at hcast;clear hki hnn;have KP:=Hd (zry w1.heap.size Z.t Z.lt L nm (ze4 nn) w HTT.out HHB.out (by omega) (by rw[← hnm]; simp))
  subst hnm;go_enter Tryz.func121,Tryz.ntmps121
  go_wp2_with fail
  go_loopw [8,9,10] (fun nv tv iv wl=>∃ j:Nat,j≤5∧iv=.int .i64 j∧nv=.int .i64 ((nn / 2 ^ j:Nat):Int)∧tv=str (zph nn j)∧wl=w) (fun _ _ iv _=>5 - (intOf iv).toNat)
  case atStart=>exact⟨0,by omega,rfl,by simp; exact hcast,rfl,rfl⟩
  case round =>
   obtain⟨j,hj,rfl,rfl,rfl,rfl⟩:=hrel;by_cases hlt:j<5
   ·have hlc:((j:Int)<5)=True:=eq_true (by omega)
    have hn2:nn / 2 ^ j / 2=nn / 2 ^ (j+1):=by rw[Nat.div_div_eq_div_mul,Nat.pow_succ]
    have hnb:nn / 2 ^ j<32:=Nat.lt_of_le_of_lt (Nat.div_le_self _ _) hnl;have hjl:(zph nn j).length=j:=by simp[zph]
    have HLS:=Hd (zuc nn j);have HBV:Hid (bitV nn j=if nn / 2 ^ j % 2=1 then 120 else 10):=Hd rfl
    have HN2:=Hd hn2;generalize nn / 2 ^ j=q at *;generalize zph nn j=tx at *;clear hn2;have hcl1:¬ (9223372036854775807<tx.length+1):=by omega
    have hcl2:¬ (9223372036854775807<1+tx.length):=by omega
    by_cases h1:q % 2=1
    ·have hm:((q:Int) % 2==1)=true:=by simp; omega
     rw[if_pos h1] at HBV;go_wp2
     go_roundw
     case rel=>exact⟨j+1,by omega,by go_num,by rw[← HN2.out]; exact congrArg (Value.int .i64) (by omega),by rw[HLS.out,HBV.out]; first | rfl | simp[str],by first | rfl | trivial⟩
     case measure=>simp[intOf]; omega
    ·have hm:((q:Int) % 2==1)=false:=by simp; omega
     rw[if_neg h1] at HBV;go_wp2
     go_roundw
     case rel=>exact⟨j+1,by omega,by go_num,by rw[← HN2.out]; exact congrArg (Value.int .i64) (by omega),by rw[HLS.out,HBV.out]; first | rfl | simp[str],by first | rfl | trivial⟩
     case measure=>simp[intOf]; omega
   ·obtain rfl:j=5:=by omega
    have hlc:(((5:Nat):Int)<5)=False:=eq_false (by omega)
    rw[zud];obtain⟨lt,hltv⟩:∃ lt,ze4 nn=lt:=⟨_,rfl⟩;have HLTV:=Hd hltv;rw[hltv] at KP ⊢;clear hltv;go_wp2_with fail
    refine KP.out.mono ?_
    rintro e w4 ⟨rfl,lt',hT,hf,hl⟩;have HY:=Hd (HF.out.yard.tstep hT hf hl);have HN:Hid (RPSt w1 { Z with lt:=lt' } { a with m:=putM _ lt a.m } (zh9 _ lt L) O w4):=Hd ⟨HY.out.1,HF.out.twt.put (by simp),HF.out.two,HF.out.cok,HF.out.low.trans ((hf.mono HF.out.low.size (fun _ _ h=>h)).below (fun k hk e=>by have:=HF.out.yard.low 1 k (by omega) e; omega))⟩
    clear hT hf hl;go_wp2
    go_ret
    exact⟨_,_,lt',Z.lo,Z.lc,_,O,rfl,by have h:=PlayRel.put (a:=a) (v:=v) (by have:=HK.out; omega); rw[HNM.out,HNN.out,HLTV.out,HF.out.twt.putC] at h; exact h,HN.out,HY.out.2⟩
theorem RTurn.row {Z Z':RY} {w w':World} {B z n:Nat} {e:TypeId} {u:Value} {xs:List Value} (h:RTurn Z Z' w w') (ho:w.ownsRow B e z u n xs) (hf:∀ i q,Z.sec i q→u.ownBlock≠some q):w'.ownsRow B e z u n xs∧∀ i q,Z'.sec i q→u.ownBlock≠some q :=
 ⟨zaf ho h.1 (fun q hq=>⟨(ho.lt q hq).2,fun hs=>by obtain⟨i,-,hs⟩:=hs; exact hf i q hs hq⟩),fun i q hq e=>(h.2 i q hq).elim (fun hs=>hf i q hs e) (fun hl=>by have:=(ho.lt q e).2; omega)⟩
theorem zpi {w1 w w4 w6:World} {Z Z0:RY} {a:PS} {L O:List Ent} {u v6:Value} {e:TypeId} {z n:Nat} {xs:List Value} {ob:Obj} (hst:RPSt w1 Z a L O w4) (ht:RTurn Z0 Z w w4) (ho:w4.ownsRow w.heap.size e z u n xs) (hof:∀ i q,Z.sec i q→u.ownBlock≠some q) (hw1:w1.heap.size≤w.heap.size)
  (hg:(w4.alloc ob).grownBy w6 u.ownBlock) (hloc:v6.ownBlock=u.ownBlock∨v6.ownBlock=some (w4.alloc ob).heap.size) :
  RPSt w1 Z a L O w6∧RTurn Z0 Z w w6∧∀ i q,Z.sec i q→v6.ownBlock≠some q:=by
 have hA:Below w4.heap.size w4 (w4.alloc ob):=(Below.refl _ w4).alloc (Nat.le_refl _) _;have hst':=hst.below hA;have hgf:=Fr.of_grown hg;have hz:(w4.alloc ob).heap.size=w4.heap.size+1:=by simp
 have hwz:=ht.1.size;refine⟨⟨hst'.yard.fr hgf (fun i q hq e=>hof i q hq e),hst'.twt,hst'.two,hst'.cok,hst'.low.trans ((hgf.mono hst'.low.size (fun _ _ h=>h)).below (fun k hk e=>by have:=(ho.lt k e).1; omega))⟩,
  ⟨(ht.1.trans ((Fr.of_below hA).mono hwz (fun _ _ h=>h))).trans (hgf.mono (by omega) (fun q hq e=>by have:=(ho.lt q e).1; omega)),ht.2⟩,fun i q hq e=>?_⟩
 rcases hloc with h | h
 ·rw[h] at e; exact hof i q hq e
 ·rw[h] at e;have h1:=Option.some.inj e;have:=hst.yard.lt i q hq;omega
set_option maxHeartbeats 4000000 in
theorem zxo {w1 w:World} {Z:RY} {a:PS} {L O:List Ent} (l:List Int) (vs:Value) (hl:∀ wl,Below w1.heap.size w1 wl→Reads wl vs (l.map num)) (hn:l.length≤3000) (hb:∀ z∈l,z≤9223372036854775807)
  (h:RPSt w1 Z a L O w) (hR:Z.R.map Prod.fst=playL) :
  Calls Tryz.prog 55 #[ptrV Z.y,vs] w fun e w'=>∃ (v:Value) (r:List Int) (b:PS) (lt' lo' lc':Value) (L' O':List Ent),e=.returned v∧w'.ownsRow w.heap.size 3 1 v l.length (r.map num)∧PlayAll a l r b ∧
   RPSt w1 { Z with lt:=lt',lo:=lo',lc:=lc' } b L' O' w'∧RTurn Z { Z with lt:=lt',lo:=lo',lc:=lc' } w w':=by
 obtain⟨aa,ca,hv,hle,-⟩:=hl w h.low;rw[List.length_map] at hv hle;subst hv;have HL:=Hd hl;have HF:=Hd h;have HR:=Hd hR;have HBD:=Hd hb;have HW1:=Hd h.low.size;clear hl h hR hb;go_enter Tryz.func55,Tryz.ntmps55
 go_wp2_with fail
 go_loopw [5,6] (fun ov iv wl=>∃ (i:Nat) (r:List Int) (b:PS) (lt2 lo2 lc2:Value) (L2 O2:List Ent),i≤l.length∧iv=.int .i64 i∧r.length=i∧wl.ownsRow w.heap.size 3 1 ov i (r.map num)∧(∀ j q,RY.sec { Z with lt:=lt2,lo:=lo2,lc:=lc2 } j q→ov.ownBlock≠some q) ∧
  PlayAll a (l.take i) r b ∧
  RPSt w1 { Z with lt:=lt2,lo:=lo2,lc:=lc2 } b L2 O2 wl∧RTurn Z { Z with lt:=lt2,lo:=lo2,lc:=lc2 } w wl) (fun _ iv _=>l.length - (intOf iv).toNat)
 case atStart=>exact⟨0,[],a,Z.lt,Z.lo,Z.lc,L,O,by omega,rfl,rfl,World.ownsRow_nil _ _ _ _,fun _ _ _ e=>(by cases e),PlayAll.nil,HF.out,RTurn.of_below (Below.refl _ _)⟩
 case round =>
  obtain⟨i,r,b,lt2,lo2,lc2,L2,O2,hi,rfl,hrl,hown,hof,hpl,hst,htn⟩:=hrel;have hrd:=HL.out wr hst.low;have HO:=Hd ((⟨hown,hof⟩:wr.ownsRow w.heap.size 3 1 _ i (r.map num)∧∀ j q,RY.sec { Z with lt:=lt2,lo:=lo2,lc:=lc2 } j q→Value.ownBlock _≠some q));have HP:=Hd hpl;have HST:=Hd hst;have HTN:=Hd htn;have HRL:=Hd hrl;have hzw:=htn.1.size;clear hown hof hpl hst htn hrl;by_cases hlt:i<l.length
  ·have hlc:((i:Int)<(l.length:Int))=True:=eq_true (by omega)
   have hl3:((i:Int)<3000)=True:=eq_true (by omega)
   obtain⟨bx,ox,hix,hce⟩:=hrd.at (P:=Tryz.prog) Tryz.underlying53 (by kernel_rfl) i (by simpa using hlt)
   simp only[List.getElem_map] at hce;have HTK:Hid (l.take (i+1)=l.take i++[l[i]]):=Hd (List.take_succ_eq_append_getElem hlt);have hzb:=HBD.out _ (List.getElem_mem hlt);generalize l[i]=z at *;clear hrd;by_cases hz:0≤z
   ·obtain⟨v,rfl⟩:∃ v:Nat,z=v:=⟨z.toNat,by omega⟩
    have KO:=Hd (zzz (a:=b) v (by omega) HST.out HR.out)
    go_wp2_with fail
    refine KO.out.mono ?_
    rintro e w4 ⟨x,d,lt3,lo3,lc3,L3,O3,rfl,hrel,hf3,ht3⟩;have HF4:=Hd hf3;have HT4:=Hd ht3;have HREL:=Hd hrel;obtain⟨hrow4,hfar4⟩:=ht3.row HO.out.1 HO.out.2;have HO4:=Hd hrow4;have HFA4:=Hd hfar4;have hz4:w.heap.size≤w4.heap.size:=Nat.le_trans hzw ht3.1.size;clear hix hce hf3 ht3 hrel KO hrow4 hfar4;go_wp2_with (first
     |(at_builtin
       refine zah _ rfl _ _ 53 rfl tyInts w.heap.size _ _ _ rfl (HO4.out.alloc _) ⟨w4.heap.size,0,none⟩ 1 1 [num (x:Int)] rfl rfl (zap ?_) ?_ (by decide) ?_ ?_ ?_
       ·rw[cell_of_heap (heap_alloc_here w4 _)]; rfl
       ·intro u hu; simp at hu; subst hu; rfl
       ·omega
       ·simp; omega
       intro v6 w6 ho6 hg6 hloc6))
    obtain⟨q1,q2,q3⟩:=zpi HF4.out (HTN.out.trans HT4.out) HO4.out HFA4.out HW1.out hg6 hloc6;have HQ:=Hd ((⟨q1,q2,q3⟩:_∧_∧_));have HO6:=Hd ho6;clear ho6 hg6 hloc6 q1 q2 q3;go_wp2
    go_roundw
    case rel=>exact⟨i+1,r++[(x:Int)],d,lt3,lo3,lc3,L3,O3,by omega,by go_num,by rw[List.length_append,HRL.out]; rfl,by rw[List.map_append]; exact HO6.out,HQ.out.2.2,by rw[HTK.out]; exact .pos HP.out HREL.out,HQ.out.1,HQ.out.2.1⟩
    case measure=>simp[intOf]; omega
   ·have HN:Hid (z<0):=Hd (by omega)
    have KO:=Hd (zzy (w:=wr) Z.y z (by omega))
    go_wp2_with fail
    refine KO.out.mono ?_
    rintro e w4 ⟨rfl,e4⟩;have e5:=e4.symm;subst e5;clear e4 KO hix hce;go_wp2_with (first
     |(at_builtin
       refine zah _ rfl _ _ 53 rfl tyInts w.heap.size _ _ _ rfl (HO.out.1.alloc _) ⟨wr.heap.size,0,none⟩ 1 1 [num (-1:Int)] rfl rfl (zap ?_) ?_ (by decide) ?_ ?_ ?_
       ·rw[cell_of_heap (heap_alloc_here wr _)]; rfl
       ·intro u hu; simp at hu; subst hu; rfl
       ·omega
       ·simp; omega
       intro v6 w6 ho6 hg6 hloc6))
    obtain⟨q1,q2,q3⟩:=zpi HST.out HTN.out HO.out.1 HO.out.2 HW1.out hg6 hloc6;have HQ:=Hd ((⟨q1,q2,q3⟩:_∧_∧_));have HO6:=Hd ho6;clear ho6 hg6 hloc6 q1 q2 q3;go_wp2
    go_roundw
    case rel=>exact⟨i+1,r++[-1],b,lt2,lo2,lc2,L2,O2,by omega,by go_num,by rw[List.length_append,HRL.out]; rfl,by rw[List.map_append]; exact HO6.out,HQ.out.2.2,by rw[HTK.out]; exact .neg HN.out HP.out,HQ.out.1,HQ.out.2.1⟩
    case measure=>simp[intOf]; omega
  ·obtain rfl:i=l.length:=by omega
   have hlc:((l.length:Int)<(l.length:Int))=False:=eq_false (by omega)
   have hpl:=HP.out;rw[List.take_length] at hpl;have HPL:=Hd hpl;clear hpl hrd;go_wp2
   go_ret
   exact⟨_,r,b,lt2,lo2,lc2,L2,O2,rfl,HO.out.1,HPL.out,HST.out,HTN.out⟩
theorem zmb (l:List (List UInt8)) (h:∀ s∈l,s.length≤10000):(Lib.join l [32]).length≤10001*l.length:=by
 cases l with
 | nil=>simp[Lib.join,List.intercalate]
 | cons a l =>
  rw[Lib.join_length];have h2:∀ (k:List (List UInt8)),(∀ s∈k,s.length≤10000)→Lib.lens k≤10000*k.length:=by
   intro k
   induction k with
   | nil=>intro _; simp[Lib.lens]
   | cons b k ih =>
    intro hk;have h3:=ih (fun s hs=>hk s (List.mem_cons_of_mem _ hs));have h4:=hk b List.mem_cons_self;simp only[Lib.lens,List.map_cons,List.sum_cons,List.length_cons] at h3 ⊢;omega
  have h5:=h2 _ h;simp only[List.length_cons,List.length_nil] at h5 ⊢;omega
set_option maxHeartbeats 2000000 in
theorem zq4 (l:List (List UInt8)) (v:Value) (w:World) (h:Reads w v (l.map str)) (hn:l.length≤50) (hx:∀ s∈l,s.length≤10000) :
  Calls Tryz.prog 122 #[v] w fun e w'=>e=.returned (str (Lib.join l [32]))∧w'=w:=by
 obtain⟨a,c,hv,-,-⟩:=id h;rw[List.length_map] at hv;subst hv;have H:=Hd h;have HX:=Hd hx;clear h hx;go_enter Tryz.func122,Tryz.ntmps122
 go_wp2
 go_loopw [3,4] (fun ov iv wl=>∃ i:Nat,i≤l.length∧iv=.int .i64 i∧ov=str (Lib.join (l.take i) [32])∧wl=w) (fun _ iv _=>l.length - (intOf iv).toNat)
 case atStart=>exact⟨0,by omega,rfl,by simp[Lib.join],rfl⟩
 case round =>
  obtain⟨i,hi,rfl,rfl,rfl⟩:=hrel;by_cases hlt:i<l.length
  ·have hlc:((i:Int)<(l.length:Int))=True:=eq_true (by omega)
   obtain⟨b,o,hix,hce⟩:=H.out.at (P:=Tryz.prog) Tryz.underlying33 (by kernel_rfl) i (by simpa using hlt)
   simp only[List.getElem_map] at hce;have hem:l.take i=[]↔i=0:=by
    rw[List.take_eq_nil_iff]
    constructor
    ·rintro (h | h)
     ·exact h
     ·subst h; simp at hlt
    ·exact Or.inl
   have HTK:Hid (Lib.join (l.take (i+1)) [32]=if l.take i=[] then l[i] else Lib.join (l.take i) [32]++([32]++l[i])):=Hd (by
    rw[List.take_succ_eq_append_getElem hlt]
    split
    ·rename_i h; rw[h,List.nil_append,Lib.join_one]
    ·rename_i h; rw[zj5 _ _ h]; simp)
   have hb:=zmb (l.take i) (fun s hs=>HX.out s (List.mem_of_mem_take hs));rw[List.length_take] at hb;have hs:=HX.out _ (List.getElem_mem hlt);have ht0:i=0→Lib.join (l.take i) [32]=[]:=fun h=>by rw[h]; rfl
   generalize l[i]=x at *;generalize Lib.join (l.take i) [32]=t at *;by_cases h0:i=0
   ·rw[if_pos (hem.2 h0)] at HTK;have hgt:((i:Int) > 0)=False:=eq_false (by omega)
    have hgt2:((0:Int)<(i:Int))=False:=eq_false (by omega)
    have hgt3:(0<i)=False:=eq_false (by omega)
    have l1:¬ (9223372036854775807<t.length+x.length):=by omega
    have HT0:=Hd (ht0 h0);clear hem h0 ht0;go_wp2
    go_roundw
    case rel=>exact⟨i+1,by omega,by go_num,by rw[HTK.out,HT0.out]; exact congrArg Value.string (by apply ByteArray.ext; simp),by first | rfl | trivial⟩
    case measure=>simp[intOf]; omega
   ·rw[if_neg (fun e=>h0 (hem.1 e))] at HTK;have hgt:((i:Int) > 0)=True:=eq_true (by omega)
    have hgt2:((0:Int)<(i:Int))=True:=eq_true (by omega)
    have hgt3:(0<i)=True:=eq_true (by omega)
    have l1:¬ (9223372036854775807<t.length+1):=by omega
    have l2:¬ (9223372036854775807<t.length+1+x.length):=by omega
    clear hem h0 ht0;go_wp2
    go_roundw
    case rel=>exact⟨i+1,by omega,by go_num,by rw[HTK.out]; exact congrArg Value.string (by apply ByteArray.ext; simp),by first | rfl | trivial⟩
    case measure=>simp[intOf]; omega
  ·obtain rfl:i=l.length:=by omega
   have hlc:((l.length:Int)<(l.length:Int))=False:=eq_false (by omega)
   rw[List.take_length];go_wp2
   go_ret
   exact⟨rfl,rfl⟩
end Go.Proofs.YtgjialbmlhbngaaGreatDoor
