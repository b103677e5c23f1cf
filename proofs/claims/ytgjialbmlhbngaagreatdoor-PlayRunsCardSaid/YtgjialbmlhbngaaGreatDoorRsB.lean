/-
  Plays in plain Lean: what Make of some outs makes of a yard, and what each number of a script makes of it; each makes one thing alone. Plays: the program's walks. Plays: one number of a script. Plays: a script, a new yard, a yard's sum: the program's walks. Plays: a new yard, and the sum of a yard. The closed fact of plays; the walk of the law PlayAgain. The walk of the law PlayAgain.
-/
import Derived.Test.YtgjialbmlhbngaaGreatDoorRsA
import Derived.Test.YtgjialbmlhbngaaGreatDoorYdC
import Derived.Test.YtgjialbmlhbngaaGreatDoorRbK
import Derived.Test.YtgjialbmlhbngaaGreatDoorPkI
import Derived.Test.YtgjialbmlhbngaaGreatDoorPkK
import Derived.Test.YtgjialbmlhbngaaGreatDoorPkO
import Derived.Test.YtgjialbmlhbngaaGreatDoorRbE

set_option maxRecDepth 100000
namespace Go.Proofs.YtgjialbmlhbngaaGreatDoor
open Go Go.RowKit Go.Kf Go.Sort Go.Proofs
theorem GoRel.many {l:List RuleL} {P:List Nat} {T:Look} {c c':Option CS} {st st':Nat→St} {i:Nat} {hit:Bool} (h:GoRel l P T c st i hit c' st'):c'.map CS.many=c.map CS.many:=by
 cases h with
 | gone a b=>rfl
 | hit a b=>rfl
 | run a b d=>cases c <;> rfl
 | bad a b d f=>rfl
theorem Steps.many {l:List RuleL} {P:List Nat} {T:Look} {c c':Option CS} {st st':Nat→St} (h:Steps l P T c st c' st'):c'.map CS.many=c.map CS.many:=by
 induction h with
 | refl=>rfl
 | go h1 h2 h3 h4 ih=>exact h4.many.trans ih
theorem OutsIn.lay {l:List RuleL} {P:List Nat} {st:Nat→St} {mo:List Ent} (h:OutsIn l mo) {i:Nat} (hi:i<l.length):OutsIn l (za9 l P st mo i):=by
 unfold za9
 split
 ·unfold putM
  split
  ·exact h.upd hi _
  ·exact h
 ·split
  ·exact h.del _
  ·exact h
theorem OutsIn.layAll {l:List RuleL} {P:List Nat} {st:Nat→St}:∀ (o:List Nat) (mo:List Ent),(∀ k∈o,k<l.length)→OutsIn l mo→OutsIn l (List.foldl (za9 l P st) mo o)
 | [],_,_,h=>h
 | k::o,_,ho,h=>OutsIn.layAll o _ (fun j hj=>ho j (List.mem_cons_of_mem _ hj)) (h.lay (ho k List.mem_cons_self))
def MakeRel (l:List RuleL) (outs:List (List UInt8)) (T:Look) (mo:List Ent) (c:CS) (n:Nat→Nat) (mo':List Ent) (c':CS):Prop :=
 ∃ P o ks js ord st',PlacesAt l (zds l outs) ks∧(∀ k,k∈P↔Reach (zae l) ks k)∧Ord l P o∧AllRel l P T (some c) (fun _=>st0) js (some c') st'∧zau (zae l) (fun _=>true) l.length=some ord∧mo'=ord.foldl (za9 l P st') mo ∧
  n 0=cntP P st' zgp∧n 1=cntP P st' zgq∧n 2=cntP P st' zbz∧n 3=cntP P st' zdv
theorem zt5 {a b:List Nat} (ha:a.Pairwise (· < ·)) (hb:b.Pairwise (· < ·)) (h:∀ k,k∈a↔k∈b):a=b :=
 List.Perm.eq_of_pairwise (le:=fun a b=>a<b) (fun _ _ _ _ h1 h2=>absurd h1 (Nat.lt_asymm h2)) ha hb (zme (ha.imp (fun h=>Nat.ne_of_lt h)) (hb.imp (fun h=>Nat.ne_of_lt h)) h)
theorem MakeRel.one {l:List RuleL} {outs:List (List UInt8)} {T:Look} {mo:List Ent} {c:CS} {n n2:Nat→Nat} {a b:List Ent} {c1 c2:CS} (h1:MakeRel l outs T mo c n a c1) (h2:MakeRel l outs T mo c n2 b c2):a=b∧c1=c2∧n 0=n2 0∧n 1=n2 1∧n 2=n2 2∧n 3=n2 3:=by
 obtain⟨P,o,ks,js,ord,st1,hp,hn,ho,ha,hord,rfl,e0,e1,e2,e3⟩:=h1;obtain⟨P2,o2,ks2,js2,ord2,st2,hp2,hn2,ho2,ha2,hord2,rfl,f0,f1,f2,f3⟩:=h2;have hP:P=P2:=zt5 ho.ok.rise ho2.ok.rise (fun k=>by rw[hn,hn2]; exact zqa (zqb ho.ok.right.2 hp hp2) k)
 subst hP;obtain⟨-,hs,hc⟩:=ha.one ho.ok ha2;subst hs;rw[hord] at hord2;cases hord2
 exact⟨rfl,Option.some.inj hc,e0.trans f0.symm,e1.trans f1.symm,e2.trans f2.symm,e3.trans f3.symm⟩
theorem zt6:∀ a b c d e f:Bool,(∀ i,i<6→[a,b,c,d,e,f].getD i false=true→∀ k∈zae playL i,[a,b,c,d,e,f].getD k false=true)→zau (zae playL) (fun i=>[a,b,c,d,e,f].getD i false) 6≠none:=by
 decide +kernel
theorem znd {N:List Nat} {ks:List Nat} (hN:∀ k,k∈N↔Reach (zae playL) ks k):zau (zae playL) (fun i=>N.contains i) playL.length≠none:=by
 have h:=zt6 (N.contains 0) (N.contains 1) (N.contains 2) (N.contains 3) (N.contains 4) (N.contains 5);have hg:∀ i,i<6→[N.contains 0,N.contains 1,N.contains 2,N.contains 3,N.contains 4,N.contains 5].getD i false=N.contains i:=by
  intro i hi
  match i,hi with
  | 0,_=>rfl
  | 1,_=>rfl
  | 2,_=>rfl
  | 3,_=>rfl
  | 4,_=>rfl
  | 5,_=>rfl
 have h2:=h (fun i hi hb k hk=>by
  have hk6:k<6:=zb1 _ i k hk;rw[hg i hi] at hb;rw[hg k hk6];rw[List.contains_iff_mem] at hb ⊢;exact (hN k).2 (.step ((hN i).1 hb) hk))
 rw[zpo (b:=fun i=>N.contains i) hg] at h2;exact h2
theorem zzu {S:Nat→Addr} {outs:List (List UInt8)} {m:List Ent} {cv:Value} {B:Nat} {T:TypeId} {x:Value} {w':World} (h:zhv S playL outs m cv B (.returned (.tuple #[.pointer none, .iface T x])) w') (ho:∀ s∈outs,s∈playL.map RuleL.out):False:=by
 rcases h with ⟨T',x',-,hbad |⟨-,i,g,hi,-,hno,-⟩ |⟨-,ks,N,hpl,hN,hnone,-⟩⟩ |⟨ks,N,o,D,-,-,-,-,he,-⟩
 ·exact hbad.wrong playL_right
 ·exact hno (ho _ (List.getElem_mem hi))
 ·have hlt:∀ k∈N,k<playL.length:=fun k hk=>((hN k).1 hk).lt (fun a b hb=>zb1 _ a b hb) hpl.1;exact znd (N:=zbt playL.length N) (ks:=ks) (fun k=>by rw[zdp hlt]; exact hN k) hnone
 ·exact absurd he (by simp)
structure PS where
 m:List Ent
 mo:List Ent
 c:CS
def zqy (q:Nat):List UInt8:=[UInt8.ofNat (97+q % 3)]
def bitV (n i:Nat):UInt8:=if n / 2 ^ i % 2=1 then 120 else 10
def ze4 (n:Nat):List UInt8:=[bitV n 4,bitV n 3,bitV n 2,bitV n 1,bitV n 0]
def zqz (k q:Nat):List (List UInt8):=if k=6 then [(playL.getD (q % 6) noR).out] else if k=7 then [[104,100],[99,110,116]] else []
theorem zi9 (k q:Nat):∀ s∈zqz k q,s∈playL.map RuleL.out:=by
 have h6:∀ j,j<6→(playL.getD j noR).out∈playL.map RuleL.out:=by decide +kernel
 intro s hs;unfold zqz at hs
 split at hs
 ·obtain rfl:=List.mem_singleton.1 hs;exact h6 _ (Nat.mod_lt _ (by decide))
 ·split at hs
  ·have h2:∀ s∈([[104,100],[99,110,116]]:List (List UInt8)),s∈playL.map RuleL.out:=by decide +kernel
   exact h2 s hs
  ·cases hs
inductive PlayRel (a:PS) (v:Nat):Nat→PS→Prop
 | rem:v % 8=4→PlayRel a v (removeC (zqy (v / 8)) a.m) { a with m:=mdel (zqy (v / 8)) a.m }
 | make {n:Nat→Nat} {mo':List Ent} {c':CS}:5≤v % 8→MakeRel playL (zqz (v % 8) (v / 8)) (fun p=>zaa p a.m) a.mo a.c n mo' c'→PlayRel a v 0 ⟨a.m,mo',c'⟩
 | put:v % 8<4→PlayRel a v (putC (zqy (v / 8)) (ze4 (v / 8 / 3 % 32)) a.m) { a with m:=putM (zqy (v / 8)) (ze4 (v / 8 / 3 % 32)) a.m }
theorem PlayRel.one {a b b2:PS} {v x y:Nat} (h1:PlayRel a v x b) (h2:PlayRel a v y b2):x=y∧b=b2:=by
 cases h1 with
 | rem h =>
  cases h2 with
  | rem _=>exact⟨rfl,rfl⟩
  | make h3 _=>omega
  | put h3=>omega
 | make h hm =>
  cases h2 with
  | rem h3=>omega
  | make h3 hm2 =>
   obtain⟨rfl,rfl,-⟩:=hm.one hm2;exact⟨rfl,rfl⟩
  | put h3=>omega
 | put h =>
  cases h2 with
  | rem h3=>omega
  | make h3 _=>omega
  | put _=>exact⟨rfl,rfl⟩
inductive PlayAll:PS→List Int→List Int→PS→Prop
 | nil {a:PS}:PlayAll a [] [] a
 | neg {a b:PS} {v:Int} {l:List Int} {r:List Int}:v<0→PlayAll a l r b→PlayAll a (l++[v]) (r++[-1]) b
 | pos {a b d:PS} {v x:Nat} {l:List Int} {r:List Int}:PlayAll a l r b→PlayRel b v x d→PlayAll a (l++[(v:Int)]) (r++[(x:Int)]) d
theorem zf7 {α:Type} {a b:List α} {x y:α} (h:a++[x]=b++[y]):a=b∧x=y:=by
 obtain⟨h1,h2⟩:=List.append_inj' h rfl;exact⟨h1,by simpa using h2⟩
theorem PlayAll.one {a:PS} {l:List Int} {r:List Int} {b:PS} (h1:PlayAll a l r b):∀ {r2:List Int} {b2:PS},PlayAll a l r2 b2→r=r2∧b=b2:=by
 induction h1 with
 | nil =>
  intro r2 b2 h2;generalize hl:([]:List Int)=l at h2;cases h2 with
  | nil=>exact⟨rfl,rfl⟩
  | neg _ _=>simp at hl
  | pos _ _=>simp at hl
 | @neg b v l r hv h ih =>
  intro r2 b2 h2;generalize hl:l++[v]=l2 at h2;cases h2 with
  | nil=>simp at hl
  | neg hv2 h3 =>
   obtain⟨rfl,rfl⟩:=zf7 hl;obtain⟨rfl,rfl⟩:=ih h3;exact⟨rfl,rfl⟩
  | pos h3 h4 =>
   obtain⟨rfl,rfl⟩:=zf7 hl;omega
 | @pos b d v x l r h hr ih =>
  intro r2 b2 h2;generalize hl:l++[(v:Int)]=l2 at h2;cases h2 with
  | nil=>simp at hl
  | neg hv2 h3 =>
   obtain⟨rfl,rfl⟩:=zf7 hl;omega
  | pos h3 h4 =>
   obtain⟨rfl,e⟩:=zf7 hl;obtain rfl:=Int.ofNat.inj e;obtain⟨rfl,rfl⟩:=ih h3;obtain⟨rfl,rfl⟩:=hr.one h4;exact⟨rfl,rfl⟩
def YTurn (Y:YPl) (vl:Value) (R:List RV) (lv lv':Value) (w w':World):Prop:=Fr w.heap.size (fun q=>∃ i,ysec Y lv vl R i q) w w'∧∀ i q,ysec Y lv' vl R i q→ysec Y lv vl R i q∨w.heap.size≤q
section
variable {Y : YPl} {vl lv lv' lv2 : Value} {R : List RV} {w w' w2 : World}
theorem YTurn.of_below (h:Below w.heap.size w w'):YTurn Y vl R lv lv w w':=⟨Fr.of_below h,fun _ _ hq=>Or.inl hq⟩
theorem YTurn.trans (h:YTurn Y vl R lv lv' w w') (k:YTurn Y vl R lv' lv2 w' w2):YTurn Y vl R lv lv2 w w2:=by
 refine⟨h.1.trans (k.1.mono h.1.size (fun q hq e=>?_)),fun i q hq=>?_⟩
 ·obtain⟨i,e⟩:=e;rcases h.2 i q e with e | e
  ·exact⟨i,e⟩
  ·omega
 ·rcases k.2 i q hq with e | e
  ·exact h.2 i q e
  ·exact Or.inr (Nat.le_trans h.1.size e)
theorem YTurn.tree (h:Fr w.heap.size (fun k=>k=Y.mb) w w'):YTurn Y vl R lv lv w w':=⟨h.mono (Nat.le_refl _) (fun _ _ e=>⟨1,Or.inr e⟩),fun _ _ hq=>Or.inl hq⟩
theorem YTurn.foot (hf:Fr w.heap.size (fun q=>q=Y.om∨foot Y.pb Y.cm lv q) w w') (hl:∀ q,foot Y.pb Y.cm lv' q→foot Y.pb Y.cm lv q∨w.heap.size≤q):YTurn Y vl R lv lv' w w':=by
 refine⟨hf.mono (Nat.le_refl _) (fun q _ e=>?_),fun i q hq=>?_⟩
 ·rcases e with e | e
  ·exact⟨2,Or.inr e⟩
  ·exact⟨3,e⟩
 ·match i,hq with
  | 0,hq=>exact Or.inl hq
  | 1,hq=>exact Or.inl hq
  | 2,hq=>exact Or.inl hq
  | 3,hq=>exact hl q hq
  | 4,hq=>exact Or.inl hq
  | _+5,hq=>exact Or.inl hq
theorem YTurn.row {B:Nat} {e:TypeId} {z n:Nat} {v:Value} {xs:List Value} (h:YTurn Y vl R lv lv' w w') (hr:w.ownsRow B e z v n xs) (ha:∀ i q,ysec Y lv vl R i q→v.ownBlock≠some q):w'.ownsRow B e z v n xs∧∀ i q,ysec Y lv' vl R i q→v.ownBlock≠some q :=
 ⟨zaf hr h.1 (fun k hk=>⟨(hr.lt k hk).2,fun ⟨i,e⟩=>ha i k e hk⟩),fun i q hq e=>by
  rcases h.2 i q hq with h1 | h1
  ·exact ha i q h1 e
  ·have:=(hr.lt q e).2; omega⟩
end
theorem YAt.weaken {B B':Nat} {Y:YPl} {vl lv:Value} {R:List RV} {m mo:List Ent} {c:CS} {w:World} (h:YAt B Y vl lv R m mo c w) (hB:B'≤B):YAt B' Y vl lv R m mo c w :=
 ⟨h.box,h.tree,h.out,zng h.rules hB,h.cache,fun i q hq=>Nat.le_trans hB (h.low i q hq),h.apart⟩
theorem penv {S:Nat→Addr} {m:List Ent} {w:World} (h:Ml w∧BErr w S∧NErr w∧Tab w) (hg:Good m):BEnv S playL m w :=
 ⟨h.1,h.2.1,h.2.2.1,h.2.2.2,fun r hr=>by
  obtain⟨h1,h2,h3,h4,h5,h6⟩:=zcz r hr;exact⟨by omega,by omega,by omega,fun s hs=>by have:=h5 s hs; omega,by omega⟩,hg.byt⟩
theorem zkn {S:Nat→Addr} {w1 w:World} {Y:YPl} {vl lv:Value} {R:List RV} {m mo:List Ent} {c:CS} (h:FSt w1.heap.size w1 Y vl R m mo c lv w) (hR:R.map Prod.fst=playL) (hE:Ml w1∧BErr w1 S∧NErr w1∧Tab w1)
  (outs:List (List UInt8)) (vo:Value) (hO:Reads w vo (outs.map str)) (hn:outs.length≤1000) (ho:∀ s∈outs,s∈playL.map RuleL.out) :
  Calls Tryz.prog 20 #[ptrV Y.yb,vo] w fun e w'=>∃ n mo' c' lv',e=.returned (.tuple #[znn (n 0:Nat) (n 1:Nat) (n 2:Nat) (n 3:Nat), .nilIface])∧MakeRel playL outs (fun p=>zaa p m) mo c n mo' c'∧FSt w1.heap.size w1 Y vl R m mo' c' lv' w'∧YTurn Y vl R lv lv' w w':=by
 have hMo:MoOk mo:=⟨by have:=h.outs.len; rw[hR] at this; have h6:playL.length=6:=rfl; omega,fun y hy=>by
  obtain⟨i,hi,he⟩:=h.outs.sub y.1 (List.mem_map.2 ⟨y,hy,rfl⟩);rw[hR] at hi he;rw[← he,zat hi];have:=(zcz _ (List.getElem_mem hi)).1;omega⟩
 refine (zxr (S:=S) w1 w rfl h.yard h.cok (by rw[hR]; exact penv hE h.good) h.low (by rw[hR]; exact playL_right) (by rw[hR]; exact zfr) hMo outs vo hO hn).mono ?_
 intro e w' ha;unfold zr9 at ha;rw[hR] at ha;have hov:∀ s∈zds playL outs,s∈playL.map RuleL.out:=fun s hs=>by
  unfold zds at hs
  split at hs
  ·exact hs
  ·exact ho s hs
 rcases ha with ⟨T,x,-,hnew,-⟩ |⟨P,o,ks,js,ord,c',st',lv',hpl,hN,hOr,hall,hord,rfl,hY,hF,hft⟩
 ·exact (zzu hnew hov).elim
 obtain⟨hst,-⟩:=hall.steps;have hk:=hst.inv hOr (BInv.zero _ _ _) h.cok;have hm:=Option.some.inj hst.many;obtain⟨h1,-⟩:=zbv hord;refine⟨fun i=>if i=0 then cntP P st' zgp else if i=1 then cntP P st' zgq else if i=2 then cntP P st' zbz else cntP P st' zdv,_,c',lv',rfl,⟨P,o,ks,js,ord,st',hpl,hN,hOr,hall,hord,rfl,rfl,rfl,rfl,rfl⟩,⟨hY,h.good,?_,hk.2.1,by rw[hm]; exact h.room,h.low.trans ((hF.mono h.low.size (fun _ _ h=>h)).below (fun q hq e=>?_))⟩,YTurn.foot hF hft⟩
 ·rw[hR];have:=h.outs;rw[hR] at this;exact OutsIn.layAll ord mo (fun k hk=>(h1.lt k hk).1) this
 ·rcases e with rfl | e
  ·have:=h.yard.low 2 _ (Or.inr rfl); omega
  ·have:=h.yard.low 3 _ e; omega
theorem zr4:SliceTy Tryz.prog 136 5 (.int .u8 0) 1:=⟨Tryz.underlying136,by kernel_rfl,rfl⟩
theorem bit_at:∀ n:Nat,n<32→∀ k,k<5→bits BinOp.and IntKind.i64 ((n:Int) / 2 ^ (4 - k)) 1=((n / 2 ^ (4 - k) % 2:Nat):Int):=by decide +kernel
theorem zxj (n k:Nat) (hk:k<5):(ze4 n).take (k+1)=(ze4 n).take k++[bitV n (4 - k)]:=by
 match k,hk with
 | 0,_=>rfl
 | 1,_=>rfl
 | 2,_=>rfl
 | 3,_=>rfl
 | 4,_=>rfl
set_option maxHeartbeats 1000000 in
theorem zq0 (n:Nat) (w:World) (hn:n<32):Calls Tryz.prog 173 #[.int .i64 (n:Int)] w fun e w'=>e=.returned (str (ze4 n))∧Below w.heap.size w w':=by
 go_enter Tryz.func173,Tryz.ntmps173
 go_wp2
 go_loopw [3,4] (fun ov iv wl=>∃ k:Nat,k≤5∧iv=.int .i64 ((4:Int) - (k:Int))∧wl.ownsRow w.heap.size 5 1 ov k (((ze4 n).take k).map zgv)∧Below w.heap.size w wl) (fun _ iv _=>(intOf iv+1).toNat)
 case atStart=>exact⟨0,by omega,rfl,World.ownsRow_nil _ _ _ _,Below.refl _ _⟩
 case round =>
  obtain⟨k,hk,rfl,hown,hb⟩:=hrel;by_cases hlt:k<5
  ·have hge:(0:Int)≤4 - (k:Int):=by omega
   have hbit:=bit_at n hn k hlt;have HTK:=Hd (zxj n k hlt);by_cases h1:n / 2 ^ (4 - k) % 2=1
   ·rw[h1] at hbit;have HBV:Hid (bitV n (4 - k)=120):=Hd (by unfold bitV; rw[if_pos h1])
    have hbit1:bits BinOp.and IntKind.i64 ((n:Int) / 2 ^ (4 - k)) 1=1:=hbit;clear hbit h1;go_wp2_with (
     at_builtin
     refine zah _ rfl _ _ 136 rfl zr4 w.heap.size _ k (((ze4 n).take k).map zgv) rfl (hown.alloc _) ⟨wr.heap.size,0,none⟩ 1 1 [zgv 120] rfl rfl (zap ?_) ?_ (by decide) ?_ ?_ ?_
     ·rw[cell_of_heap (heap_alloc_here wr _)]; rfl
     ·intro u hu; simp at hu; subst hu; rfl
     ·omega
     ·have:=hb.size; simp; omega
     intro v5 w5 ho5 hg5 hloc5;have b5:Below w.heap.size w w5:=(hb.alloc hb.size _).grown hg5 (by have:=hb.size; simp; omega) (fun k hk=>(hown.lt k hk).1)
     have HO5:=Hd ho5;clear ho5 hg5 hloc5)
    go_roundw
    case rel=>exact⟨k+1,by omega,by go_num,by rw[HTK.out,HBV.out,List.map_append]; exact HO5.out,b5⟩
    case measure=>simp[intOf]; omega
   ·have h0:n / 2 ^ (4 - k) % 2=0:=by omega
    rw[h0] at hbit;have HBV:Hid (bitV n (4 - k)=10):=Hd (by unfold bitV; rw[if_neg h1])
    have hbit1:bits BinOp.and IntKind.i64 ((n:Int) / 2 ^ (4 - k)) 1=0:=hbit;clear hbit h1 h0;go_wp2_with (
     at_builtin
     refine zah _ rfl _ _ 136 rfl zr4 w.heap.size _ k (((ze4 n).take k).map zgv) rfl (hown.alloc _) ⟨wr.heap.size,0,none⟩ 1 1 [zgv 10] rfl rfl (zap ?_) ?_ (by decide) ?_ ?_ ?_
     ·rw[cell_of_heap (heap_alloc_here wr _)]; rfl
     ·intro u hu; simp at hu; subst hu; rfl
     ·omega
     ·have:=hb.size; simp; omega
     intro v5 w5 ho5 hg5 hloc5;have b5:Below w.heap.size w w5:=(hb.alloc hb.size _).grown hg5 (by have:=hb.size; simp; omega) (fun k hk=>(hown.lt k hk).1)
     have HO5:=Hd ho5;clear ho5 hg5 hloc5)
    go_roundw
    case rel=>exact⟨k+1,by omega,by go_num,by rw[HTK.out,HBV.out,List.map_append]; exact HO5.out,b5⟩
    case measure=>simp[intOf]; omega
  ·obtain rfl:k=5:=by omega
   have hall:(ze4 n).take 5=ze4 n:=rfl;rw[hall] at hown;obtain⟨g,cap,rfl⟩:=zbd hown (by omega)
   have hback:=run_convert_bytes_back (P:=Tryz.prog) wr 136 9 5 ⟨g,0,none⟩ cap (ze4 n) Tryz.underlying136 Tryz.underlying5 Tryz.underlying9 (fun j hj=>by
    have h:=hown.cellAt j (show j<5 from hj);rw[List.getElem?_map,List.getElem?_eq_getElem hj] at h;rw[zb0 rfl];show wr.cell? ⟨g,0+j,none⟩=_;rw[Nat.zero_add];exact h)
   have hback1:(convert 136 9 (.slice (some ⟨g,0,none⟩) 5 cap)).run Tryz.prog wr=.ok (str (ze4 n)) wr:=hback;have hge:((0:Int)≤4 - ((5:Nat):Int))=False:=eq_false (by omega)
   clear hback hown;go_wp2
   go_ret
   exact⟨rfl,hb⟩
set_option maxHeartbeats 4000000 in
theorem one_any {S:Nat→Addr} {w1 w:World} {Y:YPl} {vl lv:Value} {R:List RV} {a:PS} (v:Nat) (hv:v≤9223372036854775807) (h:FSt w1.heap.size w1 Y vl R a.m a.mo a.c lv w) (hR:R.map Prod.fst=playL) (hE:Ml w1∧BErr w1 S∧NErr w1∧Tab w1) :
  Calls Tryz.prog 119 #[ptrV Y.yb, .int .i64 (v:Int)] w fun e w'=>∃ code b lv',e=.returned (zyy S code)∧code≤12∧PlayRel a v code b∧FSt w1.heap.size w1 Y vl R b.m b.mo b.c lv' w'∧YTurn Y vl R lv lv' w w':=by
 have hx:∃ x:UInt8,zqy (v / 8)=[x]∧(∀ h,(⟨#[97,98,99]⟩:ByteArray)[v / 8 % 3]'h=x)∧Utf8.encode (x.toNat:Int)=⟨([x]:List UInt8).toArray⟩:=by
  have h3:v / 8 % 3=0∨v / 8 % 3=1∨v / 8 % 3=2:=by omega
  refine⟨UInt8.ofNat (97+v / 8 % 3),rfl,fun h=>?_,?_⟩
  ·rcases h3 with e | e | e
   ·simp only[e]; rfl
   ·simp only[e]; rfl
   ·simp only[e]; rfl
  ·rcases h3 with e | e | e
   ·rw[e]; decide +kernel
   ·rw[e]; decide +kernel
   ·rw[e]; decide +kernel
 obtain⟨x,hfx,hidx,henc⟩:=hx;have HFX:=Hd hfx;have hi3:0≤(v:Int) / 8 % 3∧(v:Int) / 8 % 3<3:=by omega
 have HF:=Hd h;have hR:=Hd hR;have HE:=Hd hE;have HEL:=Hd (fun wl (hb:Below w1.heap.size w1 wl)=>(⟨hE.1.below hb (Nat.le_refl _),hE.2.1.below hb,hE.2.2.1.below hb (Nat.le_refl _),zaz hE.2.2.2 hb (Nat.le_refl _)⟩:Ml wl∧BErr wl S∧NErr wl∧Tab wl));clear h hE hfx;obtain⟨k,hk⟩:∃ k,v % 8=k:=⟨_,rfl⟩;have HK:=Hd hk;have hk8:k<8:=by omega
 have hki:(v:Int) % 8=(k:Int):=by omega
 clear hk;by_cases h4:k=4
 ·have c4:((v:Int) % 8==4)=true:=by simp; omega
  have KT:=Hd (zkr w HF.out.yard);have KR:=Hd (zj4 Y.tb Y.mb a.m [x] w S HF.out.yard.tree (HEL.out w HF.out.low).2.1.t);subst h4;clear hki;go_enter Tryz.func119,Tryz.ntmps119
  go_wp2_with fail
  refine KT.out.mono ?_
  rintro e w2 ⟨rfl,e2⟩;have e3:=e2.symm;subst e3;clear e2;go_wp2_with fail
  refine KR.out.mono ?_
  rintro e w4 ⟨rfl,hT,hf⟩;have HN:=Hd (HF.out.tstep hT hf (HF.out.good.del [x]));have HT:=Hd (YTurn.tree (vl:=vl) (R:=R) (lv:=lv) hf);clear hT hf;go_wp2
  go_ret
  exact⟨removeC [x] a.m,{ a with m:=mdel [x] a.m },lv,rfl,by unfold removeC; split <;> omega,by rw[← HFX.out]; exact .rem HK.out,HN.out,HT.out⟩
 have c4:((v:Int) % 8==4)=false:=by simp; omega
 by_cases h5:k=5
 ·have c5:((v:Int) % 8==5)=true:=by simp; omega
  subst h5;clear hki;go_enter Tryz.func119,Tryz.ntmps119
  have KM:=Hd (zkn (S:=S) HF.out hR.out HE.out [] (.slice none 0 0) ⟨none,0,rfl,by simp,fun i u h=>by cases h⟩ (by simp) (fun s hs=>by cases hs))
  go_wp2_with fail
  refine KM.out.mono ?_
  rintro e w8 ⟨n,mo',c',lv',rfl,hrel,hf8,ht8⟩;obtain⟨W9,hW9⟩:∃ W,w8.alloc (.cells #[.int .i64 (n 0:Nat), .int .i64 (n 1:Nat), .int .i64 (n 2:Nat), .int .i64 (n 3:Nat)] 45)=W:=⟨_,rfl⟩;have HF9:=Hd (hf8.below (hW9▸(Below.refl _ w8).alloc (Nat.le_refl _) _));have HT9:=Hd (YTurn.trans ht8 (YTurn.of_below (hW9▸(Below.refl _ w8).alloc (Nat.le_refl _) _)));have HREL:=Hd hrel;have HW9:=Hd hW9;clear hrel hf8 hW9 ht8;go_wp2
  go_ret
  refine⟨0,⟨a.m,mo',c'⟩,lv',rfl,by omega, .make (by have:=HK.out; omega) (by rw[HK.out]; exact HREL.out),?_⟩
  have h9:=HF9.out;have t9:=HT9.out;rw[← HW9.out] at h9 t9;exact⟨h9,t9⟩
 have c5:((v:Int) % 8==5)=false:=by simp; omega
 by_cases h6:k=6
 ·have c6:((v:Int) % 8==6)=true:=by simp; omega
  have KS:=Hd (zid w);subst h6;clear hki;go_enter Tryz.func119,Tryz.ntmps119
  go_wp2_with fail
  refine KS.out.mono ?_
  rintro e w2 ⟨vs,Rs,rfl,hRs,hos,hb2⟩;have hrul:=hos.rules.1.1;obtain⟨asl,csl,hvs,-,-⟩:=id hrul;have hRl:Rs.length=6:=by have:=congrArg List.length hRs; rw[List.length_map] at this; exact this
  rw[List.length_map,hRl] at hvs;subst hvs;have hq6:v / 8 % 6<6:=by omega
  obtain⟨b,o,hix,-,hce⟩:=hrul.at (P:=Tryz.prog) Tryz.underlying22 (by kernel_rfl) (v / 8 % 6) (by rw[List.length_map,hRl]; exact hq6)
  simp only[List.getElem_map] at hce;have hc0:=hce 0 _ rfl;have hro:Rs[v / 8 % 6].1.out=(playL.getD (v / 8 % 6) noR).out:=by
   rw[zat (show v / 8 % 6<playL.length from hq6)];have h1:(Rs.map Prod.fst)[v / 8 % 6]'(by rw[List.length_map,hRl]; exact hq6)=playL[v / 8 % 6]'(show v / 8 % 6<playL.length from hq6):=by simp only[hRs]
   rw[List.getElem_map] at h1;rw[h1]
  simp only[Nat.add_zero,hro] at hc0;have HOV:Hid (zqz 6 (v / 8)=[(playL.getD (v / 8 % 6) noR).out]):=Hd (by unfold zqz; rw[if_pos rfl])
  have hcast:(v:Int) / 8 % 6=((v / 8 % 6:Nat):Int):=by omega
  clear hce hro hq6;generalize (playL.getD (v / 8 % 6) noR).out=so at *;generalize v / 8 % 6=j at *;have HF2:=Hd (HF.out.below hb2);obtain⟨W3,hW3⟩:∃ W,w2.alloc (.cells #[str so] 9)=W:=⟨_,rfl⟩;have hA3:Below w2.heap.size w2 W3:=hW3▸(Below.refl _ w2).alloc (Nat.le_refl _) _;have HF3:=Hd (HF2.out.below hA3);have HB3:=Hd (hb2.trans (hA3.mono hb2.size));have HR3:Hid (Reads W3 (.slice (some ⟨w2.heap.size,0,none⟩) 1 1) ([so].map str)):=Hd (zac (zct (B:=0) (s:=1) (e:=9) (hW3▸heap_alloc_here w2 _) rfl (by omega) (Nat.zero_le _)))
  have HW3:=Hd hW3;clear hRs hos hb2 hrul hA3 hW3 KS;have KM:=Hd (zkn (S:=S) HF3.out hR.out HE.out [so] (.slice (some ⟨w2.heap.size,0,none⟩) 1 1) HR3.out (by simp) (by rw[← HOV.out]; exact zi9 _ _))
  go_wp2_with fail
  rw[HW3.out];refine KM.out.mono ?_
  rintro e w8 ⟨n,mo',c',lv',rfl,hrel,hf8,ht8⟩;obtain⟨W9,hW9⟩:∃ W,w8.alloc (.cells #[.int .i64 (n 0:Nat), .int .i64 (n 1:Nat), .int .i64 (n 2:Nat), .int .i64 (n 3:Nat)] 45)=W:=⟨_,rfl⟩;have HF9:=Hd (hf8.below (hW9▸(Below.refl _ w8).alloc (Nat.le_refl _) _));have HT9:=Hd (YTurn.trans (YTurn.of_below HB3.out) (YTurn.trans ht8 (YTurn.of_below (hW9▸(Below.refl _ w8).alloc (Nat.le_refl _) _))));have HREL:=Hd hrel;have HW9:=Hd hW9;clear hrel hf8 hW9 ht8;go_wp2
  go_ret
  refine⟨0,⟨a.m,mo',c'⟩,lv',rfl,by omega, .make (by have:=HK.out; omega) (by rw[HK.out,HOV.out]; exact HREL.out),?_⟩
  have h9:=HF9.out;have t9:=HT9.out;rw[← HW9.out] at h9 t9;exact⟨h9,t9⟩
 have c6:((v:Int) % 8==6)=false:=by simp; omega
 by_cases h7:k=7
 ·have c7:((v:Int) % 8==7)=true:=by simp; omega
  obtain⟨W3,hW3⟩:∃ W,w.alloc (.cells #[str [104,100],str [99,110,116]] 9)=W:=⟨_,rfl⟩;have hA3:Below w.heap.size w W3:=hW3▸(Below.refl _ w).alloc (Nat.le_refl _) _;have HF3:=Hd (HF.out.below hA3);have HB3:=Hd hA3;have HR3:Hid (Reads W3 (.slice (some ⟨w.heap.size,0,none⟩) 2 2) ([[104,100],[99,110,116]].map str)):=Hd (zac (zct (B:=0) (s:=1) (e:=9) (hW3▸heap_alloc_here w _) rfl (by omega) (Nat.zero_le _)))
  have HW3:=Hd hW3;subst h7;clear hki hA3 hW3;go_enter Tryz.func119,Tryz.ntmps119
  have KM:=Hd (zkn (S:=S) HF3.out hR.out HE.out [[104,100],[99,110,116]] (.slice (some ⟨w.heap.size,0,none⟩) 2 2) HR3.out (by simp) (zi9 7 0))
  go_wp2_with fail
  rw[HW3.out];refine KM.out.mono ?_
  rintro e w8 ⟨n,mo',c',lv',rfl,hrel,hf8,ht8⟩;obtain⟨W9,hW9⟩:∃ W,w8.alloc (.cells #[.int .i64 (n 0:Nat), .int .i64 (n 1:Nat), .int .i64 (n 2:Nat), .int .i64 (n 3:Nat)] 45)=W:=⟨_,rfl⟩;have HF9:=Hd (hf8.below (hW9▸(Below.refl _ w8).alloc (Nat.le_refl _) _));have HT9:=Hd (YTurn.trans (YTurn.of_below HB3.out) (YTurn.trans ht8 (YTurn.of_below (hW9▸(Below.refl _ w8).alloc (Nat.le_refl _) _))));have HREL:=Hd hrel;have HW9:=Hd hW9;clear hrel hf8 hW9 ht8;go_wp2
  go_ret
  refine⟨0,⟨a.m,mo',c'⟩,lv',rfl,by omega, .make (by have:=HK.out; omega) (by rw[HK.out]; exact HREL.out),?_⟩
  have h9:=HF9.out;have t9:=HT9.out;rw[← HW9.out] at h9 t9;exact⟨h9,t9⟩
 have c7:((v:Int) % 8==7)=false:=by simp; omega
 have KT:=Hd (zkr w HF.out.yard);have KL:=Hd (zq0 (v / 8 / 3 % 32) w (Nat.mod_lt _ (by decide)))
 have hcast:(v:Int) / 8 / 3 % 32=((v / 8 / 3 % 32:Nat):Int):=by omega
 have HLT:Hid (ze4 (v / 8 / 3 % 32)=ze4 (v / 8 / 3 % 32)):=Hd rfl;clear hki;generalize hlv:ze4 (v / 8 / 3 % 32)=lt at *;have HLV:=Hd hlv;generalize v / 8 / 3 % 32=nn at hcast KL;clear hlv;go_enter Tryz.func119,Tryz.ntmps119
 go_wp2_with fail
 refine KT.out.mono ?_
 rintro e w2 ⟨rfl,e2⟩;have e3:=e2.symm;subst e3;clear e2;go_wp2_with fail
 refine KL.out.mono ?_
 rintro e w4 ⟨rfl,hb4⟩;have HF4:=Hd (HF.out.below hb4);have HB4:=Hd hb4;have KP:=Hd (zru Y.tb Y.mb a.m [x] lt w4 S HF4.out.yard.tree (HEL.out w4 HF4.out.low).1 (HEL.out w4 HF4.out.low).2.1.t (by simp) (by have:=HF4.out.good.len; omega) (fun y hy=>by have:=HF4.out.good.klen y hy; omega))
 clear hb4;go_wp2_with fail
 refine KP.out.mono ?_
 rintro e w5 ⟨rfl,hT,hf⟩;have HN:=Hd (HF4.out.tstep hT hf (HF4.out.good.put [x] lt));have HT:=Hd (YTurn.trans (YTurn.of_below (Y:=Y) (vl:=vl) (R:=R) (lv:=lv) HB4.out) (YTurn.tree hf));clear hT hf;go_wp2
 go_ret
 exact⟨putC [x] lt a.m,{ a with m:=putM [x] lt a.m },lv,rfl,by unfold putC; repeat (split <;> try omega),by rw[← HFX.out,← HLV.out]; exact .put (by have:=HK.out; omega),HN.out,HT.out⟩
theorem zxk {S:Nat→Addr} (c:Nat) (hc:c≤12) (w:World) (hS:ErrW w S):Calls Tryz.prog 86 #[zyy S c] w fun e w'=>e=.returned (.tuple #[.int .i64 (c:Int), .int .i64 (-1)])∧Below w.heap.size w w':=by
 cases c with
 | zero=>exact (zy0 w).mono fun e w' ⟨h1,h2⟩=>⟨h1,by rw[h2]; exact Below.refl _ _⟩
 | succ c=>exact code_at w S hS c (by omega)
theorem YTurn.reads {Y:YPl} {vl lv lv':Value} {R:List RV} {w w':World} {v:Value} {xs:List Value} (h:YTurn Y vl R lv lv' w w') (hr:Reads w v xs) (hl:∀ k,v.ownBlock=some k→k<w.heap.size) (ha:∀ i q,ysec Y lv vl R i q→v.ownBlock≠some q) :
  Reads w' v xs∧(∀ k,v.ownBlock=some k→k<w'.heap.size)∧∀ i q,ysec Y lv' vl R i q→v.ownBlock≠some q :=
 ⟨hr.fr h.1 (fun k hk=>⟨hl k hk,fun ⟨i,e⟩=>ha i k e hk⟩),fun k hk=>Nat.lt_of_lt_of_le (hl k hk) h.1.size,fun i q hq e=>by
  rcases h.2 i q hq with h1 | h1
  ·exact ha i q h1 e
  ·have:=hl q e; omega⟩
theorem zr5 {w1 w w4 w6:World} {Y:YPl} {vl lv lv2 u v6 vs:Value} {R:List RV} {m mo:List Ent} {c:CS} {e:TypeId} {z n:Nat} {xs ys:List Value} {ob:Obj} (hst:FSt w1.heap.size w1 Y vl R m mo c lv2 w4) (ht:YTurn Y vl R lv lv2 w w4) (ho:w4.ownsRow w.heap.size e z u n xs) (hof:∀ i q,ysec Y lv2 vl R i q→u.ownBlock≠some q) (hw1:w1.heap.size≤w.heap.size)
  (hg:(w4.alloc ob).grownBy w6 u.ownBlock) (hloc:v6.ownBlock=u.ownBlock∨v6.ownBlock=some (w4.alloc ob).heap.size) (hv:Reads w4 vs ys) (hvl:∀ k,vs.ownBlock=some k→k<w.heap.size) :
  FSt w1.heap.size w1 Y vl R m mo c lv2 w6∧YTurn Y vl R lv lv2 w w6∧(∀ i q,ysec Y lv2 vl R i q→v6.ownBlock≠some q)∧Reads w6 vs ys:=by
 have hA:Below w4.heap.size w4 (w4.alloc ob):=(Below.refl _ w4).alloc (Nat.le_refl _) _;have hst':=hst.below hA;have hgf:=Fr.of_grown hg;have hz:(w4.alloc ob).heap.size=w4.heap.size+1:=by simp
 have hwz:=ht.1.size;refine⟨⟨hst'.yard.fr hgf (fun i q hq e=>hof i q hq e),hst'.good,hst'.outs,hst'.cok,hst'.room,hst'.low.trans ((hgf.mono hst'.low.size (fun _ _ h=>h)).below (fun k hk e=>by have:=(ho.lt k e).1; omega))⟩,
  ⟨(ht.1.trans ((Fr.of_below hA).mono hwz (fun _ _ h=>h))).trans (hgf.mono (by omega) (fun q hq e=>by have:=(ho.lt q e).1; omega)),ht.2⟩,fun i q hq e=>?_,(hv.fr (Fr.of_below (S:=fun _=>False) hA) (fun k hk=>⟨by have:=hvl k hk; omega,id⟩)).fr hgf (fun k hk=>⟨by have:=hvl k hk; omega,fun e=>by have:=(ho.lt k e).1; have:=hvl k hk; omega⟩)⟩
 rcases hloc with h | h
 ·rw[h] at e; exact hof i q hq e
 ·rw[h] at e;have h1:=Option.some.inj e;have:=hst.yard.lt i q hq;omega
set_option maxHeartbeats 4000000 in
theorem zr6 {S:Nat→Addr} {w1 w:World} {Y:YPl} {vl lv:Value} {R:List RV} {a:PS} (l:List Int) (vs:Value) (hl:Reads w vs (l.map num)) (hcap:zfh vs) (hn:l.length≤3000) (hb:∀ z∈l,z≤9223372036854775807) (hlt:∀ k,vs.ownBlock=some k→k<w.heap.size) (hfar:∀ i q,ysec Y lv vl R i q→vs.ownBlock≠some q)
  (h:FSt w1.heap.size w1 Y vl R a.m a.mo a.c lv w) (hR:R.map Prod.fst=playL) (hE:Ml w1∧BErr w1 S∧NErr w1∧Tab w1) (hS:ErrW w1 S) :
  Calls Tryz.prog 52 #[ptrV Y.yb,vs] w fun e w'=>∃ v r b lv',e=.returned v∧w'.ownsRow w.heap.size 3 1 v l.length (r.map num)∧(∀ i q,ysec Y lv' vl R i q→v.ownBlock≠some q)∧PlayAll a l r b∧FSt w1.heap.size w1 Y vl R b.m b.mo b.c lv' w'∧YTurn Y vl R lv lv' w w':=by
 obtain⟨aa,ca,hv,hle,-⟩:=id hl;rw[List.length_map] at hv hle;subst hv;have HL:=Hd ((⟨hl,hlt,hfar⟩:Reads w (.slice aa l.length ca) (l.map num)∧(∀ k,(Value.slice aa l.length ca).ownBlock=some k→k<w.heap.size)∧∀ i q,ysec Y lv vl R i q→(Value.slice aa l.length ca).ownBlock≠some q));have HF:=Hd h;have HR:=Hd hR;have HE:=Hd hE;have HS:=Hd (fun wl (hb:Below w1.heap.size w1 wl)=>hS.below hb (Nat.le_refl _));have HBD:=Hd hb;have hca:l.length≤ca:=hcap _ _ _ rfl;have hca2:(l.length:Int)≤(ca:Int):=by omega
 have HW1:=Hd h.low.size;have hmin:min (l.length:Int) 3000=(l.length:Int):=by omega
 clear hl hlt hfar h hR hE hS hb hcap;go_enter Tryz.func52,Tryz.ntmps52
 go_wp2_with fail
 go_loopw [5,15] (fun ov iv wl=>∃ (i:Nat) (r:List Int) (b:PS) (lv2:Value),i≤l.length∧iv=.int .i64 i∧r.length=i∧wl.ownsRow w.heap.size 3 1 ov i (r.map num)∧(∀ j q,ysec Y lv2 vl R j q→ov.ownBlock≠some q) ∧
  (Reads wl (.slice aa l.length ca) (l.map num)∧(∀ k,(Value.slice aa l.length ca).ownBlock=some k→k<wl.heap.size)∧∀ i q,ysec Y lv2 vl R i q→(Value.slice aa l.length ca).ownBlock≠some q)∧PlayAll a (l.take i) r b∧FSt w1.heap.size w1 Y vl R b.m b.mo b.c lv2 wl∧YTurn Y vl R lv lv2 w wl) (fun _ iv _=>l.length - (intOf iv).toNat)
 case atStart=>exact⟨0,[],a,lv,by omega,rfl,rfl,World.ownsRow_nil _ _ _ _,fun _ _ _ e=>(by cases e),HL.out,PlayAll.nil,HF.out,YTurn.of_below (Below.refl _ _)⟩
 case round =>
  obtain⟨i,r,b,lv2,hi,rfl,hrl,hown,hof,hrd,hpl,hst,htn⟩:=hrel;have HO:=Hd ((⟨hown,hof⟩:wr.ownsRow w.heap.size 3 1 u5 i (r.map num)∧∀ j q,ysec Y lv2 vl R j q→u5.ownBlock≠some q));have HRD:=Hd hrd;have HP:=Hd hpl;have HST:=Hd hst;have HTN:=Hd htn;have HRL:=Hd hrl;have hzw:=htn.1.size;clear hown hof hpl hst htn hrl;by_cases hlt:i<l.length
  ·have hlc:((i:Int)<(l.length:Int))=True:=eq_true (by omega)
   obtain⟨bx,ox,hix,hce⟩:=hrd.1.at (P:=Tryz.prog) Tryz.underlying53 (by kernel_rfl) i (by simpa using hlt)
   simp only[List.getElem_map] at hce;have HTK:Hid (l.take (i+1)=l.take i++[l[i]]):=Hd (List.take_succ_eq_append_getElem hlt);have hzb:=HBD.out _ (List.getElem_mem hlt);generalize l[i]=z at *;clear hrd;by_cases hz:0≤z
   ·obtain⟨v,rfl⟩:∃ v:Nat,z=v:=⟨z.toNat,by omega⟩
    have KO:=Hd (one_any (S:=S) (a:=b) v (by omega) HST.out HR.out HE.out)
    have hz0:((v:Int)≥0)=True:=eq_true (by omega)
    have hz1:((0:Int)≤(v:Int))=True:=eq_true (by omega)
    go_wp2_with fail
    refine KO.out.mono ?_
    rintro e w3 ⟨code,d,lv3,rfl,hc12,hrel,hf3,ht3⟩;have HF3:=Hd hf3;have HT3:=Hd ht3;have HREL:=Hd hrel;have KC:=Hd (zxk code hc12 w3 (HS.out w3 hf3.low));clear hix hce hf3 ht3 hrel KO;go_wp2_with fail
    refine KC.out.mono ?_
    rintro e w4 ⟨rfl,hb4⟩;have HF4:=Hd (HF3.out.below hb4);have HT4:=Hd (HT3.out.trans (YTurn.of_below hb4));obtain⟨hrow4,hfar4⟩:=HT4.out.row HO.out.1 HO.out.2;have HO4:=Hd hrow4;have HFA4:=Hd hfar4;have HR4:=Hd (HT4.out.reads HRD.out.1 HRD.out.2.1 HRD.out.2.2);have hz4:w.heap.size≤w4.heap.size:=Nat.le_trans hzw HT4.out.1.size;clear hb4 hrow4 hfar4 KC;go_wp2_with (first
     |(at_builtin
       refine zah _ rfl _ _ 53 rfl tyInts w.heap.size _ _ _ rfl (HO4.out.alloc _) ⟨w4.heap.size,0,none⟩ 1 1 [num (code:Int)] rfl rfl (zap ?_) ?_ (by decide) ?_ ?_ ?_
       ·rw[cell_of_heap (heap_alloc_here w4 _)]; rfl
       ·intro u hu; simp at hu; subst hu; rfl
       ·omega
       ·simp; omega
       intro v6 w6 ho6 hg6 hloc6))
    obtain⟨q1,q2,q3,q4⟩:=zr5 HF4.out (HTN.out.trans HT4.out) HO4.out HFA4.out HW1.out hg6 hloc6 HR4.out.1 HL.out.2.1;have HQ:=Hd ((⟨q1,q2,q3,q4⟩:_∧_∧_∧_));have HO6:=Hd ho6;clear ho6 hg6 hloc6 q1 q2 q3 q4;go_roundw
    case rel=>exact⟨i+1,r++[(code:Int)],d,lv3,by omega,by go_num,by rw[List.length_append,HRL.out]; rfl,by rw[List.map_append]; exact HO6.out,HQ.out.2.2.1,⟨HQ.out.2.2.2,fun k hk=>Nat.lt_of_lt_of_le (HL.out.2.1 k hk) HQ.out.2.1.1.size,HR4.out.2.2⟩,by rw[HTK.out]; exact .pos HP.out HREL.out,HQ.out.1,HQ.out.2.1⟩
    case measure=>simp[intOf]; omega
   ·have hz0:(z≥0)=False:=eq_false (by omega)
    have hz1:((0:Int)≤z)=False:=eq_false (by omega)
    have HN:Hid (z<0):=Hd (by omega)
    go_wp2_with (first
     |(at_builtin
       refine zah _ rfl _ _ 53 rfl tyInts w.heap.size _ _ _ rfl (HO.out.1.alloc _) ⟨wr.heap.size,0,none⟩ 1 1 [num (-1:Int)] rfl rfl (zap ?_) ?_ (by decide) ?_ ?_ ?_
       ·rw[cell_of_heap (heap_alloc_here wr _)]; rfl
       ·intro u hu; simp at hu; subst hu; rfl
       ·omega
       ·simp; omega
       intro v6 w6 ho6 hg6 hloc6))
    obtain⟨q1,q2,q3,q4⟩:=zr5 HST.out HTN.out HO.out.1 HO.out.2 HW1.out hg6 hloc6 HRD.out.1 HL.out.2.1;have HQ:=Hd ((⟨q1,q2,q3,q4⟩:_∧_∧_∧_));have HO6:=Hd ho6;clear ho6 hg6 hloc6 q1 q2 q3 q4;go_roundw
    case rel=>exact⟨i+1,r++[-1],b,lv2,by omega,by go_num,by rw[List.length_append,HRL.out]; rfl,by rw[List.map_append]; exact HO6.out,HQ.out.2.2.1,⟨HQ.out.2.2.2,fun k hk=>Nat.lt_of_lt_of_le (HL.out.2.1 k hk) HQ.out.2.1.1.size,HRD.out.2.2⟩,by rw[HTK.out]; exact .neg HN.out HP.out,HQ.out.1,HQ.out.2.1⟩
    case measure=>simp[intOf]; omega
  ·obtain rfl:i=l.length:=by omega
   have hlc:((l.length:Int)<(l.length:Int))=False:=eq_false (by omega)
   have hpl:=HP.out;rw[List.take_length] at hpl;have HPL:=Hd hpl;clear hpl hrd;go_wp2
   go_ret
   exact⟨_,r,b,lv2,rfl,HO.out.1,HO.out.2,HPL.out,HST.out,HTN.out⟩
theorem Good.layAll {l:List RuleL} {P:List Nat} {st:Nat→St}:∀ (o:List Nat) (mo:List Ent),Good mo→Good (List.foldl (za9 l P st) mo o)
 | [],_,h=>h
 | k::o,_,h=>Good.layAll o _ (by
  unfold za9
  split
  ·exact h.put _ _
  ·split
   ·exact h.del _
   ·exact h)
theorem PlayRel.good {a b:PS} {v x:Nat} (h:PlayRel a v x b) (hg:Good a.mo):Good b.mo:=by
 cases h with
 | rem h=>exact hg
 | make h hm =>
  obtain⟨P,o,ks,js,ord,st',-,-,-,-,-,rfl,-⟩:=hm;exact Good.layAll ord _ hg
 | put h=>exact hg
theorem PlayAll.good {a b:PS} {l r:List Int} (h:PlayAll a l r b) (hg:Good a.mo):Good b.mo:=by
 induction h with
 | nil=>exact hg
 | neg _ _ ih=>exact ih
 | pos _ h ih=>exact h.good ih
abbrev PS.new:PS:=⟨[],[],⟨8,[],[]⟩⟩
theorem zxl {w1 w w':World} {Y:YPl} {vl lv:Value} {R:List RV} (hb1:Below w1.heap.size w1 w) (h:YAt w.heap.size Y vl lv R [] [] ⟨8,[],[]⟩ w') (hb:Below w.heap.size w w') (hR:R.map Prod.fst=playL):FSt w1.heap.size w1 Y vl R PS.new.m PS.new.mo PS.new.c lv w' :=
 ⟨h.weaken hb1.size,Good.nil,OutsIn.nil _,fun c0 e=>by cases e; exact⟨CSt.zero (by decide) (by decide),CInv.zero _⟩,by rw[hR]; decide,hb1.trans (hb.mono hb1.size)⟩
theorem zr7 {S:Nat→Addr} (w:World) (hE:Ml w∧BErr w S∧NErr w∧Tab w) :
  Calls Tryz.prog 51 #[] w fun e w'=>∃ Y vl lv R,e=.returned (ptrV Y.yb)∧R.map Prod.fst=playL∧YAt w.heap.size Y vl lv R [] [] ⟨8,[],[]⟩ w'∧Below w.heap.size w w':=by
 have KN:=Hd (zz5 8 w (by omega) (by omega))
 have HE:=Hd hE;clear hE;go_enter Tryz.func51,Tryz.ntmps51
 go_wp2_with fail
 refine KN.out.mono ?_
 rintro e w2 ⟨Y,rfl,hY2,hb2⟩;have HY2:=Hd hY2;have HB2:=Hd hb2;have KS:=Hd (zid w2);clear hY2 hb2 KN;go_wp2_with fail
 refine KS.out.mono ?_
 rintro e w3 ⟨v3,R3,rfl,he3,ho3,hb3⟩;have HY3:=Hd (HY2.out.below hb3);have HB3:=Hd (HB2.out.trans (hb3.mono HB2.out.size));have hn3:R3.length=6:=by have:=congrArg List.length he3; rw[List.length_map] at this; exact this
 have KR:=Hd (zuk (S:=S) w3 HY3.out ho3 (HY2.out.lt 0 Y.yb rfl) (HE.out.1.below HB3.out (Nat.le_refl _)) (HE.out.2.1.below HB3.out).k (HE.out.2.2.1.below HB3.out (Nat.le_refl _)) (zaz HE.out.2.2.2 HB3.out (Nat.le_refl _)) (fun x hx=>zhr x.1 (he3▸List.mem_map.2 ⟨x,hx,rfl⟩)) (by omega))
 have HE3:=Hd he3;clear he3 ho3 hb3 KS hn3;go_wp2_with fail
 refine KR.out.mono ?_
 rintro e w4 hans;unfold zkt at hans;rw[HE3.out] at hans;rcases hans with ⟨T,x,rfl,hbad |⟨-,hno,-⟩,-⟩ |⟨rfl,-,-,vlz,Rz,hez,hYz,-,hfz⟩
 ·exact absurd playL_right hbad.wrong
 ·obtain⟨o',ho'⟩:=zfr;rw[hno] at ho';cases ho'
 have HB4:Hid (Below w.heap.size w w4):=Hd (HB3.out.trans ((hfz.mono (S':=fun k=>k=Y.yb) HB3.out.size (fun _ _ h=>h)).below (fun k hk e=>by have:=HY2.out.low 0 Y.yb rfl; omega)))
 have HY4:=Hd hYz;clear hYz hfz KR;go_wp2
 go_ret
 exact⟨Y,vlz,_,Rz,rfl,hez,HY4.out,HB4.out⟩
def sumL (m mo:List Ent):List UInt8:=(zcv mo (zdu mo)++[10])++Lib.join (zb9 (zc8 playL (fun p=>zaa p m) mo)) [32]
theorem zq1 (sep:List UInt8) (cap:Nat) (a:Option Addr) (w:World):Calls Tryz.prog 120 #[.slice a 0 cap,str sep] w fun e w'=>e=.returned (str [])∧Below w.heap.size w w':=by
 go_enter Tryz.func120,Tryz.ntmps120
 go_wp2
 go_ret
 exact⟨rfl,Below.refl _ _⟩
theorem zzv {B:Nat} {v:Value} (sep:List UInt8) (xs:List (List UInt8)) (w:World) (h:w.ownsRow B 9 1 v xs.length (xs.map str)) (hn:xs.length≤50) (hx:∀ s∈xs,s.length≤10000) (hs:sep.length≤100) :
  Calls Tryz.prog 120 #[v,str sep] w fun e w'=>e=.returned (str (Lib.join xs sep))∧Below w.heap.size w w':=by
 by_cases h0:xs.length=0
 ·obtain rfl:=List.length_eq_zero_iff.1 h0;obtain⟨a,c,rfl,-,-⟩:=zac h;exact zq1 sep c a w
 ·obtain⟨g,cap,rfl⟩:=zbd h (by omega)
  have hj:=zjx sep hx;refine znx sep g 0 xs.length cap xs w rfl (fun j s hj=>?_) (h.lt g rfl).2 ((zbi h) _ _ _ rfl) (Nat.le_trans hj (Nat.le_trans (Nat.mul_le_mul (Nat.add_le_add_left hs 10000) hn) (by decide))) (by omega)
  have hlt:j<xs.length:=by
   rcases Nat.lt_or_ge j xs.length with h | h
   ·exact h
   ·rw[List.getElem?_eq_none h] at hj; cases hj
  have h1:=h.cellAt j (by omega)
  rw[List.getElem?_map,hj] at h1;rw[Nat.zero_add];exact h1
set_option maxHeartbeats 2000000 in
theorem zzw {S:Nat→Addr} {w1 w:World} {Y:YPl} {vl lv:Value} {R:List RV} {m mo:List Ent} {c:CS} (h:FSt w1.heap.size w1 Y vl R m mo c lv w) (hR:R.map Prod.fst=playL) (hE:Ml w1∧BErr w1 S∧NErr w1∧Tab w1) (hg:Good mo) :
  Calls Tryz.prog 53 #[ptrV Y.yb] w fun e w'=>e=.returned (str (sumL m mo))∧Below w.heap.size w w':=by
 have hml:mo.length≤60:=hg.len;have hmb:∀ p,(mget mo p).length≤2000:=fun p=>by
  unfold mget;cases hk:zaa p mo with
  | none=>simp
  | some b=>exact hg.byt p b hk
 have htl:(zcv mo (zdu mo)).length≤12000*60:=by
  refine Nat.le_trans (zh5 (fun p hp=>⟨?_,by have:=hmb p; omega⟩)) (by rw[zhd]; omega)
  obtain⟨x,hx,rfl⟩:=List.mem_map.1 ((zh4 mo).mem_iff.1 hp);have:=hg.klen x hx;omega
 have HEL:=Hd (fun wl (hb:Below w1.heap.size w1 wl)=>(⟨hE.1.below hb (Nat.le_refl _),hE.2.1.below hb,hE.2.2.1.below hb (Nat.le_refl _),zaz hE.2.2.2 hb (Nat.le_refl _)⟩:Ml wl∧BErr wl S∧NErr wl∧Tab wl));have KO:=Hd (zz6 w h.yard);have KT:=Hd (zoq Y.ob Y.om mo w h.yard.out (HEL.out w h.low).2.2.2 hg.nd (by omega) (fun x hx=>by have:=hg.klen x hx; omega) (fun p=>by have:=hmb p; omega))
 have KS:=Hd (fun wl (hb:Below w.heap.size w wl)=>zuj (S:=S) w1 wl (h.below hb).yard (by rw[hR]; exact penv hE h.good) (h.below hb).low (by rw[hR]; exact playL_right) (by rw[hR]; exact zfr))
 have HSL:Hid ((zb9 (zc8 playL (fun p=>zaa p m) mo)).length≤50∧∀ s∈zb9 (zc8 playL (fun p=>zaa p m) mo),s.length≤10000):=Hd (by
  have hp:=zbw (zc8 playL (fun p=>zaa p m) mo);refine⟨?_,fun s hs=>?_⟩
  ·rw[hp.length_eq];exact Nat.le_trans (List.length_filter_le _ _) (by decide)
  ·have h1:=(List.mem_filter.1 (hp.mem_iff.1 hs)).1;obtain⟨r,hr,rfl⟩:=List.mem_map.1 h1;have:=(zcz r hr).1;omega)
 rw[hR] at KS;unfold sumL;clear h hR hE hg hmb hml;generalize zb9 (zc8 playL (fun p=>zaa p m) mo)=sl at *;generalize zcv mo (zdu mo)=tx at *;obtain⟨x1,hx1⟩:∃ x,tx++[10]=x:=⟨_,rfl⟩;have e1:(⟨tx.toArray⟩:ByteArray)++(⟨#[10]⟩:ByteArray)=⟨x1.toArray⟩:=by rw[← hx1,show (⟨#[10]⟩:ByteArray)=⟨([10]:List UInt8).toArray⟩ from rfl,zar]
 have hxl:x1.length≤800000:=by rw[← hx1,List.length_append]; simp; omega
 have hb1:¬ 9223372036854775807<tx.length+1:=by omega
 rw[hx1];have hjl:(Lib.join sl [32]).length≤1000000:=by
  have:=zjx [32] HSL.out.2;have h50:=HSL.out.1;exact Nat.le_trans this (Nat.le_trans (Nat.mul_le_mul_left _ h50) (by decide))
 obtain⟨jl,hj⟩:∃ x,Lib.join sl [32]=x:=⟨_,rfl⟩;have e2:(⟨x1.toArray⟩:ByteArray)++(⟨jl.toArray⟩:ByteArray)=⟨(x1++jl).toArray⟩:=zar _ _;have HJ:=Hd hj;rw[hj] at hjl ⊢;have hb2:¬ 9223372036854775807<x1.length+jl.length:=by omega
 clear hx1 hj;go_enter Tryz.func53,Tryz.ntmps53
 go_wp2_with fail
 refine KO.out.mono ?_
 rintro e w2 ⟨rfl,e2'⟩;have e3:=e2'.symm;subst e3;clear e2';go_wp2_with fail
 refine KT.out.mono ?_
 rintro e w4 ⟨rfl,hb4⟩;have HB4:=Hd hb4;clear hb4;go_wp2_with fail
 refine (KS.out w4 HB4.out).mono ?_
 rintro e w5 ⟨u,rfl,hown,hb5⟩;have HB5:=Hd (HB4.out.trans (hb5.mono HB4.out.size));have KJ:=Hd (zzv [32] sl w5 hown HSL.out.1 HSL.out.2 (by decide))
 rw[HJ.out] at KJ;clear hown hb5;go_wp2_with fail
 refine KJ.out.mono ?_
 rintro e w6 ⟨rfl,hb6⟩;have HB6:=Hd (HB5.out.trans (hb6.mono HB5.out.size));clear hb6;go_wp2
 go_ret
 exact⟨rfl,HB6.out⟩
theorem PlayAll.back {a b:PS} {l:List Int} {v:Int} {r:List Int} (h:PlayAll a (l++[v]) r b):(v<0∧∃ r',r=r'++[-1]∧PlayAll a l r' b)∨∃ (n x:Nat) (r':List Int) (c:PS),v=n∧r=r'++[(x:Int)]∧PlayAll a l r' c∧PlayRel c n x b:=by
 generalize hl:l++[v]=l2 at h;cases h with
 | nil=>simp at hl
 | neg hv h3 =>
  obtain⟨rfl,rfl⟩:=zf7 hl;exact Or.inl ⟨hv,_,rfl,h3⟩
 | pos h3 h4 =>
  obtain⟨rfl,rfl⟩:=zf7 hl;exact Or.inr ⟨_,_,_,_,rfl,rfl,h3,h4⟩
theorem PlayAll.begin {a b:PS} {r:List Int} (h:PlayAll a [] r b):r=[]∧b=a:=by
 generalize hl:([]:List Int)=l at h;cases h with
 | nil=>exact⟨rfl,rfl⟩
 | neg _ _=>simp at hl
 | pos _ _=>simp at hl
theorem zt7 {r:List Int} {b:PS} (h:PlayAll PS.new [0,-1,5] r b):r=[0,-1,0]:=by
 rw[show ([0,-1,5]:List Int)=([0,-1]++[5]) from rfl] at h;rcases h.back with ⟨h5,-⟩ |⟨n,x,r1,c,hn,rfl,h1,hr⟩
 ·omega
 obtain rfl:n=5:=by omega
 have hx:x=0:=by
  cases hr with
  | rem h=>omega
  | make _ _=>rfl
  | put h=>omega
 subst hx;rw[show ([0,-1]:List Int)=([0]++[-1]) from rfl] at h1;rcases h1.back with ⟨-,r2,rfl,h2⟩ |⟨n,x,r2,c2,hn,-⟩
 case inr=>omega
 rw[show ([0]:List Int)=([]++[0]) from rfl] at h2;rcases h2.back with ⟨h5,-⟩ |⟨n,x,r3,c3,hn,rfl,h3,hr3⟩
 ·omega
 obtain rfl:n=0:=by omega
 obtain⟨rfl,rfl⟩:=h3.begin;have hx:x=0:=by
  cases hr3 with
  | rem h=>omega
  | make h _=>omega
  | put h=>decide +kernel
 subst hx;rfl
set_option maxHeartbeats 2000000 in
theorem zt8 {S:Nat→Addr} (w:World) (hE:Ml w∧BErr w S∧NErr w∧Tab w) (hS:ErrW w S) :
  Calls Tryz.prog 50 #[] w fun e w'=>e=.returned (.bool true)∧Below w.heap.size w w':=by
 have KN:=Hd (zr7 (S:=S) w hE);have HE:=Hd hE;have HS:=Hd hS;clear hE hS;go_enter Tryz.func50,Tryz.ntmps50
 go_wp2_with fail
 refine KN.out.mono ?_
 rintro e w1 ⟨Y,vl,lv,R,rfl,hR,hY,hb1⟩;obtain⟨W2,hW2⟩:∃ W,w1.alloc (.cells #[num 0,num (-1),num 5] 3)=W:=⟨_,rfl⟩;have hA2:Below w1.heap.size w1 W2:=hW2▸(Below.refl _ w1).alloc (Nat.le_refl _) _;have hF1:=zxl (Below.refl _ w) hY hb1 hR;have hrow2:W2.ownsRow w1.heap.size 3 1 (.slice (some ⟨w1.heap.size,0,none⟩) 3 3) 3 (([0,-1,5]:List Int).map num):=zct (hW2▸heap_alloc_here w1 _) rfl (by omega) (Nat.le_refl _)
 have hfar2:∀ i q,ysec Y lv vl R i q→(Value.slice (some ⟨w1.heap.size,0,none⟩) 3 3).ownBlock≠some q:=fun i q hq e=>by
  have h1:=hY.lt i q hq;have h2:=Option.some.inj e;have h3:w1.heap.size=q:=h2;omega
 have KR:=Hd (zr6 (S:=S) (a:=PS.new) [0,-1,5] (.slice (some ⟨w1.heap.size,0,none⟩) 3 3) (zac hrow2) (zbi hrow2) (by decide) (by decide) (fun k hk=>(hrow2.lt k hk).2) hfar2 (hF1.below hA2) hR HE.out HS.out)
 have HB2:=Hd (hb1.trans (hA2.mono hb1.size));have HW2:=Hd hW2;clear hY hb1 hW2 hA2 hF1 hrow2 hfar2 KN;go_wp2_with fail
 rw[HW2.out];refine KR.out.mono ?_
 rintro e w3 ⟨v3,r,b,lv3,rfl,hown,-,hpl,hf3,ht3⟩;have hr:=zt7 hpl;subst hr;have hz:=HB2.out.size;have hb3:Below w.heap.size w w3:=hf3.low;obtain⟨W4,hW4⟩:∃ W,w3.alloc (.cells #[num 0,num (-1),num 0] 3)=W:=⟨_,rfl⟩;have hA4:Below w3.heap.size w3 W4:=hW4▸(Below.refl _ w3).alloc (Nat.le_refl _) _;have hrow4:W4.ownsRow w3.heap.size 3 1 (.slice (some ⟨w3.heap.size,0,none⟩) 3 3) 3 (([0,-1,0]:List Int).map num):=zct (hW4▸heap_alloc_here w3 _) rfl (by omega) (Nat.le_refl _)
 have hrow34:=zb7 hown hA4;have KSI:=Hd (zre v3 (.slice (some ⟨w3.heap.size,0,none⟩) 3 3) [0,-1,0] [0,-1,0] W4 (zac hrow34) (zac hrow4) (fun k hk=>(hrow34.lt k hk).2) (fun k hk=>(hrow4.lt k hk).2));rw[beq_self_eq_true] at KSI;have HB4:=Hd (hb3.trans (hA4.mono hb3.size));have HW4:=Hd hW4;obtain⟨a3,c3,hv3,-,-⟩:=id (zac hown);subst hv3;clear hown hpl hf3 ht3 hb3 hW4 hA4 hrow4 hrow34 KR;go_wp2_with fail
 rw[HW4.out];refine KSI.out.mono ?_
 rintro e w5 ⟨rfl,hb5⟩;have HB5:=Hd (HB4.out.trans (hb5.mono HB4.out.size));have KP:=Hd (zid w5);clear hb5 KSI;go_wp2_with fail
 refine KP.out.mono ?_
 rintro e w6 ⟨v6,R6,rfl,he6,ho6,hb6⟩;have HB6:=Hd (HB5.out.trans (hb6.mono HB5.out.size));have HO6:=Hd ho6;have KQ:=Hd (zie w6);clear hb6 ho6 KP;go_wp2_with fail
 refine KQ.out.mono ?_
 rintro e w7 ⟨v7,R7,rfl,he7,ho7,hb7⟩;have HB7:=Hd (HB6.out.trans (hb7.mono HB6.out.size));have KS:=Hd (znc R6 R7 v6 v7 w7 (HO6.out.fr hb7) ho7 (he6.trans he7.symm) (by have:=congrArg List.length he6; rw[List.length_map] at this; rw[this]; decide))
 clear hb7 ho7 KQ he6 he7;go_wp2_with fail
 refine KS.out.mono ?_
 rintro e w8 ⟨rfl,hb8⟩;have HB8:=Hd (HB7.out.trans (hb8.mono HB7.out.size));clear hb8;go_wp2
 go_ret
 exact⟨rfl,HB8.out⟩
end Go.Proofs.YtgjialbmlhbngaaGreatDoor
