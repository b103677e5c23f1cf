/-
  The reference's yard in memory: its box, its two trees, its cache, its rules; what steps leave as it was. The reference's yard: a new one, and the one to play with. The reference's Run, with a cache or none, where what it leans on stands whatever the build turns. The reference's All, with a cache or none, where what it leans on stands whatever the build turns.
-/
import Derived.Test.YtgjialbmlhbngaaGreatDoorRsB
import Derived.Test.YtgjialbmlhbngaaGreatDoorRbJ

set_option maxRecDepth 100000
namespace Go.Proofs.YtgjialbmlhbngaaGreatDoor
open Go Go.RowKit Go.Kf Go.Sort Go.Proofs
structure RY where
 y:Nat
 t:Nat
 o:Nat
 c:Nat
 lt:Value
 lo:Value
 lc:Value
 vl:Value
 R:List RV
def RY.sec (Z:RY):Nat→Nat→Prop
 | 0,q=>q=Z.y
 | 1,q=>q=Z.t∨Z.lt.ownBlock=some q
 | 2,q=>q=Z.o∨Z.lo.ownBlock=some q
 | 3,q=>q=Z.c∨Z.lc.ownBlock=some q
 | 4,q=>RBlk Z.vl Z.R q
 | _,_=>False
structure RYAt (B:Nat) (Z:RY) (L O:List Ent) (cs:CS) (w:World):Prop where
 box:VRow 90 w Z.y [ptrV Z.t,ptrV Z.o,Z.vl,ptrV Z.c]
 tree:RTAt B w Z.t Z.lt L
 out:RTAt B w Z.o Z.lo O
 rules:ReadsK 4 w Z.vl (Z.R.map zay)∧∀ x∈Z.R,Reads w x.2 (x.1.ins.map str)
 rlt:∀ q,RBlk Z.vl Z.R q→q<w.heap.size
 cache:RCAt Z.c Z.lc B cs w
 low:∀ i q,i<4→Z.sec i q→B≤q
 apart:∀ i j q,Z.sec i q→Z.sec j q→i=j
section
variable {B : Nat} {Z : RY} {L O : List Ent} {cs : CS} {w w' : World}
theorem RYAt.lt (h:RYAt B Z L O cs w):∀ i q,Z.sec i q→q<w.heap.size:=by
 intro i q hq
 match i,hq with
 | 0,hq=>obtain rfl:q=Z.y:=hq; exact h.box.lt
 | 1,hq=>rcases hq with rfl | hq; exact zab h.tree.blk; exact (h.tree.row.lt q hq).2
 | 2,hq=>rcases hq with rfl | hq; exact zab h.out.blk; exact (h.out.row.lt q hq).2
 | 3,hq=>rcases hq with rfl | hq; exact h.cache.lt; exact (h.cache.own q hq).2.1
 | 4,hq=>exact h.rlt q hq
 | _+5,hq=>exact absurd hq id
theorem RYAt.hB (h:RYAt B Z L O cs w):B≤w.heap.size:=by
 have h1:=h.low 0 Z.y (by omega) rfl
 have h2:=h.lt 0 Z.y rfl;omega
theorem RYAt.rules_fr (h:RYAt B Z L O cs w) {Q:Nat→Prop} (hf:Fr w.heap.size Q w w') (hQ:∀ q,RBlk Z.vl Z.R q→¬ Q q):ReadsK 4 w' Z.vl (Z.R.map zay)∧∀ x∈Z.R,Reads w' x.2 (x.1.ins.map str) :=
 ⟨zpc h.rules.1 hf (fun k hk=>⟨h.rlt k (Or.inl hk),hQ k (Or.inl hk)⟩),fun x hx=>(h.rules.2 x hx).fr hf (fun k hk=>⟨h.rlt k (Or.inr ⟨x,hx,hk⟩),hQ k (Or.inr ⟨x,hx,hk⟩)⟩)⟩
theorem RYAt.fr (h:RYAt B Z L O cs w) {Q:Nat→Prop} (hf:Fr w.heap.size Q w w') (hQ:∀ i q,Z.sec i q→¬ Q q):RYAt B Z L O cs w' :=
 ⟨(hf.block _ h.box.lt (hQ 0 _ rfl)).trans h.box,h.tree.of_fr hf (Nat.le_refl _) (hQ 1 _ (Or.inl rfl)) (fun k hk=>hQ 1 k (Or.inr hk)),h.out.of_fr hf (Nat.le_refl _) (hQ 2 _ (Or.inl rfl)) (fun k hk=>hQ 2 k (Or.inr hk)),
  h.rules_fr hf (fun q hq=>hQ 4 q hq),fun q hq=>Nat.lt_of_lt_of_le (h.rlt q hq) hf.size,h.cache.fr hf ⟨h.cache.lt,hQ 3 _ (Or.inl rfl)⟩ (fun k hk=>⟨(h.cache.own k hk).2.1,hQ 3 k (Or.inr hk)⟩),h.low,h.apart⟩
theorem RYAt.below (h:RYAt B Z L O cs w) (hb:Below w.heap.size w w'):RYAt B Z L O cs w':=h.fr (Q:=fun _=>False) (Fr.of_below hb) (fun _ _ _=>id)
theorem RYAt.far (h:RYAt B Z L O cs w) {i j q:Nat} (hi:Z.sec i q) (hij:i≠j):¬ Z.sec j q:=fun hj=>hij (h.apart i j q hi hj)
theorem zko {s s':Nat→Nat→Prop} {N j:Nat} (hap:∀ i k q,s i q→s k q→i=k) (hlt:∀ i q,s i q→q<N) (hs:∀ i q,i≠j→s' i q→s i q) (hj:∀ q,s' j q→s j q∨N≤q):∀ i k q,s' i q→s' k q→i=k:=by
 have one:∀ i q,i≠j→s' i q→¬ s' j q:=fun i q hi hq h=>by
  have h1:=hs i q hi hq;rcases hj q h with h2 | h2
  ·exact hi (hap i j q h1 h2)
  ·have:=hlt i q h1; omega
 intro i k q hi hk;by_cases ei:i=j
 ·by_cases ek:k=j
  ·rw[ei,ek]
  ·subst ei; exact absurd hi (one k q ek hk)
 ·by_cases ek:k=j
  ·subst ek; exact absurd hk (one i q ei hi)
  ·exact hap i k q (hs i q ei hi) (hs k q ek hk)
def RTurn (Z Z':RY) (w w':World):Prop:=Fr w.heap.size (fun q=>∃ i,i<4∧Z.sec i q) w w'∧∀ i q,Z'.sec i q→Z.sec i q∨w.heap.size≤q
theorem RTurn.of_below (h:Below w.heap.size w w'):RTurn Z Z w w':=⟨Fr.of_below h,fun _ _ hq=>Or.inl hq⟩
theorem RTurn.trans {Z' Z2:RY} {w2:World} (h:RTurn Z Z' w w') (k:RTurn Z' Z2 w' w2):RTurn Z Z2 w w2:=by
 refine⟨h.1.trans (k.1.mono h.1.size (fun q hq e=>?_)),fun i q hq=>?_⟩
 ·obtain⟨i,hi,e⟩:=e;rcases h.2 i q e with e | e
  ·exact⟨i,hi,e⟩
  ·omega
 ·rcases k.2 i q hq with e | e
  ·exact h.2 i q e
  ·exact Or.inr (Nat.le_trans h.1.size e)
theorem RYAt.tstep (h:RYAt B Z L O cs w) {lt':Value} {L':List Ent} (hT:RTAt B w' Z.t lt' L') (hf:Fr w.heap.size (fun k=>k=Z.t∨Z.lt.ownBlock=some k) w w') (hl:∀ k,lt'.ownBlock=some k→Z.lt.ownBlock=some k∨w.heap.size≤k):RYAt B { Z with lt:=lt' } L' O cs w'∧RTurn Z { Z with lt:=lt' } w w':=by
 have key:∀ i q,i≠1→Z.sec i q→¬ (q=Z.t∨Z.lt.ownBlock=some q):=fun i q hi hq e=>h.far hq hi e;have same:∀ i q,i≠1→RY.sec { Z with lt:=lt' } i q→Z.sec i q:=fun i q hi hq=>by
  match i,hi,hq with
  | 0,_,hq=>exact hq
  | 2,_,hq=>exact hq
  | 3,_,hq=>exact hq
  | 4,_,hq=>exact hq
  | _+5,_,hq=>exact hq
 have new:∀ q,RY.sec { Z with lt:=lt' } 1 q→Z.sec 1 q∨w.heap.size≤q:=fun q hq=>by
  rcases hq with hq | hq
  ·exact Or.inl (Or.inl hq)
  ·rcases hl q hq with e | e
   ·exact Or.inl (Or.inr e)
   ·exact Or.inr e
 have all:∀ i q,RY.sec { Z with lt:=lt' } i q→Z.sec i q∨w.heap.size≤q:=fun i q hq=>by
  by_cases hi:i=1
  ·subst hi; exact new q hq
  ·exact Or.inl (same i q hi hq)
 refine⟨⟨(hf.block _ h.box.lt (key 0 _ (by decide) rfl)).trans h.box,hT,h.out.of_fr hf (Nat.le_refl _) (key 2 _ (by decide) (Or.inl rfl)) (fun k hk=>key 2 k (by decide) (Or.inr hk)),h.rules_fr hf (fun q hq=>key 4 q (by decide) hq),fun q hq=>Nat.lt_of_lt_of_le (h.rlt q hq) hf.size,
  h.cache.fr hf ⟨h.cache.lt,key 3 _ (by decide) (Or.inl rfl)⟩ (fun k hk=>⟨(h.cache.own k hk).2.1,key 3 k (by decide) (Or.inr hk)⟩),fun i q hi hq=>?_,zko h.apart h.lt same new⟩,hf.mono (Nat.le_refl _) (fun q _ e=>⟨1,by omega,e⟩),all⟩
 rcases all i q hq with e | e
 ·exact h.low i q hi e
 ·have:=h.hB; omega
theorem RYAt.ostep (h:RYAt B Z L O cs w) {lo':Value} {O':List Ent} (hT:RTAt B w' Z.o lo' O') (hf:Fr w.heap.size (fun k=>k=Z.o∨Z.lo.ownBlock=some k) w w') (hl:∀ k,lo'.ownBlock=some k→Z.lo.ownBlock=some k∨w.heap.size≤k):RYAt B { Z with lo:=lo' } L O' cs w'∧RTurn Z { Z with lo:=lo' } w w':=by
 have key:∀ i q,i≠2→Z.sec i q→¬ (q=Z.o∨Z.lo.ownBlock=some q):=fun i q hi hq e=>h.far hq hi e;have same:∀ i q,i≠2→RY.sec { Z with lo:=lo' } i q→Z.sec i q:=fun i q hi hq=>by
  match i,hi,hq with
  | 0,_,hq=>exact hq
  | 1,_,hq=>exact hq
  | 3,_,hq=>exact hq
  | 4,_,hq=>exact hq
  | _+5,_,hq=>exact hq
 have new:∀ q,RY.sec { Z with lo:=lo' } 2 q→Z.sec 2 q∨w.heap.size≤q:=fun q hq=>by
  rcases hq with hq | hq
  ·exact Or.inl (Or.inl hq)
  ·rcases hl q hq with e | e
   ·exact Or.inl (Or.inr e)
   ·exact Or.inr e
 have all:∀ i q,RY.sec { Z with lo:=lo' } i q→Z.sec i q∨w.heap.size≤q:=fun i q hq=>by
  by_cases hi:i=2
  ·subst hi; exact new q hq
  ·exact Or.inl (same i q hi hq)
 refine⟨⟨(hf.block _ h.box.lt (key 0 _ (by decide) rfl)).trans h.box,h.tree.of_fr hf (Nat.le_refl _) (key 1 _ (by decide) (Or.inl rfl)) (fun k hk=>key 1 k (by decide) (Or.inr hk)),hT,h.rules_fr hf (fun q hq=>key 4 q (by decide) hq),fun q hq=>Nat.lt_of_lt_of_le (h.rlt q hq) hf.size,
  h.cache.fr hf ⟨h.cache.lt,key 3 _ (by decide) (Or.inl rfl)⟩ (fun k hk=>⟨(h.cache.own k hk).2.1,key 3 k (by decide) (Or.inr hk)⟩),fun i q hi hq=>?_,zko h.apart h.lt same new⟩,hf.mono (Nat.le_refl _) (fun q _ e=>⟨2,by omega,e⟩),all⟩
 rcases all i q hq with e | e
 ·exact h.low i q hi e
 ·have:=h.hB; omega
theorem RYAt.cstep (h:RYAt B Z L O cs w) {lc':Value} {cs':CS} {Q:Nat→Prop} (hC:RCAt Z.c lc' B cs' w') (hf:Fr w.heap.size (fun k=>Q k∨k=Z.c) w w') (hQ:∀ i q,Z.sec i q→¬ Q q) (hl:∀ k,lc'.ownBlock=some k→Z.lc.ownBlock=some k∨w.heap.size≤k):RYAt B { Z with lc:=lc' } L O cs' w':=by
 have key:∀ i q,i≠3→Z.sec i q→¬ (Q q∨q=Z.c):=fun i q hi hq e=>e.elim (hQ i q hq) (fun e=>h.far hq hi (Or.inl e));have same:∀ i q,i≠3→RY.sec { Z with lc:=lc' } i q→Z.sec i q:=fun i q hi hq=>by
  match i,hi,hq with
  | 0,_,hq=>exact hq
  | 1,_,hq=>exact hq
  | 2,_,hq=>exact hq
  | 4,_,hq=>exact hq
  | _+5,_,hq=>exact hq
 have new:∀ q,RY.sec { Z with lc:=lc' } 3 q→Z.sec 3 q∨w.heap.size≤q:=fun q hq=>by
  rcases hq with hq | hq
  ·exact Or.inl (Or.inl hq)
  ·rcases hl q hq with e | e
   ·exact Or.inl (Or.inr e)
   ·exact Or.inr e
 have all:∀ i q,RY.sec { Z with lc:=lc' } i q→Z.sec i q∨w.heap.size≤q:=fun i q hq=>by
  by_cases hi:i=3
  ·subst hi; exact new q hq
  ·exact Or.inl (same i q hi hq)
 refine⟨(hf.block _ h.box.lt (key 0 _ (by decide) rfl)).trans h.box,h.tree.of_fr hf (Nat.le_refl _) (key 1 _ (by decide) (Or.inl rfl)) (fun k hk=>key 1 k (by decide) (Or.inr hk)),h.out.of_fr hf (Nat.le_refl _) (key 2 _ (by decide) (Or.inl rfl)) (fun k hk=>key 2 k (by decide) (Or.inr hk)),h.rules_fr hf (fun q hq=>key 4 q (by decide) hq),fun q hq=>Nat.lt_of_lt_of_le (h.rlt q hq) hf.size,
  hC,fun i q hi hq=>?_,zko h.apart h.lt same new⟩
 rcases all i q hq with e | e
 ·exact h.low i q hi e
 ·have:=h.hB; omega
theorem RYAt.cells (h:RYAt B Z L O cs w):w.cell? ⟨Z.y,0,none⟩=some (ptrV Z.t)∧w.cell? ⟨Z.y,1,none⟩=some (ptrV Z.o)∧w.cell? ⟨Z.y,2,none⟩=some Z.vl∧w.cell? ⟨Z.y,3,none⟩=some (ptrV Z.c) :=
 ⟨h.box.cell rfl,h.box.cell rfl,h.box.cell rfl,h.box.cell rfl⟩
end
theorem RYAt.rset {B N:Nat} {Z:RY} {L O:List Ent} {cs:CS} {w:World} {vl':Value} {R':List RV} (h:RYAt B Z L O cs w) (hO:OwnAt N w vl' R') (hN:∀ i q,i<4→Z.sec i q→q<N):RYAt B { Z with vl:=vl',R:=R' } L O cs (w.setCell ⟨Z.y,2,none⟩ vl'):=by
 have hf:Fr w.heap.size (fun k=>k=Z.y) w (w.setCell ⟨Z.y,2,none⟩ vl'):=Fr.setCell (S:=fun k=>k=Z.y) (p:=⟨Z.y,2,none⟩) (Fr.refl _ _ _) (fun _=>rfl) _;have key:∀ i q,i≠0→Z.sec i q→¬ q=Z.y:=fun i q hi hq e=>h.far hq hi e;have hy:∀ q,RBlk vl' R' q→N≤q∧q<w.heap.size:=fun q hq=>zey hO hq;have hyN:Z.y<N:=hN 0 _ (by omega) rfl
 have hO':=zkq hO hf (fun q hq=>⟨(hy q hq).2,fun e=>by have:=(hy q hq).1; omega⟩)
 have same:∀ i q,i≠4→RY.sec { Z with vl:=vl',R:=R' } i q→Z.sec i q:=fun i q hi hq=>by
  match i,hi,hq with
  | 0,_,hq=>exact hq
  | 1,_,hq=>exact hq
  | 2,_,hq=>exact hq
  | 3,_,hq=>exact hq
  | _+5,_,hq=>exact hq
 refine⟨h.box.set 2 vl',h.tree.of_fr hf (Nat.le_refl _) (key 1 _ (by decide) (Or.inl rfl)) (fun k hk=>key 1 k (by decide) (Or.inr hk)),h.out.of_fr hf (Nat.le_refl _) (key 2 _ (by decide) (Or.inl rfl)) (fun k hk=>key 2 k (by decide) (Or.inr hk)),
  ⟨hO'.rules.1.1,fun x hx=>(hO'.rules.1.2 x hx).1⟩,fun q hq=>Nat.lt_of_lt_of_le (hy q hq).2 hf.size,h.cache.fr hf ⟨h.cache.lt,key 3 _ (by decide) (Or.inl rfl)⟩ (fun k hk=>⟨(h.cache.own k hk).2.1,key 3 k (by decide) (Or.inr hk)⟩),fun i q hi hq=>h.low i q hi (same i q (by omega) hq),?_⟩
 intro i j q hi hj;by_cases ei:i=4
 ·by_cases ej:j=4
  ·rw[ei,ej]
  ·subst ei;have h1:=(hy q hi).1;have h2:=same j q ej hj
   match j,ej,h2 with
   | 0,_,h2=>have:=hN 0 q (by omega) h2; omega
   | 1,_,h2=>have:=hN 1 q (by omega) h2; omega
   | 2,_,h2=>have:=hN 2 q (by omega) h2; omega
   | 3,_,h2=>have:=hN 3 q (by omega) h2; omega
   | _+5,_,h2=>exact absurd h2 id
 ·by_cases ej:j=4
  ·subst ej;have h1:=(hy q hj).1;have h2:=same i q ei hi
   match i,ei,h2 with
   | 0,_,h2=>have:=hN 0 q (by omega) h2; omega
   | 1,_,h2=>have:=hN 1 q (by omega) h2; omega
   | 2,_,h2=>have:=hN 2 q (by omega) h2; omega
   | 3,_,h2=>have:=hN 3 q (by omega) h2; omega
   | _+5,_,h2=>exact absurd h2 id
  ·exact h.apart i j q (same i q ei hi) (same j q ej hj)
def ryO (z n:Nat):List Obj:=[.cells #[.slice none 0 0] 142, .cells #[.slice none 0 0] 142, .cells #[.int .i64 (n:Int), .slice none 0 0] 68, .cells #[ptrV z,ptrV (z+1), .slice none 0 0,ptrV (z+1+1)] 90]
def ryZ (z:Nat):RY:=⟨z+1+1+1,z,z+1,z+1+1, .slice none 0 0, .slice none 0 0, .slice none 0 0, .slice none 0 0,[]⟩
theorem ryO_at (w:World) (n:Nat):RYAt w.heap.size (ryZ w.heap.size) [] [] ⟨n,[],[]⟩ ((ryO w.heap.size n).foldl (fun w o=>w.alloc o) w):=by
 obtain⟨h1,h2,-⟩:=zfs (ryO w.heap.size n) w;generalize hW:(ryO w.heap.size n).foldl (fun w o=>w.alloc o) w=W at h1 h2;clear hW;have key:∀ i q,(ryZ w.heap.size).sec i q→(i=0∧q=w.heap.size+3)∨(i=1∧q=w.heap.size)∨(i=2∧q=w.heap.size+1)∨(i=3∧q=w.heap.size+2):=fun i q hq=>by
  match i,hq with
  | 0,hq=>exact Or.inl ⟨rfl,hq⟩
  | 1,hq=>rcases hq with rfl | hq; exact Or.inr (Or.inl ⟨rfl,rfl⟩); cases hq
  | 2,hq=>rcases hq with rfl | hq; exact Or.inr (Or.inr (Or.inl ⟨rfl,rfl⟩)); cases hq
  | 3,hq=>rcases hq with rfl | hq; exact Or.inr (Or.inr (Or.inr ⟨rfl,rfl⟩)); cases hq
  | 4,hq=>rcases hq with hq |⟨x,hx,-⟩; cases hq; cases hx
  | _+5,hq=>exact absurd hq id
 refine⟨h2 3 _ rfl,⟨h2 0 _ rfl,World.ownsRow_nil _ _ _ _,fun e=>by cases e⟩,⟨h2 1 _ rfl,World.ownsRow_nil _ _ _ _,fun e=>by cases e⟩,⟨⟨none,0,rfl,by simp[ryZ],fun i u h=>by simp[ryZ] at h⟩,fun x hx=>by cases hx⟩,fun q hq=>?_,⟨by show w.heap.size≤w.heap.size+1+1; omega,⟨[],⟨h2 2 _ rfl,⟨none,0,rfl,by simp,fun i u h=>by simp at h⟩⟩,Twin.init n⟩,fun k hk=>by cases hk⟩,fun i q _ hq=>?_,fun i j q hi hj=>?_⟩
 ·rcases hq with hq |⟨x,hx,-⟩; cases hq; cases hx
 ·have:=key i q hq; omega
 ·have h3:=key i q hi;have h4:=key j q hj;omega
theorem zpf (n:Nat) (w:World):Calls Tryz.prog 41 #[.int .i64 (n:Int)] w fun e w'=>e=.returned (ptrV (ryZ w.heap.size).y)∧RYAt w.heap.size (ryZ w.heap.size) [] [] ⟨n,[],[]⟩ w'∧Below w.heap.size w w':=by
 go_enter Tryz.func41,Tryz.ntmps41
 go_wp2
 go_ret
 exact⟨rfl,ryO_at w n,(zfs (ryO w.heap.size n) w).2.2⟩
theorem zt9 (w:World):Calls Tryz.prog 54 #[] w fun e w'=>∃ Z,e=.returned (ptrV Z.y)∧Z.R.map Prod.fst=playL∧RYAt w.heap.size Z [] [] ⟨8,[],[]⟩ w'∧Below w.heap.size w w'∧∀ q,RBlk Z.vl Z.R q→w.heap.size≤q:=by
 have KN:=Hd (zpf 8 w);go_enter Tryz.func54,Tryz.ntmps54
 go_wp2_with fail
 refine KN.out.mono ?_
 rintro e w1 ⟨rfl,hy,hb1⟩;have HY:=Hd hy;have HB:=Hd hb1;have KS:=Hd (zie w1);clear hy hb1 KN;obtain⟨Z,hZ⟩:∃ Z,ryZ w.heap.size=Z:=⟨_,rfl⟩;rw[hZ] at HY ⊢;clear hZ;go_wp2_with fail
 refine KS.out.mono ?_
 rintro e w2 ⟨v,R,rfl,hR,ho,hb2⟩;have hy2:=HY.out.below hb2;have HR2:=Hd (hy2.rset ho (fun i q _ hq=>HY.out.lt i q hq));have HB2:Hid (Below w.heap.size w (w2.setCell ⟨Z.y,2,none⟩ v)):=Hd ((HB.out.trans (hb2.mono HB.out.size)).setCell (p:=⟨Z.y,2,none⟩) (HY.out.low 0 _ (by omega) rfl) _)
 have d2:=hy2.cells.2.2.1;have f2:w2.frozen? ⟨Z.y,2,none⟩=false:=hy2.box.frozen 2;obtain⟨av,cv,hv,-,-⟩:=id ho.rules.1.1;rw[List.length_map] at hv;subst hv;have HRR:=Hd hR;have HRQ:=Hd (fun q hq=>Nat.le_trans HB.out.size (zey ho (q:=q) hq).1);clear ho hb2 hy2 KS hR;go_wp2
 go_ret
 exact⟨{ Z with vl:=_,R:=R },rfl,HRR.out,HR2.out,HB2.out,HRQ.out⟩
set_option maxHeartbeats 4000000 in
theorem zxm (X:RBx) (R:List RV) (v lv:Value) (m L:List Ent) (P:List Nat) (cv:Value) (cb:Nat) (lvc:Value) (B base:Nat) (w w0:World) (c:Option CS) (st:Nat→St) (h:RBAt X R.length v lv L P cv base w st) (hC:RCO X cv cb lvc B base w c) (hcs:COk c) (hP:PartOk (R.map Prod.fst) P) (hi0:BInv (R.map Prod.fst) P (fun p=>zaa p m) st)
  (hV:∀ wl,Fr w0.heap.size (zcl X cb c.isSome) w0 wl→REnv R v m L wl) (hw0:Fr w0.heap.size (zcl X cb c.isSome) w0 w) (hbase:B≤base) (i:Int) :
  Calls Tryz.prog 37 #[ptrV X.b, .int .i64 i] w (RRunPostC X R.length v lv lvc (R.map Prod.fst) (fun p=>zaa p m) L P cv cb B base w c st i):=by
 have hVw:=hV w hw0;obtain⟨a,cq,hv,-,-⟩:=id hVw.rules;have HC:=Hd hC;have HCS:=Hd hcs;have HXB:=Hd h.foot_base;have HBASE:=Hd hbase;clear hC hcs;rw[List.length_map] at hv;subst hv;have hn:=hVw.many;have hc1:w.cell? ⟨X.b,1,none⟩=some (.slice a R.length cq):=h.box.cell rfl;have hc2:w.cell? ⟨X.b,2,none⟩=some (slN X.s R.length):=h.box.cell rfl;have HLM:Hid ((R.map Prod.fst).length=R.length):=Hd (List.length_map _);by_cases hneg:i<0
 ·have e1:(i<0)=True:=eq_true hneg;have HN:=Hd (zxe (P:=P) hneg);have H:=Hd h;clear h hP hi0 hV hw0 hVw;go_enter Tryz.func37,Tryz.ntmps37
  go_wp2
  go_ret2
  exact RRunPostC.mk (hit:=false) (code:=6) (.none HN.out) (H.out) HC.out (Fr.refl _ _ _) (fun _ h=>Or.inl h)
 by_cases hge:(R.length:Int)≤i
 ·have e1:(i<0)=False:=eq_false hneg;have e2:((R.length:Int)≤i)=True:=eq_true hge;have HN:Hid (∀ (k:Nat),k∈P→i≠(k:Int)):=Hd (fun k hk e=>by have:=hP.lt k hk; rw[HLM.out] at this; omega)
  have H:=Hd h;clear h hP hi0 hV hw0 hVw;go_enter Tryz.func37,Tryz.ntmps37
  go_wp2
  go_ret2
  exact RRunPostC.mk (hit:=false) (code:=6) (.none HN.out) (H.out) HC.out (Fr.refl _ _ _) (fun _ h=>Or.inl h)
 obtain⟨k,rfl⟩:∃ k:Nat,i=(k:Int):=⟨i.toNat,by omega⟩
 have hk:k<R.length:=by omega
 have e1:((k:Int)<0)=False:=eq_false hneg;have e2:((R.length:Int)≤(k:Int))=False:=eq_false hge;have hix:=zbm (P:=Tryz.prog) (T:=33) (E:=9) Tryz.underlying33 (by kernel_rfl) X.s R.length R.length k hk
 have hcs:w.cell? ⟨X.s,k,none⟩=some (str (rSt P st k)):=h.state.cell (k:=k) (by rw[List.getElem?_map,List.getElem?_range hk]; rfl)
 have hcs0:=hcs;by_cases hkP:k∈P
 rotate_left
 ·have hst:rSt P st k=[]:=by simp[rSt,hkP]
  rw[hst] at hcs;have HN:Hid (∀ (j:Nat),j∈P→(k:Int)≠(j:Int)):=Hd (fun j hj e=>by
   obtain rfl:k=j:=by omega
   exact hkP hj)
  have H:=Hd h;clear h hP hi0 hV hw0 hVw hneg hge hst hcs0;go_enter Tryz.func37,Tryz.ntmps37
  go_wp2
  go_ret2
  exact RRunPostC.mk (hit:=false) (code:=6) (.none HN.out) (H.out) HC.out (Fr.refl _ _ _) (fun _ h=>Or.inl h)
 by_cases hs1:(st k).state=1
 rotate_left
 ·have HN:Hid (RunRel (R.map Prod.fst) P (fun p=>zaa p m) c st k false 12 c st):=Hd (.done hkP hs1);have H:=Hd h;have hone:=hi0.one k hkP;have hst:rSt P st k=zak (st k).state:=by simp[rSt,hkP]
  rw[hst] at hcs;generalize (st k).state=q at *;clear h hP hi0 hV hw0 hVw hneg hge hst hcs0;obtain rfl | rfl | rfl:q=2∨q=3∨q=4:=by omega
  all_goals
   simp only[zak] at hcs;go_enter Tryz.func37,Tryz.ntmps37
   go_wp2
   go_ret2
   exact RRunPostC.mk (hit:=false) (code:=12) (HN.out) (H.out) HC.out (Fr.refl _ _ _) (fun _ h=>Or.inl h)
 have hst:rSt P st k=[119,97,105,116,115]:=by simp[rSt,hkP,hs1,zak]
 rw[hst] at hcs;have KI:=Hd (ziu X R (.slice a R.length cq) lv L P cv base w st h ⟨fun k hk=>hP.lt k hk,hP.shut,hi0.one⟩ hVw.rules hVw.ins hn k hk);have hrd:rdyB (R.map Prod.fst) P st k=zez (R.map Prod.fst) st k:=by simp[rdyB,hkP]
 rw[hrd] at KI;cases hrb:zez (R.map Prod.fst) st k with
 | false =>
  rw[hrb] at KI;have HN:Hid (RunRel (R.map Prod.fst) P (fun p=>zaa p m) c st k false 11 c st):=Hd (.turn hkP hs1 (fun hr=>by rw[readyB_iff.2 hr] at hrb; cases hrb))
  have H:=Hd h;clear h hP hi0 hV hw0 hVw hneg hge hst hcs0 hrd hrb hs1 hkP;go_enter Tryz.func37,Tryz.ntmps37
  go_wp2_with fail
  refine KI.out.mono ?_
  rintro e w1 ⟨rfl,hb1⟩;have HB1:=Hd hb1;clear hb1;go_wp2
  go_ret2
  exact RRunPostC.mk (hit:=false) (code:=11) (HN.out) (H.out.below HB1.out) (HC.out.below HB1.out) (Fr.of_below HB1.out) (fun _ h=>Or.inl h)
 | true =>
  rw[hrb] at KI;have hrdy:zc2 (R.map Prod.fst) st k:=readyB_iff.1 hrb;have hml:(R.map Prod.fst).length=R.length:=List.length_map _;have hkl:k<(R.map Prod.fst).length:=by rw[hml]; exact hk
  have HIN:Hid (∀ s,s∈R[k].1.ins→∀ q (hq:q<R.length),R[q].1.out=s→inP (R.map Prod.fst) P (fun p=>zaa p m) st s=some (st q).out):=Hd (fun s hs q hq he=>by
   have hqe:q∈zae (R.map Prod.fst) k:=(zcd hkl).2 ⟨by rw[hml]; exact hq,by simp only[List.getElem_map]; rw[he]; exact hs⟩
   have h1:=ziz (T:=fun p=>zaa p m) (st:=st) hP (hP.shut k hkP q hqe);rw[zat (show q<(R.map Prod.fst).length by rw[hml]; exact hq),List.getElem_map,he] at h1
   exact h1)
  have HFL:Hid (∀ s,(∀ q (hq:q<R.length),R[q].1.out≠s)→inP (R.map Prod.fst) P (fun p=>zaa p m) st s=zaa s m):=Hd (fun s hs=>zi0 (fun q hq e=>by
   have hql:=hP.lt q hq;rw[zat hql,List.getElem_map] at e;exact hs q (by rw[hml] at hql; exact hql) e))
  have HUN:Hid (∀ q j (hq:q<R.length) (hj:j<R.length),R[q].1.out=R[j].1.out→q=j):=Hd (fun q j hq hj e=>hP.right.2.outs (by rw[hml]; exact hq) (by rw[hml]; exact hj) (by simpa using e))
  have HRW:Hid ((R.map Prod.fst).getD k noR=R[k].1):=Hd (by rw[zat hkl,List.getElem_map])
  have hsh:=hVw.short R[k].1 (List.mem_map.2 ⟨R[k],List.getElem_mem hk,rfl⟩);obtain⟨b,o,hixr,-,hce⟩:=hVw.rules.at (P:=Tryz.prog) Tryz.underlying22 (by kernel_rfl) k (by simpa using hk)
  simp only[List.getElem_map] at hce;have hr0:=hce 0 _ rfl;have hr1:=hce 1 _ rfl;have hr2:=hce 2 _ rfl;have hr3:=hce 3 _ rfl;simp only[Nat.add_zero] at hr0;have HOU:Hid (∀ j (hj:j<R.length) wl,Below w.heap.size w wl→∃ b o,(∀ w',(Instr.indexAt 22 (.slice a R.length cq) (.int .i64 (j:Int))).run Tryz.prog w'=.ok (.pointer (some ⟨b,o,none⟩)) w')∧wl.cell? ⟨b,o,none⟩=some (str R[j].1.out)):=Hd (fun j hj wl hb=>by
   obtain⟨b,o,h1,-,h2⟩:=(hVw.below hb).rules.at (P:=Tryz.prog) Tryz.underlying22 (by kernel_rfl) j (by simpa using hj)
   simp only[List.getElem_map] at h2;have h3:=h2 0 _ rfl;simp only[Nat.add_zero] at h3;exact⟨b,o,h1,h3⟩)
  have HRI:=Hd (fun wl (hb:Below w.heap.size w wl)=>(hVw.below hb).ins R[k] (List.getElem_mem hk));have HH:=Hd (fun wl (hb:Below w.heap.size w wl)=>h.below hb);have HREL:=Hd (fun (c':Bool) (c1:Option CS) (st':Nat→St) (hg:GoRel (R.map Prod.fst) P (fun p=>zaa p m) c st k c' c1 st')=>(RunRel.go hkP hrdy hg));have HSHO:=Hd (fun (ins:List (List UInt8)) (hins:((R.map Prod.fst).getD k noR).ins.map (inP (R.map Prod.fst) P (fun p=>zaa p m) st)=ins.map some)=>zjg hP hi0 (fun p b hb=>by
   have:=hVw.tw.perm;exact (hVw.tw.path (p,b) (this.mem_iff.1 (zfg hb))).2.2) hkP hrdy.2 hins)
  have KFAIL:Hid (∀ wl,Below w.heap.size w wl→∀ e,Calls Tryz.prog 101 #[ptrV X.b,intE k,intE e] wl fun r w'=>r=.returned (.tuple #[])∧∃ st',FailPost (R.map Prod.fst) P st st' k e∧RBAt X R.length (.slice a R.length cq) lv L P cv base w' st'∧Fr wl.heap.size (fun q=>q=X.s∨q=X.y) wl w'):=Hd (fun wl hb e=>zo5 X R _ lv L P _ base wl st (h.below hb) hP hi0.one (hVw.below hb).rules (hVw.below hb).ins (fun w' hf=>by
   have hb2:=hw0.trans ((Fr.of_below hb).mono hw0.size (fun _ _ h=>h));have:=hf.mono (S':=zcl X cb c.isSome) hb2.size (fun q _ hq=>Or.inl (hq.elim Or.inl (fun h=>Or.inr (Or.inr (Or.inr h)))));exact⟨(hV _ (hb2.trans this)).rules,(hV _ (hb2.trans this)).ins⟩) hn k e hkP)
  have KFAIL2:Hid (∀ wl,RBAt X R.length (.slice a R.length cq) lv L P cv base wl st→Fr w0.heap.size (zcl X cb c.isSome) w0 wl→∀ e,Calls Tryz.prog 101 #[ptrV X.b,intE k,intE e] wl fun r w'=>r=.returned (.tuple #[])∧∃ st',FailPost (R.map Prod.fst) P st st' k e∧RBAt X R.length (.slice a R.length cq) lv L P cv base w' st'∧Fr wl.heap.size (fun q=>q=X.s∨q=X.y) wl w'):=Hd (fun wl hr hb e=>zo5 X R _ lv L P _ base wl st hr hP hi0.one (hV _ hb).rules (hV _ hb).ins (fun w' hf=>by
   have:=hf.mono (S':=zcl X cb c.isSome) hb.size (fun q _ hq=>Or.inl (hq.elim Or.inl (fun h=>Or.inr (Or.inr (Or.inr h)))));exact⟨(hV _ (hb.trans this)).rules,(hV _ (hb.trans this)).ins⟩) hn k e hkP)
  have HW0:=Hd hw0;have KFIND:=Hd (fun wl (hb:Below w.heap.size w wl) (p:List UInt8)=>zfo base X.t lv L p wl (h.below hb).tree);have HTW:=Hd hVw.tw;have HWT:Hid ((st k).hit=false∧(st k).why=0):=Hd (by have:=hi0.wait k hkP hs1; exact⟨this.2.1,this.2.2.2⟩)
  have HKP:=Hd hkP;have HK:=Hd hk;clear hce hrdy hP hi0 hV hw0 hVw hkP hs1 hst hcs0 hneg hge hml hrb hrd hkl;generalize R[k]=x at *;obtain⟨⟨x0,x1,x2,ins⟩,x3⟩:=x;simp only at hr0 hr1 hr2 hr3 HIN HRI hsh HRW;obtain⟨ai,ci,hai,hil,-⟩:=id (HRI.out w (Below.refl _ _));rw[List.length_map] at hai hil;subst hai;have HSH:=Hd hsh;have hi1000:ins.length≤1000:=hsh.2.2.2.2;clear h hsh;go_enter Tryz.func37,Tryz.ntmps37
  go_wp2_with fail
  refine KI.out.mono ?_
  rintro e w1 ⟨rfl,hb1⟩;have hc1:w1.cell? ⟨X.b,1,none⟩=some (.slice a R.length cq):=(HH.out _ hb1).box.cell rfl;have hq0:=(hb1.cell (zad hr0)).trans hr0;have hq1:=(hb1.cell (zad hr1)).trans hr1;have hq2:=(hb1.cell (zad hr2)).trans hr2;have hq3:=(hb1.cell (zad hr3)).trans hr3;have HB1:=Hd hb1;have HZB:Hid (w.heap.size≤w1.heap.size):=Hd hb1.size;obtain⟨rb,hrb⟩:∃ x,x=w1.heap.size:=⟨_,rfl⟩;obtain⟨W1,hW1⟩:∃ W,w1.alloc (.cells #[str x0,str x1,str x2, .slice ai ins.length ci] 35)=W:=⟨_,rfl⟩;have hA1:Below w.heap.size w W1:=hW1▸hb1.alloc hb1.size _;have hV1:VRow 35 W1 rb [str x0,str x1,str x2, .slice ai ins.length ci]:=hrb▸hW1▸heap_alloc_here w1 _;have HA1:=Hd hA1;have HV1:=Hd hV1;have HW1:=Hd hW1;clear hb1 hA1 hV1 hW1;go_wp2_with fail
  rw[← hrb];have HRBE:=Hd hrb;clear hrb hc1 hc2 hcs hr0 hr1 hr2 hr3 hq0 hq1 hq2 hq3 hixr hix;have HZ1:Hid (w.heap.size≤W1.heap.size):=Hd HA1.out.size;have HWB:Hid (∀ wl,Below W1.heap.size W1 wl→Below w.heap.size w wl):=Hd (fun wl hb=>HA1.out.trans (hb.mono HZ1.out));have HCX:Hid (∀ wl,Below W1.heap.size W1 wl→wl.cell? ⟨rb,0,none⟩=some (str x0)∧wl.cell? ⟨rb,1,none⟩=some (str x1)∧wl.cell? ⟨rb,2,none⟩=some (str x2)∧wl.cell? ⟨rb,3,none⟩=some (.slice ai ins.length ci)∧wl.cell? ⟨X.b,0,none⟩=some (ptrV X.t)∧wl.cell? ⟨X.b,1,none⟩=some (.slice a R.length cq)∧wl.cell? ⟨X.b,3,none⟩=some (slN X.o R.length)) :=
   Hd (fun wl hb=>⟨(HV1.out.below0 hb).cell rfl,(HV1.out.below0 hb).cell rfl,(HV1.out.below0 hb).cell rfl,(HV1.out.below0 hb).cell rfl,(HH.out _ (HWB.out _ hb)).box.cell rfl,(HH.out _ (HWB.out _ hb)).box.cell rfl,(HH.out _ (HWB.out _ hb)).box.cell rfl⟩)
  rw[HW1.out]
  go_loopw [8,9] (fun ov kv wl=>∃ (j:Nat) (vs:List (List UInt8)),j≤ins.length∧kv=.int .i64 j∧(ins.take j).map (inP (R.map Prod.fst) P (fun p=>zaa p m) st)=vs.map some∧wl.ownsRow W1.heap.size 9 1 ov vs.length (vs.map str)∧Below W1.heap.size W1 wl) (fun _ kv _=>ins.length - (intOf kv).toNat)
  case atStart=>exact⟨0,[],by omega,rfl,rfl,World.ownsRow_nil _ _ _ _,Below.refl _ _⟩
  case round =>
   obtain⟨j,vs,hj,rfl,hvs,hown,hbj⟩:=hrel;have HVS:=Hd hvs;have HOW:=Hd hown;have HBJ:=Hd hbj;have hvl:vs.length≤j:=by
    have:=congrArg List.length hvs;simp only[List.length_map,List.length_take] at this;omega
   obtain⟨k0,k1,k2,k3,k4,k5,k6⟩:=HCX.out _ hbj;by_cases hlt:j<ins.length
   ·have hlc:((j:Int)<(ins.length:Int))=True:=eq_true (by omega)
    have HSI:Hid (∀ wl,Below W1.heap.size W1 wl→∃ b o,(∀ w',(Instr.indexAt 33 (.slice ai ins.length ci) (.int .i64 (j:Int))).run Tryz.prog w'=.ok (.pointer (some ⟨b,o,none⟩)) w')∧wl.cell? ⟨b,o,none⟩=some (str ins[j])):=Hd (fun wl hb=>by
     obtain⟨b,o,h1,h2⟩:=(HRI.out _ (HWB.out _ hb)).at (P:=Tryz.prog) Tryz.underlying33 (by kernel_rfl) j (by simpa using hlt)
     simp only[List.getElem_map] at h2;exact⟨b,o,h1,h2⟩)
    have HTK:Hid (ins.take (j+1)=ins.take j++[ins[j]]):=Hd (by rw[List.take_succ_eq_append_getElem hlt])
    have HIS:Hid (∀ q (hq:q<R.length),R[q].1.out=ins[j]→inP (R.map Prod.fst) P (fun p=>zaa p m) st ins[j]=some (st q).out):=Hd (HIN.out _ (List.getElem_mem hlt));have HMI:Hid (ins[j]∈ins):=Hd (List.getElem_mem hlt);generalize ins[j]=s at *;clear hvs hown hbj;go_wp2_with fail
    go_loopw [8,10,11] (fun ov fv qv wl=>∃ (q:Nat) (f:Bool) (vs':List (List UInt8)),q≤R.length∧qv=.int .i64 q∧fv=.bool f∧((f=false∧vs'=vs∧∀ z (hz:z<R.length),z<q→R[z].1.out≠s)∨(f=true∧∃ z,∃ hz:z<R.length,z<q∧R[z].1.out=s∧vs'=vs++[(st z).out]))∧wl.ownsRow W1.heap.size 9 1 ov vs'.length (vs'.map str)∧Below W1.heap.size W1 wl) (fun _ _ qv _=>R.length - (intOf qv).toNat)
    case atStart=>exact⟨0,false,vs,by omega,rfl,rfl,Or.inl ⟨rfl,rfl,fun z _ hz=>absurd hz (Nat.not_lt_zero z)⟩,HOW.out,HBJ.out⟩
    case round =>
     obtain⟨q,f,vs',hq,rfl,rfl,hfs,hown,hbq⟩:=hrel;have HFS:=Hd hfs;have HOW2:=Hd hown;have HBQ:=Hd hbq;have hzq:=hbq.size;have hvl2:vs'.length≤j+1:=by
      rcases hfs with ⟨-,rfl,-⟩ |⟨-,z,hz,-,-,rfl⟩
      ·omega
      ·simp; omega
     obtain⟨k0,k1,k2,k3,k4,k5,k6⟩:=HCX.out _ hbq;by_cases hlq:q<R.length
     ·have hlcq:((q:Int)<(R.length:Int))=True:=eq_true (by omega)
      obtain⟨b4,o4,hix4,hc4⟩:=HOU.out q hlq _ (HWB.out _ hbq);obtain⟨b5,o5,hix5,hc5⟩:=HSI.out _ hbq;have hixo:=zbm (P:=Tryz.prog) (T:=33) (E:=9) Tryz.underlying33 (by kernel_rfl) X.o R.length R.length q hlq
      have hco:wr.cell? ⟨X.o,q,none⟩=some (str (st q).out):=(HH.out _ (HWB.out _ hbq)).out.cell (k:=q) (by rw[List.getElem?_map,List.getElem?_range hlq]; rfl)
      have HNO:Hid ((R[q].1.out==s)=false→((f=false∧vs'=vs∧∀ z (hz:z<R.length),z<q+1→R[z].1.out≠s)∨(f=true∧∃ z,∃ hz:z<R.length,z<q+1∧R[z].1.out=s∧vs'=vs++[(st z).out]))):=Hd (fun he=>by
       rcases HFS.out with ⟨h1,h2,h3⟩ |⟨h1,z,hz,h2,h3,h4⟩
       ·refine Or.inl ⟨h1,h2,fun z hz hzq=>?_⟩
        by_cases hzq2:z=q
        ·subst hzq2; simpa using he
        ·exact h3 z hz (by omega)
       ·exact Or.inr ⟨h1,z,hz,by omega,h3,h4⟩)
      have HYE:Hid ((R[q].1.out==s)=true→vs'=vs∧∃ z,∃ hz:z<R.length,z<q+1∧R[z].1.out=s∧vs++[(st q).out]=vs++[(st z).out]):=Hd (fun he=>by
       have he2:R[q].1.out=s:=by simpa using he
       rcases HFS.out with ⟨h1,h2,h3⟩ |⟨h1,z,hz,h2,h3,h4⟩
       ·exact⟨h2,q,hlq,by omega,he2,rfl⟩
       ·have:=HUN.out z q hz hlq (h3.trans he2.symm);omega)
      clear hfs hown hbq;cases hb:R[q].1.out==s with
      | false =>
       have HN2:=Hd (HNO.out hb);have hbf:=beqF hb;generalize R[q].1.out=y at *;clear HNO HYE;go_wp2_with fail
       go_quiet (fail)
       go_wp2
       go_roundw
       case rel=>exact⟨q+1,f,vs',by omega,by go_num,rfl,HN2.out,zb7 HOW2.out (zag (Below.refl _ _) _),zag HBQ.out _⟩
       case measure=>simp[intOf]; omega
      | true =>
       obtain⟨hve,hy⟩:=HYE.out hb;have HY:=Hd hy;subst hve;have hbf:=beqT hb;generalize R[q].1.out=y at *;clear HNO HYE hy;have hcoN:∀ nq,(wr.drewN nq).cell? ⟨X.o,q,none⟩=some (str (st q).out):=fun nq=>hco;generalize (st q).out=oq at *;go_wp2_with fail
       go_quiet (fail)
       have HOQ:=Hd (zb7 HOW2.out (zag (w:=wr) (Below.refl _ _) nq));have HBQ2:=Hd (zag HBQ.out nq);have hzq2:=HBQ2.out.size;go_wp2_with (first
        |(at_builtin
          refine zah _ rfl _ _ 33 rfl zqj W1.heap.size _ _ _ rfl (HOQ.out.alloc _) ⟨(wr.drewN nq).heap.size,0,none⟩ 1 1 [str oq] rfl rfl (zap ?_) ?_ (by decide) ?_ ?_ ?_
          ·rw[cell_of_heap (heap_alloc_here _ _)]; rfl
          ·intro u hu; simp at hu; subst hu; rfl
          ·omega
          ·simp; omega
          intro v6 w6 ho6 hg6 hloc6;have HO6:Hid (w6.ownsRow W1.heap.size 9 1 v6 (vs'++[oq]).length ((vs'++[oq]).map str)):=Hd (by
           rw[List.length_append,List.map_append,List.map_cons,List.map_nil];exact ho6)
          have HB6:Hid (Below W1.heap.size W1 w6):=Hd ((HBQ2.out.alloc hzq2 _).grown hg6 (by simp; omega) (fun q hq=>(HOQ.out.lt q hq).1))
          clear ho6 hg6 hloc6))
       go_wp2
       go_roundw
       case rel=>exact⟨q+1,true,_,by omega,by go_num,rfl,Or.inr ⟨rfl,HY.out⟩,HO6.out,HB6.out⟩
       case measure=>simp[intOf]; omega
     ·obtain rfl:q=R.length:=by omega
      have hlcq:((R.length:Int)<(R.length:Int))=False:=eq_false (by omega)
      clear hfs hown hbq;cases f with
      | true =>
       have HNX:Hid ((ins.take (j+1)).map (inP (R.map Prod.fst) P (fun p=>zaa p m) st)=vs'.map some):=Hd (by
        rcases HFS.out with ⟨h1,-⟩ |⟨-,z,hz,-,h3,h4⟩
        ·cases h1
        ·rw[HTK.out,List.map_append,HVS.out,h4,List.map_append,List.map_cons,List.map_nil,HIS.out z hz h3];rfl)
       go_wp2
       go_roundw
       case rel=>exact⟨j+1,vs',by omega,by go_num,HNX.out,HOW2.out,HBQ.out⟩
       case measure=>simp[intOf]; omega
      | false =>
       have HSA:Hid (vs'=vs∧inP (R.map Prod.fst) P (fun p=>zaa p m) st s=zaa s m):=Hd (by
        rcases HFS.out with ⟨-,h2,h3⟩ |⟨h1,-⟩
        ·exact⟨h2,HFL.out s (fun z hz=>h3 z hz hz)⟩
        ·cases h1)
       have hve:=HSA.out.1;subst hve;obtain⟨b5,o5,hix5,hc5⟩:=HSI.out _ HBQ.out;cases hl:zaa s m with
       | none =>
        have HGO:Hid (∀ st',FailPost (R.map Prod.fst) P st st' k 6→RunRel (R.map Prod.fst) P (fun p=>zaa p m) c st k false 0 c st'):=Hd (fun st' hf=>HREL.out _ _ _ (.gone ⟨s,by rw[HRW.out]; exact HMI.out,HSA.out.2.trans hl⟩ hf))
        have KF:Hid (∀ wl,Below W1.heap.size W1 wl→Calls Tryz.prog 100 #[.pointer (some ⟨X.t,0,none⟩),str s] wl fun e w'=>e=.returned (.int .i64 (-1))∧wl=w'):=Hd (fun wl hb=>by
         have:=KFIND.out wl (HWB.out _ hb) s;rw[HTW.out.lost hl] at this;exact this)
        have HSQ:Hid (∀ wl,Below wr.heap.size wr wl→wl.cell? ⟨X.b,0,none⟩=some (ptrV X.t)∧wl.cell? ⟨rb,3,none⟩=some (.slice ai ins.length ci)∧wl.cell? ⟨b5,o5,none⟩=some (str s)):=Hd (fun wl hb=>⟨(hb.cell (zad k4)).trans k4,(hb.cell (zad k3)).trans k3,(hb.cell (zad hc5)).trans hc5⟩);clear hl;go_wp2_with fail
        go_region_held3 (fun w'=>w'.cell? ⟨X.b,0,none⟩=some (ptrV X.t)∧w'.cell? ⟨rb,3,none⟩=some (.slice ai ins.length ci)∧w'.cell? ⟨b5,o5,none⟩=some (str s))
         (first | exact HSQ.out _ (Below.refl _ _) | exact HSQ.out _ (Below.refl _ _).drew)
         (first
          |(go_at_call 100
            refine (KF.out _ ?_).mono ?_
            ·first | exact HBQ.out | exact HBQ.out.drew
            rintro e w9 ⟨rfl,rfl⟩))
        all_goals
         go_wp2_with fail
         refine (KFAIL.out _ (HWB.out _ HBQ.out.drew) 6).mono ?_
         rintro e w9 ⟨rfl,st',hfp,hrb9,hfr9⟩;have HGO9:=Hd (HGO.out st' hfp);have HRB9:=Hd hrb9;have HFR9:Hid (Fr w.heap.size X.foot w w9):=Hd ((Fr.of_below (HWB.out _ HBQ.out.drew)).trans (hfr9.mono (HWB.out _ HBQ.out.drew).size (fun _ _ h=>h.elim Or.inl (fun h=>Or.inr (Or.inr (Or.inr h))))));clear hfp hrb9 hfr9;go_wp2
         go_ret2
         exact RRunPostC.mk (hit:=false) (code:=0) HGO9.out HRB9.out (HC.out.fr (fun q hq=>(HXB.out q hq).1) HFR9.out (fun _ _ h=>h)) (HFR9.out.mono (Nat.le_refl _) (fun _ _ h=>Or.inl h)) (fun _ h=>Or.inl h)
       | some bt =>
        obtain⟨fx,hf,hfl,hfb⟩:=HTW.out.found hl;have KF:Hid (∀ wl,Below W1.heap.size W1 wl→Calls Tryz.prog 100 #[.pointer (some ⟨X.t,0,none⟩),str s] wl fun e w'=>e=.returned (.int .i64 ((fx:Nat):Int))∧wl=w'):=Hd (fun wl hb=>by
         have:=KFIND.out wl (HWB.out _ hb) s;rw[hf] at this;exact this)
        have HSQ:Hid (∀ wl,Below wr.heap.size wr wl→wl.cell? ⟨X.b,0,none⟩=some (ptrV X.t)∧wl.cell? ⟨rb,3,none⟩=some (.slice ai ins.length ci)∧wl.cell? ⟨b5,o5,none⟩=some (str s)):=Hd (fun wl hb=>⟨(hb.cell (zad k4)).trans k4,(hb.cell (zad k3)).trans k3,(hb.cell (zad hc5)).trans hc5⟩);have hTr:=(HH.out _ (HWB.out _ HBQ.out.drew)).tree;have hrd:=hTr.reads;have hcl:=hTr.cell;obtain⟨al,cl,hlv,-,-⟩:=id hrd;rw[List.length_map] at hlv;subst hlv;obtain⟨b7,o7,hix7,-,hce7⟩:=hrd.at (P:=Tryz.prog) Tryz.underlying37 (by kernel_rfl) fx (by simpa using hfl)
        simp only[List.getElem_map] at hce7;have hb1:=hce7 1 _ rfl;rw[hfb] at hb1;have hc0:=(HCX.out _ HBQ.out.drew).2.2.2.2.1;have hfp:((fx:Int)<0)=False:=eq_false (by omega)
        have HNX:Hid ((ins.take (j+1)).map (inP (R.map Prod.fst) P (fun p=>zaa p m) st)=(vs'++[bt]).map some):=Hd (by
         rw[HTK.out,List.map_append,HVS.out,List.map_append,List.map_cons,List.map_nil,HSA.out.2,hl];rfl)
        have HOA:Hid (∀ ob,((wr.alloc ob).drew).ownsRow W1.heap.size 9 1 u8 vs'.length (vs'.map str)):=Hd (fun ob=>zb7 (HOW2.out.alloc ob) ((Below.refl _ _).drew));have HBQ2:=Hd HBQ.out.drew;have hzq2:=HBQ2.out.size;clear hl hTr hrd hce7 hf hfb;go_wp2_with fail
        go_region_held3 (fun w'=>w'.cell? ⟨X.b,0,none⟩=some (ptrV X.t)∧w'.cell? ⟨rb,3,none⟩=some (.slice ai ins.length ci)∧w'.cell? ⟨b5,o5,none⟩=some (str s))
         (first | exact HSQ.out _ (Below.refl _ _) | exact HSQ.out _ (Below.refl _ _).drew)
         (first
          |(go_at_call 100
            refine (KF.out _ ?_).mono ?_
            ·first | exact HBQ.out | exact HBQ.out.drew
            rintro e w9 ⟨rfl,rfl⟩))
        all_goals
         go_wp2_with (first
          |(at_builtin
            refine zah _ rfl _ _ 33 rfl zqj W1.heap.size _ _ _ rfl (HOA.out _) ⟨wr.heap.size,0,none⟩ 1 1 [str bt] rfl rfl (zap ?_) ?_ (by decide) ?_ ?_ ?_
            ·exact (cell_of_heap (heap_alloc_here wr _) 0).trans rfl
            ·intro u hu; simp at hu; subst hu; rfl
            ·omega
            ·simp; omega
            intro v6 w6 ho6 hg6 hloc6;have HO6:Hid (w6.ownsRow W1.heap.size 9 1 v6 (vs'++[bt]).length ((vs'++[bt]).map str)):=Hd (by
             rw[List.length_append,List.map_append,List.map_cons,List.map_nil];exact ho6)
            have HB6:Hid (Below W1.heap.size W1 w6):=Hd ((HBQ.out.alloc HBQ.out.size _).drew.grown hg6 (by simp; omega) (fun q hq=>(HOW2.out.lt q hq).1))
            clear ho6 hg6 hloc6))
         go_wp2
         go_roundw
         case rel=>exact⟨j+1,vs'++[bt],by omega,by go_num,HNX.out,HO6.out,HB6.out⟩
         case measure=>simp[intOf]; omega
   ·obtain rfl:j=ins.length:=by omega
    have hlc:((ins.length:Int)<(ins.length:Int))=False:=eq_false (by omega)
    have hvs2:=hvs;rw[List.take_length] at hvs2;have hin2:((R.map Prod.fst).getD k noR).ins.map (inP (R.map Prod.fst) P (fun p=>zaa p m) st)=vs.map some:=by rw[HRW.out]; exact hvs2
    have hsh2:=HSHO.out vs hin2;have hvlen:vs.length=ins.length:=by
     have:=congrArg List.length hvs2;simpa using this.symm
    have HIN2:=Hd hin2;have hst8:=zac hown;have KK:=Hd (zqu x1 x2 u8 vs wr hst8 HSH.out.2.1 HSH.out.2.2.1 (fun s hs=>by have:=hsh2 s hs; omega) (by omega))
    have KA:=Hd (fun wl (hrd:Reads wl u8 (vs.map str))=>zwx x1 x2 u8 vs wl hrd (by omega) (by have:=HSH.out.2.2.1; omega) (fun s hs=>by have:=hsh2 s hs; omega))
    have HOWN:=Hd hown;have hzj:=hbj.size;clear hvs hvs2 hin2 hsh2 hvlen hown hst8;cases c with
    | none =>
     obtain rfl:cv=.pointer none:=HC.out;have HC6:Hid (∀ wl,Below W1.heap.size W1 wl→wl.cell? ⟨X.b,6,none⟩=some (.pointer none)):=Hd (fun wl hb=>(HH.out _ (HWB.out _ hb)).box.cell rfl);obtain⟨⟨ec,bt⟩,hact⟩:∃ y,zcc x1 x2 vs=y:=⟨_,rfl⟩;have HACT:=Hd hact;have HO8:=Hd (zac HOWN.out);have KA2:Hid (∀ wl,Below wr.heap.size wr wl→Calls Tryz.prog 104 #[str x1,str x2,u8] wl fun e w'=>e=.returned (.tuple #[str bt, .int .i64 ((ec:Nat):Int)])∧Below wl.heap.size wl w'):=Hd (fun wl hb=>by
      have:=KA.out wl (HO8.out.below0 hb);rw[hact] at this;exact this)
     clear hact KA;go_wp2_with fail
     refine KK.out.mono ?_
     rintro e w2 ⟨rfl,hb2⟩;have HB2:=Hd (hbj.trans (hb2.mono hzj));have HB2R:=Hd hb2;obtain⟨k0,k1,k2,k3,k4,k5,k6⟩:=HCX.out _ HB2.out;have c6:=HC6.out _ HB2.out;clear hb2 hbj;go_wp2_with fail
     refine (KA2.out w2 HB2R.out).mono ?_
     rintro e w3 ⟨rfl,hb3⟩;have HB3:=Hd (HB2.out.trans (hb3.mono HB2.out.size));clear hb3;cases ec with
     | succ ec =>
      have hpos:(0<((ec+1:Nat):Int))=True:=eq_true (by omega)
      have HGO:Hid (∀ st',FailPost (R.map Prod.fst) P st st' k (ec+1)→RunRel (R.map Prod.fst) P (fun p=>zaa p m) none st k false 0 none st'):=Hd (fun st' hf=>HREL.out _ _ _ (.bad HIN2.out (fun _ h=>by cases h) (by rw[HRW.out]; exact HACT.out) hf))
      go_wp2_with fail
      refine (KFAIL.out _ (HWB.out _ HB3.out) (ec+1)).mono ?_
      rintro e w9 ⟨rfl,st',hfp,hrb9,hfr9⟩;have HGO9:=Hd (HGO.out st' hfp);have HRB9:=Hd hrb9;have HFR9:Hid (Fr w.heap.size (zcl X cb false) w w9):=Hd ((Fr.of_below (HWB.out _ HB3.out)).trans (hfr9.mono (HWB.out _ HB3.out).size (fun _ _ h=>Or.inl (h.elim Or.inl (fun h=>Or.inr (Or.inr (Or.inr h)))))));clear hfp hrb9 hfr9;go_wp2
      go_ret2
      exact RRunPostC.mk (lvc':=lvc) (hit:=false) (code:=0) HGO9.out HRB9.out rfl HFR9.out (fun _ h=>Or.inl h)
     | zero =>
      have hpos:(0<((0:Nat):Int))=False:=eq_false (by omega)
      have HGO:Hid (RunRel (R.map Prod.fst) P (fun p=>zaa p m) none st k false 0 none (zbb st k ⟨2,false,bt,0⟩)):=Hd (HREL.out _ _ _ (.run HIN2.out (fun _ h=>by cases h) (by rw[HRW.out]; exact HACT.out)))
      have h3:=HH.out _ (HWB.out _ HB3.out);have H4:Hid (RBAt X R.length (.slice a R.length cq) lv L P (.pointer none) base (w3.setCell ⟨X.s,k,none⟩ (str [100,111,110,101])) (zbb st k { st k with state:=2 })):=Hd (h3.put_state k (zak 2) (fun j=>zck HKP.out _ j) (fun j=>zba St.out (by rfl) j) (fun j=>zba St.hit (by rfl) j) (fun j=>zba St.why (by rfl) j))
      have H5:Hid (RBAt X R.length (.slice a R.length cq) lv L P (.pointer none) base ((w3.setCell ⟨X.s,k,none⟩ (str [100,111,110,101])).setCell ⟨X.o,k,none⟩ (str bt)) (zbb st k ⟨2,false,bt,0⟩)):=Hd (H4.out.put_out k bt (fun j=>by rw[zck HKP.out,zck HKP.out]) (fun j=>by unfold zbb; split <;> rfl) (fun j=>by
       unfold zbb
       split
       ·exact HWT.out.1.symm
       ·rfl) (fun j=>by
       unfold zbb
       split
       ·exact HWT.out.2.symm
       ·rfl))
      have HF5:Hid (Fr w.heap.size (zcl X cb false) w ((w3.setCell ⟨X.s,k,none⟩ (str [100,111,110,101])).setCell ⟨X.o,k,none⟩ (str bt))):=Hd (((Fr.of_below (HWB.out _ HB3.out)).setCell (p:=⟨X.s,k,none⟩) (fun _=>Or.inl (Or.inl rfl)) _).setCell (p:=⟨X.o,k,none⟩) (fun _=>Or.inl (Or.inr (Or.inl rfl))) _);have hixk:=zbm (P:=Tryz.prog) (T:=33) (E:=9) Tryz.underlying33 (by kernel_rfl) X.s R.length R.length k hk
      have hixo:=zbm (P:=Tryz.prog) (T:=33) (E:=9) Tryz.underlying33 (by kernel_rfl) X.o R.length R.length k hk
      have d2:w3.cell? ⟨X.b,2,none⟩=some (slN X.s R.length):=h3.box.cell rfl;have d3:(w3.setCell ⟨X.s,k,none⟩ (str [100,111,110,101])).cell? ⟨X.b,3,none⟩=some (slN X.o R.length):=H4.out.box.cell rfl;have d6:((w3.setCell ⟨X.s,k,none⟩ (str [100,111,110,101])).setCell ⟨X.o,k,none⟩ (str bt)).cell? ⟨X.b,6,none⟩=some (.pointer none):=H5.out.box.cell rfl;have f2:w3.frozen? ⟨X.s,k,none⟩=false:=h3.state.frozen k;have f3:(w3.setCell ⟨X.s,k,none⟩ (str [100,111,110,101])).frozen? ⟨X.o,k,none⟩=false:=H4.out.out.frozen k;obtain⟨u0,hu0⟩:∃ u,w3.cell? ⟨X.s,k,none⟩=some u:=⟨_,h3.state.cell (k:=k) (by rw[List.getElem?_map,List.getElem?_range hk]; rfl)⟩
      obtain⟨u1,hu1⟩:∃ u,(w3.setCell ⟨X.s,k,none⟩ (str [100,111,110,101])).cell? ⟨X.o,k,none⟩=some u:=⟨_,H4.out.out.cell (k:=k) (by rw[List.getElem?_map,List.getElem?_range hk]; rfl)⟩
      clear h3;go_wp2
      go_ret2
      exact RRunPostC.mk (lvc':=lvc) (hit:=false) (code:=0) HGO.out H5.out rfl HF5.out (fun _ h=>Or.inl h)
    | some c =>
     have HCC:=Hd (HCS.out c rfl).1;clear HCS;have HCS:=Hd HCC.out;obtain rfl:=HC.out.1;have HC6:Hid (∀ wl,Below W1.heap.size W1 wl→wl.cell? ⟨X.b,6,none⟩=some (ptrV cb)):=Hd (fun wl hb=>(HH.out _ (HWB.out _ hb)).box.cell rfl);go_wp2_with fail
     refine KK.out.mono ?_
     rintro e w2 ⟨rfl,hb2⟩;have HB2:=Hd (hbj.trans (hb2.mono hzj));have HBW:=Hd (HWB.out _ HB2.out);have HOW2:=Hd (zb7 HOWN.out hb2);have c6:=HC6.out _ HB2.out;have HRC2:=Hd (HC.out.below HBW.out);obtain⟨-,hcb,hrc,hnf⟩:=HC.out.below HBW.out;obtain⟨es,hra,htw⟩:=hrc.at_;have HES:=Hd htw.len;have HTWN:=Hd htw;have HRA:=Hd hra;have KG:=Hd (zt2 cb lvc c.many es (keyL x1 x2 vs) w2 hra (fun k hk=>(hrc.own k hk).2.1) (by have:=HES.out; have:=HCS.out.lim; omega) HCS.out.one)
     have HCBL:Hid (cb<w.heap.size):=Hd (by
      obtain⟨-,-,h3,-⟩:=HC.out;exact h3.lt)
     have HCBB:Hid (cb<base):=Hd hcb;obtain⟨key,hkey⟩:∃ key,keyL x1 x2 vs=key:=⟨_,rfl⟩;have HKEY:=Hd hkey;rw[hkey] at KG ⊢;have HRB2:=Hd (HH.out _ HBW.out);have HGG:=Hd (HCX.out _ HB2.out);have hz2:=HBW.out.size;have HZ2:Hid (W1.heap.size≤w2.heap.size):=Hd HB2.out.size;obtain⟨k0,k1,k2,k3,k4,k5,k6⟩:=HCX.out _ HB2.out;obtain⟨⟨ec,bt⟩,hact⟩:∃ y,zcc x1 x2 vs=y:=⟨_,rfl⟩;have HACT:=Hd hact;have KA2:Hid (∀ wl,Reads wl u8 (vs.map str)→Calls Tryz.prog 104 #[str x1,str x2,u8] wl fun e w'=>e=.returned (.tuple #[str bt, .int .i64 ((ec:Nat):Int)])∧Below wl.heap.size wl w'):=Hd (fun wl hb=>by
      have:=KA.out wl hb;rw[hact] at this;exact this)
     clear hb2 hbj hact KA hkey htw hra hrc hnf hcb;go_wp2_with fail
     refine KG.out.mono ?_
     rintro e w3 ⟨rfl,lv3,hR3,hF3,hown3⟩;have HR3:=Hd hR3;have HF3:=Hd hF3;have HO3:=Hd hown3;have HLV3:Hid (∀ k,lv3.ownBlock=some k→lvc.ownBlock=some k∨w.heap.size≤k):=Hd (fun k hk=>(hown3 k hk).elim Or.inl (fun h=>Or.inr (Nat.le_trans hz2 h.1)));have HRB3:=Hd (HRB2.out.of_fr hF3 (Nat.le_refl _) (fun q _ hb hs=>by have:=HCBB.out; omega))
     have HFW3:Hid (Fr w.heap.size (fun q=>q=cb) w w3):=Hd ((Fr.of_below HBW.out).trans (hF3.mono hz2 (fun _ _ h=>h)));have HU8:=Hd (zac (zaf HOW2.out hF3 (fun q hq=>⟨(HOW2.out.lt q hq).2,fun hs=>by have h1:=(HOW2.out.lt q hq).1; have h2:=HCBL.out; have h3:=HZ1.out; omega⟩)))
     have HRB:Hid (w.heap.size≤rb∧rb<w2.heap.size):=Hd ⟨by rw[HRBE.out]; exact HZB.out,zad k0⟩
     have d1:w3.cell? ⟨rb,1,none⟩=some (str x1):=(hF3.cell (p:=⟨rb,1,none⟩) HRB.out.2 (fun (e:rb=cb)=>by have:=HRB.out.1; have:=HCBL.out; omega)).trans k1
     have d2:w3.cell? ⟨rb,2,none⟩=some (str x2):=(hF3.cell (p:=⟨rb,2,none⟩) HRB.out.2 (fun (e:rb=cb)=>by have:=HRB.out.1; have:=HCBL.out; omega)).trans k2
     have e2:w3.cell? ⟨X.b,2,none⟩=some (slN X.s R.length):=HRB3.out.box.cell rfl;have hixk:=zbm (P:=Tryz.prog) (T:=33) (E:=9) Tryz.underlying33 (by kernel_rfl) X.s R.length R.length k hk
     have hixo:=zbm (P:=Tryz.prog) (T:=33) (E:=9) Tryz.underlying33 (by kernel_rfl) X.o R.length R.length k hk
     have hixh:=zbm (P:=Tryz.prog) (T:=156) (E:=4) Tryz.underlying156 (by kernel_rfl) X.h R.length R.length k hk
     have HLK:Hid (zaa key c.mp=zaa key es):=Hd (HTWN.out.look key);have HB0:Hid (∀ wl,Fr w.heap.size (zcl X cb true) w wl→Fr w0.heap.size (zcl X cb true) w0 wl):=Hd (fun wl hf=>HW0.out.trans (hf.mono HW0.out.size (fun _ _ h=>h)));clear hR3 hF3 hown3 k0 k1 k2 k3 k4 k5 k6 c6 KG;cases hl:zaa key es with
     | some b =>
      have HL:=Hd hl;have HGO:Hid (RunRel (R.map Prod.fst) P (fun p=>zaa p m) (some c) st k true 0 (some (cGet c key)) (zbb st k ⟨2,true,b,0⟩)):=Hd (HREL.out _ _ _ (by
       have:=GoRel.hit (l:=R.map Prod.fst) (P:=P) (T:=fun p=>zaa p m) (c:=c) (st:=st) (i:=k) (ins:=vs) (b:=b) HIN2.out (by rw[HRW.out,HKEY.out,HLK.out,HL.out])
       rw[HRW.out,HKEY.out] at this;exact this))
      have HRC3:Hid (RCO X (ptrV cb) cb lv3 B base w3 (some (cGet c key))):=Hd (HRC2.out.had (fun q hq=>by have:=(HXB.out q hq).2; omega) HF3.out (es':=zhn c.many key b es) (by have:=HR3.out; unfold zpb at this; rw[HL.out] at this; exact this) (by
       have h1:=HTWN.out.get key b (by rw[HLK.out,HL.out])
       unfold cGet;rw[HLK.out,HL.out];exact h1) HO3.out)
      have H4:Hid (RBAt X R.length (.slice a R.length cq) lv L P (ptrV cb) base (w3.setCell ⟨X.s,k,none⟩ (str [100,111,110,101])) (zbb st k { st k with state:=2 })):=Hd (HRB3.out.put_state k (zak 2) (fun j=>zck HKP.out _ j) (fun j=>zba St.out (by rfl) j) (fun j=>zba St.hit (by rfl) j) (fun j=>zba St.why (by rfl) j))
      have H5:Hid (RBAt X R.length (.slice a R.length cq) lv L P (ptrV cb) base ((w3.setCell ⟨X.s,k,none⟩ (str [100,111,110,101])).setCell ⟨X.o,k,none⟩ (str b)) (zbb st k ⟨2,false,b,0⟩)):=Hd (H4.out.put_out k b (fun j=>by rw[zck HKP.out,zck HKP.out]) (fun j=>by unfold zbb; split <;> rfl) (fun j=>by
       unfold zbb
       split
       ·exact HWT.out.1.symm
       ·rfl) (fun j=>by
       unfold zbb
       split
       ·exact HWT.out.2.symm
       ·rfl))
      have H6:Hid (RBAt X R.length (.slice a R.length cq) lv L P (ptrV cb) base (((w3.setCell ⟨X.s,k,none⟩ (str [100,111,110,101])).setCell ⟨X.o,k,none⟩ (str b)).setCell ⟨X.h,k,none⟩ (.bool true)) (zbb st k ⟨2,true,b,0⟩)):=Hd (H5.out.put_hit k true (fun j=>by rw[zck HKP.out,zck HKP.out]) (fun j=>by unfold zbb; split <;> rfl) (fun j=>by unfold zbb; split <;> rfl) (fun j=>by unfold zbb; split <;> rfl))
      have HF6:Hid (Fr w3.heap.size X.foot w3 (((w3.setCell ⟨X.s,k,none⟩ (str [100,111,110,101])).setCell ⟨X.o,k,none⟩ (str b)).setCell ⟨X.h,k,none⟩ (.bool true))):=Hd ((((Fr.refl w3.heap.size X.foot w3).setCell (p:=⟨X.s,k,none⟩) (fun _=>Or.inl rfl) _).setCell (p:=⟨X.o,k,none⟩) (fun _=>Or.inr (Or.inl rfl)) _).setCell (p:=⟨X.h,k,none⟩) (fun _=>Or.inr (Or.inr (Or.inl rfl))) _);have HRC6:=Hd (HRC3.out.fr (fun q hq=>(HXB.out q hq).1) HF6.out (fun _ _ h=>h));have HFZ:Hid (Fr w.heap.size (zcl X cb true) w (((w3.setCell ⟨X.s,k,none⟩ (str [100,111,110,101])).setCell ⟨X.o,k,none⟩ (str b)).setCell ⟨X.h,k,none⟩ (.bool true))):=Hd ((HFW3.out.mono (Nat.le_refl _) (fun _ _ h=>Or.inr ⟨rfl,h⟩)).trans (HF6.out.mono HFW3.out.size (fun _ _ h=>Or.inl h)));have d3:(w3.setCell ⟨X.s,k,none⟩ (str [100,111,110,101])).cell? ⟨X.b,3,none⟩=some (slN X.o R.length):=H4.out.box.cell rfl;have d4:((w3.setCell ⟨X.s,k,none⟩ (str [100,111,110,101])).setCell ⟨X.o,k,none⟩ (str b)).cell? ⟨X.b,4,none⟩=some (slN X.h R.length):=H5.out.box.cell rfl;have f2:w3.frozen? ⟨X.s,k,none⟩=false:=HRB3.out.state.frozen k;have f3:(w3.setCell ⟨X.s,k,none⟩ (str [100,111,110,101])).frozen? ⟨X.o,k,none⟩=false:=H4.out.out.frozen k;have f4:((w3.setCell ⟨X.s,k,none⟩ (str [100,111,110,101])).setCell ⟨X.o,k,none⟩ (str b)).frozen? ⟨X.h,k,none⟩=false:=H5.out.hit.frozen k;obtain⟨u0,hu0⟩:∃ u,w3.cell? ⟨X.s,k,none⟩=some u:=⟨_,HRB3.out.state.cell (k:=k) (by rw[List.getElem?_map,List.getElem?_range hk]; rfl)⟩
      obtain⟨u1,hu1⟩:∃ u,(w3.setCell ⟨X.s,k,none⟩ (str [100,111,110,101])).cell? ⟨X.o,k,none⟩=some u:=⟨_,H4.out.out.cell (k:=k) (by rw[List.getElem?_map,List.getElem?_range hk]; rfl)⟩
      obtain⟨u2,hu2⟩:∃ u,((w3.setCell ⟨X.s,k,none⟩ (str [100,111,110,101])).setCell ⟨X.o,k,none⟩ (str b)).cell? ⟨X.h,k,none⟩=some u:=⟨_,H5.out.hit.cell (k:=k) (by rw[List.getElem?_map,List.getElem?_range hk]; rfl)⟩
      clear hl;go_wp2
      go_ret2
      exact RRunPostC.mk (hit:=true) (code:=0) HGO.out H6.out HRC6.out HFZ.out HLV3.out
     | none =>
      have HL:=Hd hl;have HNL:Hid (∀ c0,some c=some c0→zaa (keyL ((R.map Prod.fst).getD k noR).kind ((R.map Prod.fst).getD k noR).word vs) c0.mp=none):=Hd (fun c0 e=>by
       cases e
       rw[HRW.out,HKEY.out,HLK.out,HL.out])
      have HRC3:Hid (RCO X (ptrV cb) cb lv3 B base w3 (some c)):=Hd (HRC2.out.had (fun q hq=>by have:=(HXB.out q hq).2; omega) HF3.out (es':=es) (by have:=HR3.out; unfold zpb at this; rw[HL.out] at this; exact this) HTWN.out HO3.out)
      clear hl;go_wp2_with fail
      refine (KA2.out w3 HU8.out).mono ?_
      rintro e w4 ⟨rfl,hb4⟩;have HB4:=Hd hb4;have HRB4:=Hd (HRB3.out.below hb4);have HRC4:=Hd (HRC3.out.below hb4);have HFW4:Hid (Fr w.heap.size (zcl X cb true) w w4):=Hd ((HFW3.out.mono (Nat.le_refl _) (fun _ _ h=>Or.inr ⟨rfl,h⟩)).trans ((Fr.of_below hb4).mono HFW3.out.size (fun _ _ h=>h)));clear hb4 d1 d2 e2;cases ec with
      | succ ec =>
       have hpos:(0<((ec+1:Nat):Int))=True:=eq_true (by omega)
       have HGO:Hid (∀ st',FailPost (R.map Prod.fst) P st st' k (ec+1)→RunRel (R.map Prod.fst) P (fun p=>zaa p m) (some c) st k false 0 (some c) st'):=Hd (fun st' hf=>HREL.out _ _ _ (.bad HIN2.out HNL.out (by rw[HRW.out]; exact HACT.out) hf))
       have KF4:=Hd (KFAIL2.out _ HRB4.out (HB0.out _ HFW4.out) (ec+1));go_wp2_with fail
       refine KF4.out.mono ?_
       rintro e w9 ⟨rfl,st',hfp,hrb9,hfr9⟩;have HGO9:=Hd (HGO.out st' hfp);have HRB9:=Hd hrb9;have HRC9:=Hd (HRC4.out.fr (fun q hq=>(HXB.out q hq).1) hfr9 (fun _ _ h=>h.elim Or.inl (fun h=>Or.inr (Or.inr (Or.inr h)))));have HFR9:Hid (Fr w.heap.size (zcl X cb true) w w9):=Hd (HFW4.out.trans (hfr9.mono HFW4.out.size (fun _ _ h=>Or.inl (h.elim Or.inl (fun h=>Or.inr (Or.inr (Or.inr h)))))));clear hfp hrb9 hfr9;go_wp2
       go_ret2
       exact RRunPostC.mk (hit:=false) (code:=0) HGO9.out HRB9.out HRC9.out HFR9.out HLV3.out
      | zero =>
       have hpos:(0<((0:Nat):Int))=False:=eq_false (by omega)
       have HGO:Hid (RunRel (R.map Prod.fst) P (fun p=>zaa p m) (some c) st k false 0 (some (cPut c key bt)) (zbb st k ⟨2,false,bt,0⟩)):=Hd (HREL.out _ _ _ (by
        have:=GoRel.run (l:=R.map Prod.fst) (P:=P) (T:=fun p=>zaa p m) (c:=some c) (st:=st) (i:=k) (ins:=vs) (b:=bt) HIN2.out HNL.out (by rw[HRW.out]; exact HACT.out)
        rw[HRW.out,HKEY.out] at this;exact this))
       have h3:=HRB4.out;have H4:Hid (RBAt X R.length (.slice a R.length cq) lv L P (ptrV cb) base (w4.setCell ⟨X.s,k,none⟩ (str [100,111,110,101])) (zbb st k { st k with state:=2 })):=Hd (h3.put_state k (zak 2) (fun j=>zck HKP.out _ j) (fun j=>zba St.out (by rfl) j) (fun j=>zba St.hit (by rfl) j) (fun j=>zba St.why (by rfl) j))
       have H5:Hid (RBAt X R.length (.slice a R.length cq) lv L P (ptrV cb) base ((w4.setCell ⟨X.s,k,none⟩ (str [100,111,110,101])).setCell ⟨X.o,k,none⟩ (str bt)) (zbb st k ⟨2,false,bt,0⟩)):=Hd (H4.out.put_out k bt (fun j=>by rw[zck HKP.out,zck HKP.out]) (fun j=>by unfold zbb; split <;> rfl) (fun j=>by
        unfold zbb
        split
        ·exact HWT.out.1.symm
        ·rfl) (fun j=>by
        unfold zbb
        split
        ·exact HWT.out.2.symm
        ·rfl))
       have HF5:Hid (Fr w4.heap.size X.foot w4 ((w4.setCell ⟨X.s,k,none⟩ (str [100,111,110,101])).setCell ⟨X.o,k,none⟩ (str bt))):=Hd (((Fr.refl w4.heap.size X.foot w4).setCell (p:=⟨X.s,k,none⟩) (fun _=>Or.inl rfl) _).setCell (p:=⟨X.o,k,none⟩) (fun _=>Or.inr (Or.inl rfl)) _);have HRC5:=Hd (HRC4.out.fr (fun q hq=>(HXB.out q hq).1) HF5.out (fun _ _ h=>h));have HFW5:Hid (Fr w.heap.size (zcl X cb true) w ((w4.setCell ⟨X.s,k,none⟩ (str [100,111,110,101])).setCell ⟨X.o,k,none⟩ (str bt))):=Hd (HFW4.out.trans (HF5.out.mono HFW4.out.size (fun _ _ h=>Or.inl h)));obtain⟨-,-,hrc5,-⟩:=HRC5.out;obtain⟨es5,hra5,htw5⟩:=hrc5.at_;have HTW5:=Hd htw5;have KP:=Hd (zl8 cb lv3 c.many es5 key bt _ hra5 (fun k hk=>(hrc5.own k hk).2.1) (by have:=htw5.len; have:=HCS.out.lim; omega) HCS.out.one)
       have e2:w4.cell? ⟨X.b,2,none⟩=some (slN X.s R.length):=h3.box.cell rfl;have d3:(w4.setCell ⟨X.s,k,none⟩ (str [100,111,110,101])).cell? ⟨X.b,3,none⟩=some (slN X.o R.length):=H4.out.box.cell rfl;have d6:((w4.setCell ⟨X.s,k,none⟩ (str [100,111,110,101])).setCell ⟨X.o,k,none⟩ (str bt)).cell? ⟨X.b,6,none⟩=some (ptrV cb):=H5.out.box.cell rfl;have f2:w4.frozen? ⟨X.s,k,none⟩=false:=h3.state.frozen k;have f3:(w4.setCell ⟨X.s,k,none⟩ (str [100,111,110,101])).frozen? ⟨X.o,k,none⟩=false:=H4.out.out.frozen k;obtain⟨u0,hu0⟩:∃ u,w4.cell? ⟨X.s,k,none⟩=some u:=⟨_,h3.state.cell (k:=k) (by rw[List.getElem?_map,List.getElem?_range hk]; rfl)⟩
       obtain⟨u1,hu1⟩:∃ u,(w4.setCell ⟨X.s,k,none⟩ (str [100,111,110,101])).cell? ⟨X.o,k,none⟩=some u:=⟨_,H4.out.out.cell (k:=k) (by rw[List.getElem?_map,List.getElem?_range hk]; rfl)⟩
       have hz5:=HFW5.out.size;clear h3 hra5 htw5 hrc5;go_wp2_with fail
       refine KP.out.mono ?_
       rintro e w6 ⟨rfl,lv6,hR6,hF6,hown6⟩;have HRC6:Hid (RCO X (ptrV cb) cb lv6 B base w6 (some (cPut c key bt))):=Hd (HRC5.out.had (fun q hq=>by have:=(HXB.out q hq).2; omega) hF6 (c':=cPut c key bt) hR6 (HTW5.out.put key bt) (fun k hk=>Or.inr (hown6 k hk)))
       have HRB6:=Hd (H5.out.of_fr hF6 (Nat.le_refl _) (fun q _ hb hs=>by have:=HCBB.out; omega))
       have HFR6:Hid (Fr w.heap.size (zcl X cb true) w w6):=Hd (HFW5.out.trans (hF6.mono HFW5.out.size (fun _ _ h=>Or.inr ⟨rfl,h⟩)));have HN6:=Hd hown6;clear hR6 hF6 hown6;go_wp2
       go_ret2
       exact RRunPostC.mk (hit:=false) (code:=0) HGO.out HRB6.out HRC6.out HFR6.out (fun k hk=>Or.inr (Nat.le_trans HFW5.out.size (HN6.out k hk).1))
structure ROE (X:RBx) (R:List RV) (v lv:Value) (m L:List Ent) (P:List Nat) (cv:Value) (cb:Nat) (lvc:Value) (B base:Nat) (w0:World) (c:Option CS) (st:Nat→St) (w:World):Prop where
 at_:RBAt X R.length v lv L P cv base w st
 cache:RCO X cv cb lvc B base w c
 cok:COk c
 inv:BInv (R.map Prod.fst) P (fun p=>zaa p m) st
 env:∀ wl,Fr w0.heap.size (zcl X cb c.isSome) w0 wl→REnv R v m L wl
 low:Fr w0.heap.size (zcl X cb c.isSome) w0 w
 base:B≤base
section
variable {X : RBx} {R : List RV} {v lv : Value} {m L : List Ent} {P : List Nat} {cv : Value} {cb : Nat} {lvc : Value} {B base : Nat} {w0 w w' : World} {c : Option CS} {st : Nat → St}
theorem ROE.foot_at (h:ROE X R v lv m L P cv cb lvc B base w0 c st w) {q:Nat} (hq:zcl X cb c.isSome q):B≤q∧q<w.heap.size:=by
 have h2:=h.base;rcases hq with hq |⟨h1,rfl⟩
 ·have:=h.at_.foot_base q hq;omega
 ·have h3:=h.cache;cases c with
  | none=>cases h1
  | some c =>
   obtain⟨-,-,h4,-⟩:=h3;exact⟨h4.low,h4.lt⟩
theorem ROE.own_at (h:ROE X R v lv m L P cv cb lvc B base w0 c st w) (hc:c.isSome=true) {k:Nat} (hk:lvc.ownBlock=some k):B≤k∧k<w.heap.size:=by
 have h3:=h.cache;cases c with
 | none=>cases hc
 | some c =>
  obtain⟨-,-,h4,-⟩:=h3;exact⟨(h4.own k hk).1,(h4.own k hk).2.1⟩
theorem ROE.below (h:ROE X R v lv m L P cv cb lvc B base w0 c st w) (hb:Below w.heap.size w w'):ROE X R v lv m L P cv cb lvc B base w0 c st w' :=
 ⟨h.at_.below hb,h.cache.below hb,h.cok,h.inv,h.env,h.low.trans ((Fr.of_below hb).mono h.low.size (fun _ _ h=>h)),h.base⟩
theorem ROE.fr (h:ROE X R v lv m L P cv cb lvc B base w0 c st w) {Q:Nat→Prop} (hf:Fr w.heap.size Q w w') (hQ:∀ q,q<w.heap.size→Q q→w0.heap.size≤q∧q≠X.b∧q≠X.t∧lv.ownBlock≠some q∧¬ zcl X cb c.isSome q∧(c.isSome=true→lvc.ownBlock≠some q)):ROE X R v lv m L P cv cb lvc B base w0 c st w':=by
 have ft:∀ q,X.foot q→¬ Q q:=fun q hq hs=>(hQ q (h.at_.foot_base q hq).2 hs).2.2.2.2.1 (Or.inl hq);refine⟨⟨h.at_.box.fr hf h.at_.box.lt (fun hs=>(hQ _ h.at_.box.lt hs).2.1 rfl),?_,h.at_.state.fr hf h.at_.state.lt (ft _ (Or.inl rfl)),h.at_.out.fr hf h.at_.out.lt (ft _ (Or.inr (Or.inl rfl))),h.at_.hit.fr hf h.at_.hit.lt (ft _ (Or.inr (Or.inr (Or.inl rfl)))),h.at_.why.fr hf h.at_.why.lt (ft _ (Or.inr (Or.inr (Or.inr rfl)))),h.at_.ne,h.at_.base⟩,?_,h.cok,h.inv,h.env,?_,h.base⟩
 ·have htl:=zab h.at_.tree.blk;exact h.at_.tree.of_fr hf (Nat.le_refl _) (fun hs=>(hQ _ htl hs).2.2.1 rfl) (fun k hk hs=>(hQ k (h.at_.tree.row.lt k hk).2 hs).2.2.2.1 hk)
 ·have h3:=h.cache;cases c with
  | none=>exact h3
  | some c =>
   obtain⟨e1,e2,e3,e4⟩:=h3;refine⟨e1,e2,e3.fr hf ⟨e3.lt,fun hs=>(hQ _ e3.lt hs).2.2.2.2.1 (Or.inr ⟨rfl,rfl⟩)⟩ (fun k hk=>⟨(e3.own k hk).2.1,fun hs=>(hQ k (e3.own k hk).2.1 hs).2.2.2.2.2 rfl hk⟩),e4⟩
 ·exact h.low.trans (hf.mono h.low.size (fun q hq hs=>by have:=(hQ q (by have:=h.low.size; omega) hs).1; omega))
theorem ROE.base_fr (h:ROE X R v lv m L P cv cb lvc B base w0 c st w) (hf:Fr w.heap.size (zcl X cb c.isSome) w w'):Fr w0.heap.size (zcl X cb c.isSome) w0 w' :=
 h.low.trans (hf.mono h.low.size (fun _ _ h=>h))
theorem zua {o:List Nat} (h:ROE X R v lv m L P cv cb lvc B base w0 c st w) (hP:Ord (R.map Prod.fst) P o) (i:Int) :
  Calls Tryz.prog 37 #[ptrV X.b, .int .i64 i] w fun e w'=>∃ (hit:Bool) (code:Nat) (c':Option CS) (st':Nat→St) (lvc':Value),e=.returned (.tuple #[.bool hit, .int .i64 ((code:Nat):Int)])∧RunRel (R.map Prod.fst) P (fun p=>zaa p m) c st i hit code c' st'∧ROE X R v lv m L P cv cb lvc' B base w0 c' st' w'∧Fr w.heap.size (zcl X cb c.isSome) w w' ∧
   (∀ k,lvc'.ownBlock=some k→lvc.ownBlock=some k∨w.heap.size≤k)∧c'.isSome=c.isSome:=by
 refine (zxm X R v lv m L P cv cb lvc B base w w0 c st h.at_ h.cache h.cok hP.ok h.inv h.env h.low h.base i).mono ?_
 rintro e w' ⟨hr,ha,hc,hf,hl⟩;have hi:=hr.steps.inv hP h.inv h.cok;exact⟨_,_,_,_,_,rfl,hr,⟨ha,hc,hi.2.1,hi.1,by rw[hr.some_]; exact h.env,by rw[hr.some_]; exact h.base_fr hf,h.base⟩,hf,hl,hr.some_⟩
theorem zq2 {o:List Nat} (h:ROE X R v lv m L P cv cb lvc B base w0 c st w) (hP:Ord (R.map Prod.fst) P o) :
  Calls Tryz.prog 107 #[ptrV X.b] w fun e w'=>∃ u,e=.returned u∧w'.ownsRow w.heap.size 3 1 u (zdc (R.map Prod.fst) P st).length ((za0 (zdc (R.map Prod.fst) P st)).map (Value.int .i64))∧Below w.heap.size w w':=by
 have hV:=h.env w h.low;exact ztz X R v lv L P cv base w st h.at_ ⟨hP.ok.lt,hP.ok.shut,h.inv.one⟩ hV.rules hV.ins hV.many hP.ok
theorem ROE.apart {N:Nat} {ov:Value} {n:Nat} {xs:List Value} (_h:ROE X R v lv m L P cv cb lvc B base w0 c st w) (ho:w.ownsRow N 3 1 ov n xs) (hN:w0.heap.size≤N) (hX:∀ q,(zcl X cb c.isSome q∨q=X.b∨q=X.t∨lv.ownBlock=some q)→q<N) (hl:c.isSome=true→∀ k,ov.ownBlock=some k→lvc.ownBlock≠some k) (q:Nat) (hq:ov.ownBlock=some q) :
  w0.heap.size≤q∧q≠X.b∧q≠X.t∧lv.ownBlock≠some q∧¬ zcl X cb c.isSome q∧(c.isSome=true→lvc.ownBlock≠some q):=by
 have h1:=(ho.lt q hq).1;refine⟨by omega,fun e=>?_,fun e=>?_,fun e=>?_,fun e=>?_,fun e=>hl e q hq⟩
 ·have:=hX q (Or.inr (Or.inl e)); omega
 ·have:=hX q (Or.inr (Or.inr (Or.inl e))); omega
 ·have:=hX q (Or.inr (Or.inr (Or.inr e))); omega
 ·have:=hX q (Or.inl e); omega
theorem ROE.parts (h:ROE X R v lv m L P cv cb lvc B base w0 c st w):∀ q,(zcl X cb c.isSome q∨q=X.b∨q=X.t∨lv.ownBlock=some q)→q<w.heap.size:=by
 rintro q (hq | rfl | rfl | hq)
 ·exact (h.foot_at hq).2
 ·exact h.at_.box.lt
 ·exact zab h.at_.tree.blk
 ·exact (h.at_.tree.row.lt q hq).2
end
set_option maxHeartbeats 4000000 in
theorem zxn {X:RBx} {R:List RV} {v lv:Value} {m L:List Ent} {P:List Nat} {cv:Value} {cb:Nat} {lvc:Value} {B base:Nat} {w0 w:World} {c:Option CS} {st:Nat→St} {o:List Nat} (h:ROE X R v lv m L P cv cb lvc B base w0 c st w) (hP:Ord (R.map Prod.fst) P o) :
  Calls Tryz.prog 40 #[ptrV X.b] w fun e w'=>∃ (u:Value) (js:List Nat) (c':Option CS) (st':Nat→St) (lvc':Value),e=.returned u∧AllRel (R.map Prod.fst) P (fun p=>zaa p m) c st js c' st'∧w'.ownsRow w.heap.size 3 1 u js.length ((za0 js).map (Value.int .i64)) ∧
   ROE X R v lv m L P cv cb lvc' B base w0 c' st' w'∧Fr w.heap.size (zcl X cb c.isSome) w w'∧(∀ k,lvc'.ownBlock=some k→lvc.ownBlock=some k∨w.heap.size≤k)∧c'.isSome=c.isSome:=by
 have HO:=Hd hP;have HPM:=Hd hP.ok.many;have H:=Hd h;have HPT:=Hd h.parts;have HFT:Hid (∀ q,zcl X cb c.isSome q→q<w.heap.size):=Hd (fun q hq=>(h.foot_at hq).2);have HLW:=Hd h.low.size;clear h hP;generalize hl:R.map Prod.fst=l at *;subst hl;go_enter Tryz.func40,Tryz.ntmps40
 go_wp2_with fail
 go_loopw [3] (fun ov wl=>∃ (js:List Nat) (c2:Option CS) (st2:Nat→St) (lv2:Value),ROE X R v lv m L P cv cb lv2 B base w0 c2 st2 wl∧c2.isSome=c.isSome∧(∀ k,lv2.ownBlock=some k→lvc.ownBlock=some k∨w.heap.size≤k)∧(c.isSome=true→∀ k,ov.ownBlock=some k→lv2.ownBlock≠some k)∧Fr w.heap.size (zcl X cb c.isSome) w wl∧wl.ownsRow w.heap.size 3 1 ov js.length ((za0 js).map (Value.int .i64))∧js.length+(zdg P st2).length≤40 ∧
  ∀ js' c' st',AllRel (R.map Prod.fst) P (fun p=>zaa p m) c2 st2 js' c' st'→AllRel (R.map Prod.fst) P (fun p=>zaa p m) c st (js++js') c' st') (fun ov _=>41 - lenR ov)
 case atStart=>exact⟨[],c,st,lvc,H.out,rfl,fun _ h=>Or.inl h,fun _ k h=>(by cases h),Fr.refl _ _ _,World.ownsRow_nil _ _ _ _,by have:=zx5 (P:=P) st; have:=HPM.out; simp; omega,fun js' c' st' h=>h⟩
 case round =>
  obtain⟨js,c2,st2,lv2,hro,hsm,hl2,hap,hfr,hown,hjs,hall⟩:=hrel;have HSM:=Hd hsm;have HL2:=Hd hl2;have HAP:=Hd hap;have HRO:=Hd hro;have HFR:=Hd hfr;have HOW:=Hd hown;have HALL:=Hd hall;have HJS:=Hd hjs;have KR:=Hd (zq2 hro HO.out);have hzw:=hfr.size;have HLN:=Hd (zr2 hown);clear hro hfr hown hall hsm hl2 hap;go_wp2_with fail
  refine KR.out.mono ?_
  rintro e w2 ⟨u2,rfl,hrd2,hb2⟩;have HRO2:=Hd (HRO.out.below hb2);have HFR2:=Hd (HFR.out.trans ((Fr.of_below hb2).mono hzw (fun _ _ h=>h)));have HOW2:=Hd (zb7 HOW.out hb2);have HRD:=Hd (zaj hrd2 hzw);have hrd:=zbp hrd2;have hz2:=hb2.size;clear hrd2 hb2 KR;obtain⟨au,cu,hu,hrl,-⟩:=id hrd;rw[List.length_map] at hu hrl;subst hu;cases hr:zdc (R.map Prod.fst) P st2 with
  | nil =>
   have HR0:=Hd hr;clear hrd hr hrl;go_wp2
   go_ret
   exact⟨_,js,c2,st2,lv2,rfl,by have:=HALL.out [] c2 st2 (.stop HR0.out); rwa [List.append_nil] at this,HOW2.out,HRO2.out,HFR2.out,HL2.out,HSM.out⟩
  | cons k r =>
   rw[hr] at hrl hrd HRD;have HR0:=Hd hr;have HKR:=Hd (zht hr);have KRU:=Hd (zua HRO2.out HO.out (k:Int));have HNI:Hid (∀ w3,Fr w2.heap.size (zcl X cb c.isSome) w2 w3→∃ b o,(∀ w',(Instr.indexAt 53 (.slice au (r.length+1) cu) (.int .i64 0)).run Tryz.prog w'=.ok (.pointer (some ⟨b,o,none⟩)) w')∧w3.cell? ⟨b,o,none⟩=some (intE k)):=Hd (fun w3 hf=>by
    have h1:=zbp (zaf HRD.out hf (fun q hq=>⟨(HRD.out.lt q hq).2,fun hs=>by have:=HFT.out q hs; have:=(HRD.out.lt q hq).1; omega⟩))
    obtain⟨b,o,h2,h3⟩:=h1.at (P:=Tryz.prog) Tryz.underlying53 (by kernel_rfl) 0 (by simp)
    simp only[List.map_cons,List.getElem_cons_zero,List.length_cons] at h2 h3;exact⟨b,o,h2,h3⟩)
   obtain⟨b,of,hix,hce⟩:=HNI.out w2 (Fr.refl _ _ _);have hn1:((((r.length+1:Nat)):Int)==0)=false:=by
    rw[beq_eq_false_iff_ne]; omega
   have hn2:((((r.length+1:Nat)):Int)=0)=False:=eq_false (by omega)
   have hn3:(((r.length:Int)+1)=0)=False:=eq_false (by omega)
   have hn4:(((r.length:Int)+1)==0)=false:=by
    rw[beq_eq_false_iff_ne]; omega
   clear hrd hr hrl;simp only[List.length_cons];go_wp2_with fail
   refine KRU.out.mono ?_
   rintro e w3 ⟨hit,code,c3,st3,lv3,rfl,hrel,hro3,hfr3,hl3,hsm3⟩;rw[HSM.out] at hfr3 hsm3;have HSM3:=Hd hsm3;have HL3:Hid (∀ k,lv3.ownBlock=some k→lvc.ownBlock=some k∨w.heap.size≤k):=Hd (fun k hk=>(hl3 k hk).elim (HL2.out k) (fun h=>Or.inr (Nat.le_trans HFR2.out.size h)));have HAP3:Hid (c.isSome=true→∀ k,u3.ownBlock=some k→lv3.ownBlock≠some k):=Hd (fun hc k hk hk3=>(hl3 k hk3).elim (HAP.out hc k hk) (fun h=>by have:=(HOW2.out.lt k hk).2; omega))
   have hgo:=zuv hrel HKR.out;have HGO:=Hd hgo;have HRO3:=Hd hro3;have HFR3:=Hd (HFR2.out.trans (hfr3.mono HFR2.out.size (fun _ _ h=>h)));have HOW3:=Hd (zaf HOW2.out hfr3 (fun q hq=>⟨(HOW2.out.lt q hq).2,fun hs=>by have:=HFT.out q hs; have:=(HOW2.out.lt q hq).1; omega⟩))
   obtain⟨b3,o3,hix3,hce3⟩:=HNI.out _ hfr3;have hz3:=hfr3.size;have hless:(zdg P st3).length<(zdg P st2).length:=by
    have hl:=hgo.less;exact zja HKR.out.1 HKR.out.2.1 hl.1 hl.2
   have HLESS:=Hd hless;clear hrel hro3 hfr3 hgo KRU hless hce hix hl3 hsm3;go_wp2_with (first
    |(at_builtin
      refine zah _ rfl _ _ 53 rfl tyInts w.heap.size _ _ _ rfl (HOW3.out.alloc _) ⟨w3.heap.size,0,none⟩ 1 1 [intE k] rfl rfl (zap ?_) ?_ (by decide) ?_ ?_ ?_
      ·rw[cell_of_heap (heap_alloc_here w3 _)]; rfl
      ·intro u hu; simp at hu; subst hu; rfl
      ·omega
      ·simp; omega
      intro v6 w6 ho6 hg6 hloc6;have HO6:Hid (w6.ownsRow w.heap.size 3 1 v6 (js++[k]).length ((za0 (js++[k])).map (Value.int .i64))):=Hd (by simpa[za0,Nat.add_assoc] using ho6)
      have HB6:Hid (Below w.heap.size w3 w6):=Hd ((((Below.refl w3.heap.size w3).alloc (Nat.le_refl _) _).mono (by omega)).grown hg6 (by simp; omega) (fun q hq=>(HOW3.out.lt q hq).1))
      have HG6:=Hd hg6;have HLOC6:=Hd hloc6;clear ho6 hg6 hloc6))
   have HT6:Hid (Fr w.heap.size (zcl X cb c.isSome) w w6):=Hd (HFR3.out.trans (Fr.of_below HB6.out));have HRO6:Hid (ROE X R v lv m L P cv cb lv3 B base w0 c3 st3 w6):=Hd ((HRO3.out.below ((Below.refl _ _).alloc (Nat.le_refl _) _)).fr (Fr.of_grown HG6.out) (fun q _ hq=>HRO3.out.apart HOW3.out HLW.out (by rw[HSM3.out]; exact HPT.out) (fun hc=>HAP3.out (by rw[← HSM3.out]; exact hc)) q hq))
   have HAP6:Hid (c.isSome=true→∀ k,v6.ownBlock=some k→lv3.ownBlock≠some k):=Hd (fun hc k hk hk3=>HLOC6.out.elim (fun e=>HAP3.out hc k (e▸hk) hk3) (fun e=>by
    have h1:=(HRO3.out.own_at (by rw[HSM3.out]; exact hc) hk3).2
    rw[e] at hk;simp at hk;omega))
   go_wp2
   go_roundw
   case rel=>exact⟨js++[k],c3,st3,lv3,HRO6.out,HSM3.out,HL3.out,HAP6.out,HT6.out,HO6.out,by have h1:=HJS.out; have h2:=HLESS.out; rw[List.length_append,List.length_singleton]; omega,fun js' c' st' h=>by
    rw[List.append_assoc];exact HALL.out _ _ _ (.more HR0.out HGO.out h)⟩
   case measure =>
    have h1:=HLN.out;have h2:=zr2 HO6.out;have h3:=HJS.out;have h4:=HLESS.out;rw[List.length_append,List.length_singleton] at h2;rw[h1,h2];omega
end Go.Proofs.YtgjialbmlhbngaaGreatDoor
