/-
  A drawn region of which five operations make memory: in whatever order they come. The reference's build: what it holds; NewBuild. The reference's build: IsReady, Ready. The reference's build: fail. The reference's build: fail, the walk.
-/
import Derived.Test.YtgjialbmlhbngaaGreatDoorBdM
import Derived.Deep.RegionLaw
import Derived.Test.YtgjialbmlhbngaaGreatDoorPkT
import Derived.Test.YtgjialbmlhbngaaGreatDoorPkI
import Derived.Test.YtgjialbmlhbngaaGreatDoorBdB
import Derived.Test.YtgjialbmlhbngaaGreatDoorBdC

set_option maxRecDepth 100000
namespace Go.Proofs.YtgjialbmlhbngaaGreatDoor
open Go Go.RowKit Go.Kf Go.Sort Go.Proofs
theorem zf5 {P:Program} {ops:Array Oper} {o:Oper} {a:Act} {w w':World} {K:Act→World→Prop} {Q:Exit→Act→World→Prop} {E:Prop}
  (hg:o.guard=none) (T:TypeId) (x y:Operand) (hop:o.op=.makeSlice T x y) (n v:Value) (hx:a.eval x=n) (hy:a.eval y=n)
  (hrun:(Instr.makeSlice T n n).run P w=.ok v w') (h:K (a.put o.dst v) w'):if Region.wanted o (yielded ops a.tmps)=true then Oper.wp P o a w K Q else E:=by
 have hw:Region.wanted o (yielded ops a.tmps)=true:=by simp[Region.wanted,hg]
 rw[if_pos hw];unfold Oper.wp;simp[execOp,hop,hx,hy,hrun,Result.andThen];exact h
theorem ztx {P:Program} {ops:Array Oper} {o:Oper} {a:Act} {w:World} {K:Act→World→Prop} {Q:Exit→Act→World→Prop} {E:Prop}
  (hg:o.guard=none) (f:FuncId) (x:Operand) (T:Array TypeId) (hop:o.op=Op.call { callee:=Callee.value (Operand.func f),args:=#[x],argTypes:=T }) (n:Value) (hx:a.eval x=n) (hen:(callFunc f #[n]).run P w=.ok (.enter f #[n]) w)
  (hc:Calls P f #[n] w fun e w'=>∃ v,e=.returned v∧K (a.put o.dst v) w'):if Region.wanted o (yielded ops a.tmps)=true then Oper.wp P o a w K Q else E:=by
 have hw:Region.wanted o (yielded ops a.tmps)=true:=by simp[Region.wanted,hg]
 rw[if_pos hw];unfold Oper.wp;have he:(execOp a.eval o).run P w=.ok (.enter f #[n]) w:=by
  have hf:a.eval (Operand.func f)=.func (.func f) #[] #[]:=rfl;simp[execOp,hop,hx,hf,resolve,Deferred.ofValue,invoke,hen]
 rw[he,Oper.upon_enter];refine hc.mono ?_
 rintro e w' ⟨v,rfl,h⟩;exact h
theorem makers5 {P:Program} {md:Region.Mode} {ops:Array Oper} {Q:Exit→Act→World→Prop} {f:Nat} (L:Bool→Bool→Bool→Bool→Bool→Array Bool) (F:Value→Value→Value→Value→Value→Act) (i1 i2 i3 i4 i5:Nat)
  (hr:∀ b1 b2 b3 b4 b5,(b1&&b2&&b3&&b4&&b5)=false→Region.ready md ops (L b1 b2 b3 b4 b5)=(if b1 then [] else [i1])++(if b2 then [] else [i2])++(if b3 then [] else [i3])++(if b4 then [] else [i4])++(if b5 then [] else [i5]))
  (l1:∀ b1 b2 b3 b4 b5,(L b1 b2 b3 b4 b5).setIfInBounds i1 true=L true b2 b3 b4 b5) (l2:∀ b1 b2 b3 b4 b5,(L b1 b2 b3 b4 b5).setIfInBounds i2 true=L b1 true b3 b4 b5) (l3:∀ b1 b2 b3 b4 b5,(L b1 b2 b3 b4 b5).setIfInBounds i3 true=L b1 b2 true b4 b5)
  (l4:∀ b1 b2 b3 b4 b5,(L b1 b2 b3 b4 b5).setIfInBounds i4 true=L b1 b2 b3 true b5) (l5:∀ b1 b2 b3 b4 b5,(L b1 b2 b3 b4 b5).setIfInBounds i5 true=L b1 b2 b3 b4 true)
  (G:Option Value→Option Value→Option Value→Option Value→Option Value→World→Prop)
  (s1:∀ o2 o3 o4 o5 w K,G none o2 o3 o4 o5 w→(∀ v w',G (some v) o2 o3 o4 o5 w'→K (F v (o2.getD undef) (o3.getD undef) (o4.getD undef) (o5.getD undef)) w')→wpOp P ops Q i1 K (F undef (o2.getD undef) (o3.getD undef) (o4.getD undef) (o5.getD undef)) w)
  (s2:∀ o1 o3 o4 o5 w K,G o1 none o3 o4 o5 w→(∀ v w',G o1 (some v) o3 o4 o5 w'→K (F (o1.getD undef) v (o3.getD undef) (o4.getD undef) (o5.getD undef)) w')→wpOp P ops Q i2 K (F (o1.getD undef) undef (o3.getD undef) (o4.getD undef) (o5.getD undef)) w)
  (s3:∀ o1 o2 o4 o5 w K,G o1 o2 none o4 o5 w→(∀ v w',G o1 o2 (some v) o4 o5 w'→K (F (o1.getD undef) (o2.getD undef) v (o4.getD undef) (o5.getD undef)) w')→wpOp P ops Q i3 K (F (o1.getD undef) (o2.getD undef) undef (o4.getD undef) (o5.getD undef)) w)
  (s4:∀ o1 o2 o3 o5 w K,G o1 o2 o3 none o5 w→(∀ v w',G o1 o2 o3 (some v) o5 w'→K (F (o1.getD undef) (o2.getD undef) (o3.getD undef) v (o5.getD undef)) w')→wpOp P ops Q i4 K (F (o1.getD undef) (o2.getD undef) (o3.getD undef) undef (o5.getD undef)) w)
  (s5:∀ o1 o2 o3 o4 w K,G o1 o2 o3 o4 none w→(∀ v w',G o1 o2 o3 o4 (some v) w'→K (F (o1.getD undef) (o2.getD undef) (o3.getD undef) (o4.getD undef) v) w')→wpOp P ops Q i5 K (F (o1.getD undef) (o2.getD undef) (o3.getD undef) (o4.getD undef) undef) w)
  (fin:∀ v1 v2 v3 v4 v5 w,G (some v1) (some v2) (some v3) (some v4) (some v5) w→wpAny P md ops Q f (L true true true true true) (F v1 v2 v3 v4 v5) w) :
  ∀ (m:Nat) (o1 o2 o3 o4 o5:Option Value) (w:World),(if o1.isSome then 0 else 1)+(if o2.isSome then 0 else 1)+(if o3.isSome then 0 else 1)+(if o4.isSome then 0 else 1)+(if o5.isSome then 0 else 1)=m→G o1 o2 o3 o4 o5 w →
   wpAny P md ops Q (f+m) (L o1.isSome o2.isSome o3.isSome o4.isSome o5.isSome) (F (o1.getD undef) (o2.getD undef) (o3.getD undef) (o4.getD undef) (o5.getD undef)) w:=by
 intro m
 induction m with
 | zero =>
  intro o1 o2 o3 o4 o5 w hm hG;cases o1 <;> cases o2 <;> cases o3 <;> cases o4 <;> cases o5 <;> simp at hm
  exact fin _ _ _ _ _ _ hG
 | succ m ih =>
  intro o1 o2 o3 o4 o5 w hm hG;have hb:(o1.isSome&&o2.isSome&&o3.isSome&&o4.isSome&&o5.isSome)=false:=by
   cases o1 <;> cases o2 <;> cases o3 <;> cases o4 <;> cases o5 <;> simp at hm ⊢
  have hall:=hr _ _ _ _ _ hb;rw[← Nat.add_assoc];refine wpAny_all hall (by
   cases o1 <;> cases o2 <;> cases o3 <;> cases o4 <;> cases o5 <;> simp at hm ⊢) ?_
  intro i hi;simp only[List.mem_append] at hi;rcases hi with (((hi | hi) | hi) | hi) | hi
  ·cases o1 with
   | some v=>simp at hi
   | none =>
    obtain rfl:i=i1:=by simpa using hi
    refine s1 o2 o3 o4 o5 w _ hG (fun v w' h=>?_)
    rw[l1];refine ih (some v) o2 o3 o4 o5 w' ?_ h
    simp only[Option.isSome_some,Option.isSome_none,if_true,Bool.false_eq_true,if_false] at hm ⊢;omega
  ·cases o2 with
   | some v=>simp at hi
   | none =>
    obtain rfl:i=i2:=by simpa using hi
    refine s2 o1 o3 o4 o5 w _ hG (fun v w' h=>?_)
    rw[l2];refine ih o1 (some v) o3 o4 o5 w' ?_ h
    simp only[Option.isSome_some,Option.isSome_none,if_true,Bool.false_eq_true,if_false] at hm ⊢;omega
  ·cases o3 with
   | some v=>simp at hi
   | none =>
    obtain rfl:i=i3:=by simpa using hi
    refine s3 o1 o2 o4 o5 w _ hG (fun v w' h=>?_)
    rw[l3];refine ih o1 o2 (some v) o4 o5 w' ?_ h
    simp only[Option.isSome_some,Option.isSome_none,if_true,Bool.false_eq_true,if_false] at hm ⊢;omega
  ·cases o4 with
   | some v=>simp at hi
   | none =>
    obtain rfl:i=i4:=by simpa using hi
    refine s4 o1 o2 o3 o5 w _ hG (fun v w' h=>?_)
    rw[l4];refine ih o1 o2 o3 (some v) o5 w' ?_ h
    simp only[Option.isSome_some,Option.isSome_none,if_true,Bool.false_eq_true,if_false] at hm ⊢;omega
  ·cases o5 with
   | some v=>simp at hi
   | none =>
    obtain rfl:i=i5:=by simpa using hi
    refine s5 o1 o2 o3 o4 w _ hG (fun v w' h=>?_)
    rw[l5];refine ih o1 o2 o3 o4 (some v) w' ?_ h
    simp only[Option.isSome_some,Option.isSome_none,if_true,Bool.false_eq_true,if_false] at hm ⊢;omega
theorem zo3:(Tryz.prog.info? 9).map (fun i=>(i.zero,i.size,i.bytes))=some (some (str []),1,16):=by kernel_rfl
theorem zxb:(Tryz.prog.info? 3).map (fun i=>(i.zero,i.size,i.bytes))=some (some (.int .i64 0),1,8):=by kernel_rfl
theorem zi8 {t e:TypeId} {z:Value} {by_:Nat} (ht:Tryz.prog.underlying t=some (.slice e)) (hinf:(Tryz.prog.info? e).map (fun i=>(i.zero,i.size,i.bytes))=some (some z,1,by_)) (hb:by_≤100) (hz:z.cells=#[z]) (n:Nat) (hn:n≤1000000) (w:World) :
  (Instr.makeSlice t (.int .i64 (n:Int)) (.int .i64 (n:Int))).run Tryz.prog w=.ok (.slice (some ⟨w.heap.size,0,none⟩) n n) (w.alloc (.cells (List.replicate n z).toArray e)):=by
 obtain⟨i0,hi,hz0,hz1,hz2⟩:=info_parts hinf;have h:=run_make (P:=Tryz.prog) w t e i0 z ht hi hz0 .i64 .i64 (n:Int) (n:Int) (by omega) (by omega) (by
  have:(i0.bytes:Int)*(n:Int)≤100*1000000:=Int.mul_le_mul (by omega) (by omega) (by omega) (by omega)
  omega) (by omega)
 rw[h,hz1];have e1:((n:Int)).toNat=n:=by omega
 rw[e1,Nat.mul_one,hz];have e3:madeCells #[z] n=(List.replicate n z).toArray:=by
  apply Array.ext
  ·simp[size_madeCells]
  ·intro i h1 h2;simp[madeCells,Nat.mod_one]
 rw[e3]
structure RBx where
 b:Nat
 t:Nat
 s:Nat
 o:Nat
 h:Nat
 y:Nat
def rSt (P:List Nat) (st:Nat→St) (k:Nat):List UInt8:=if P.contains k then zak (st k).state else []
abbrev slN (g n:Nat):Value:=.slice (some ⟨g,0,none⟩) n n
structure RBAt (X:RBx) (n:Nat) (v lv:Value) (L:List Ent) (P:List Nat) (cv:Value) (base:Nat) (w:World) (st:Nat→St):Prop where
 box:VRow 164 w X.b [ptrV X.t,v,slN X.s n,slN X.o n,slN X.h n,slN X.y n,cv]
 tree:RTAt base w X.t lv L
 state:VRow 9 w X.s ((List.range n).map fun k=>str (rSt P st k))
 out:VRow 9 w X.o ((List.range n).map fun k=>str (st k).out)
 hit:VRow 4 w X.h ((List.range n).map fun k=>.bool (st k).hit)
 why:VRow 3 w X.y ((List.range n).map fun k=>intE (st k).why)
 ne:X.s≠X.o
 base:base≤X.b∧base≤X.t∧base≤X.s∧base≤X.o∧base≤X.h∧base≤X.y
theorem VRow.ne_of {t t':TypeId} {w:World} {g g':Nat} {vs vs':List Value} (h:VRow t w g vs) (h':VRow t' w g' vs') (ht:t≠t'):g≠g':=by
 rintro rfl;have:=h.symm.trans h';simp at this;exact ht this.2
theorem RTAt.far {t:TypeId} {base:Nat} {w:World} {rb g:Nat} {lv:Value} {L:List Ent} {vs:List Value} (h:RTAt base w rb lv L) (hv:VRow t w g vs) (h1:t≠142) (h2:t≠39):g≠rb∧∀ k,lv.ownBlock=some k→g≠k:=by
 refine⟨fun e=>?_,fun k hk e=>?_⟩
 ·subst e;have:=hv.symm.trans h.blk;simp at this;exact h1 this.2
 ·subst e;rcases h.row.2 with ⟨rfl,h0⟩ |⟨g',cap,cur,rfl,hg,hh,hnc,hcap,hsz,htake⟩
  ·cases hk
  ·obtain rfl:g'=g:=by simpa[Value.ownBlock] using hk
   have:=hv.symm.trans hh;simp at this;exact h2 this.2
theorem RTAt.baseM {b b':Nat} {w:World} {rb:Nat} {lv:Value} {L:List Ent} (h:RTAt b w rb lv L) (hb:b'≤b):RTAt b' w rb lv L:=⟨h.blk,zaj h.row hb,h.ne⟩
theorem zxc (n:Nat) (f:Nat→Value) (i:Nat) (v:Value):((List.range n).map f).set i v=(List.range n).map fun k=>if k=i then v else f k:=by
 apply List.ext_getElem
 ·simp
 ·intro j h1 h2;simp only[List.getElem_set,List.getElem_map,List.getElem_range];by_cases h:i=j
  ·subst h; simp
  ·rw[if_neg h,if_neg (fun e=>h e.symm)]
theorem zna {n:Nat} {z:Value} {f:Nat→Value} (h:∀ k,f k=z):List.replicate n z=(List.range n).map f:=by
 apply List.ext_getElem
 ·simp
 ·intro i h1 h2;simp[h]
theorem RBAt.turn {X:RBx} {n:Nat} {v lv:Value} {L:List Ent} {P P':List Nat} {cv:Value} {base:Nat} {w w':World} {st st':Nat→St} (h:RBAt X n v lv L P cv base w st) {B:Nat} {S:Nat→Prop} (hf:Fr B S w w') (hB:w.heap.size≤B)
  (hS:∀ q,q<w.heap.size→S q→q=X.s∨q=X.o∨q=X.h∨q=X.y) (hs:VRow 9 w' X.s ((List.range n).map fun k=>str (rSt P' st' k))) (ho:VRow 9 w' X.o ((List.range n).map fun k=>str (st' k).out))
  (hh:VRow 4 w' X.h ((List.range n).map fun k=>.bool (st' k).hit)) (hy:VRow 3 w' X.y ((List.range n).map fun k=>intE (st' k).why)):RBAt X n v lv L P' cv base w' st':=by
 have far:∀ q,q<w.heap.size→(q≠X.s∧q≠X.o∧q≠X.h∧q≠X.y)→¬ S q:=fun q hq h1 h2=>by
  rcases hS q hq h2 with e | e | e | e
  ·exact h1.1 e
  ·exact h1.2.1 e
  ·exact h1.2.2.1 e
  ·exact h1.2.2.2 e
 have f1:=h.tree.far h.state (by decide) (by decide)
 have f2:=h.tree.far h.out (by decide) (by decide)
 have f3:=h.tree.far h.hit (by decide) (by decide)
 have f4:=h.tree.far h.why (by decide) (by decide)
 have hbl:=h.box.lt;have htl:=zab h.tree.blk;refine⟨h.box.fr hf (by omega) (far _ hbl ⟨h.box.ne_of h.state (by decide),h.box.ne_of h.out (by decide),h.box.ne_of h.hit (by decide),h.box.ne_of h.why (by decide)⟩),?_,hs,ho,hh,hy,h.ne,h.base⟩
 have hof:∀ k,lv.ownBlock=some k→¬ S k:=fun k hk=>far k (h.tree.row.lt k hk).2 ⟨fun e=>f1.2 k hk e.symm,fun e=>f2.2 k hk e.symm,fun e=>f3.2 k hk e.symm,fun e=>f4.2 k hk e.symm⟩;exact h.tree.of_fr hf hB (far _ htl ⟨f1.1.symm,f2.1.symm,f3.1.symm,f4.1.symm⟩) hof
theorem RBAt.of_fr {X:RBx} {n:Nat} {v lv:Value} {L:List Ent} {P:List Nat} {cv:Value} {base:Nat} {w w':World} {st:Nat→St} (h:RBAt X n v lv L P cv base w st) {B:Nat} {S:Nat→Prop} (hf:Fr B S w w') (hB:w.heap.size≤B)
  (hS:∀ q,q<w.heap.size→base≤q→¬ S q):RBAt X n v lv L P cv base w' st:=by
 obtain⟨b1,b2,b3,b4,b5,b6⟩:=h.base;have hs:=h.state.lt;have ho:=h.out.lt;have hh:=h.hit.lt;have hy:=h.why.lt;have hbl:=h.box.lt;have htl:=zab h.tree.blk;refine⟨h.box.fr hf (by omega) (hS _ hbl b1),h.tree.of_fr hf hB (hS _ htl b2) (fun k hk=>hS k (h.tree.row.lt k hk).2 (h.tree.row.lt k hk).1),h.state.fr hf (by omega) (hS _ hs b3),h.out.fr hf (by omega) (hS _ ho b4),h.hit.fr hf (by omega) (hS _ hh b5),h.why.fr hf (by omega) (hS _ hy b6),h.ne,h.base⟩
theorem RBAt.below {X:RBx} {n:Nat} {v lv:Value} {L:List Ent} {P:List Nat} {cv:Value} {base:Nat} {w w':World} {st:Nat→St} (h:RBAt X n v lv L P cv base w st) (hb:Below w.heap.size w w'):RBAt X n v lv L P cv base w' st :=
 h.of_fr (S:=fun _=>False) (Fr.of_below hb) (Nat.le_refl _) (fun _ _ _=>id)
structure NbG (w0:World) (n:Nat) (L:List Ent) (o1 o2 o3 o4 o5:Option Value) (w:World):Prop where
 low:Below w0.heap.size w0 w
 t:∀ v,o1=some v→∃ b lv base,v=ptrV b∧RTAt base w b lv L∧w0.heap.size≤base∧base≤b
 s:∀ v,o2=some v→∃ g,v=slN g n∧VRow 9 w g (List.replicate n (str []))∧w0.heap.size≤g
 o:∀ v,o3=some v→∃ g,v=slN g n∧VRow 9 w g (List.replicate n (str []))∧w0.heap.size≤g
 h:∀ v,o4=some v→∃ g,v=slN g n∧VRow 4 w g (List.replicate n (.bool false))∧w0.heap.size≤g
 y:∀ v,o5=some v→∃ g,v=slN g n∧VRow 3 w g (List.replicate n (.int .i64 0))∧w0.heap.size≤g
 ne:∀ g k,o2=some (slN g n)→o3=some (slN k n)→g≠k
theorem VRow.below {t:TypeId} {w w':World} {g:Nat} {vs:List Value} (h:VRow t w g vs) (hb:Below w.heap.size w w'):VRow t w' g vs:=(hb.block g h.lt).trans h
theorem NbG.below {w0:World} {n:Nat} {L:List Ent} {o1 o2 o3 o4 o5:Option Value} {w w':World} (h:NbG w0 n L o1 o2 o3 o4 o5 w) (hb:Below w.heap.size w w'):NbG w0 n L o1 o2 o3 o4 o5 w' :=
 ⟨h.low.trans (hb.mono h.low.size),fun v e=>let ⟨b,lv,base,h1,h2,h3⟩:=h.t v e; ⟨b,lv,base,h1,h2.below hb,h3⟩,
  fun v e=>let ⟨g,h1,h2,h3⟩:=h.s v e; ⟨g,h1,h2.below hb,h3⟩,fun v e=>let ⟨g,h1,h2,h3⟩:=h.o v e; ⟨g,h1,h2.below hb,h3⟩,
  fun v e=>let ⟨g,h1,h2,h3⟩:=h.h v e; ⟨g,h1,h2.below hb,h3⟩,fun v e=>let ⟨g,h1,h2,h3⟩:=h.y v e; ⟨g,h1,h2.below hb,h3⟩,h.ne⟩
set_option maxHeartbeats 4000000 in
theorem zzj (R:List RV) (v:Value) (outs:List (List UInt8)) (vo:Value) (base rb:Nat) (lv:Value) (L:List Ent) (cp:Option Addr) (w:World) (hr:ReadsK 4 w v (R.map zay)) (hx:∀ x∈R,Reads w x.2 (x.1.ins.map str)) (hO:Reads w vo (outs.map str)) (hR:zbq (R.map Prod.fst)) (hn:R.length≤1000) (ho:outs.length≤1000)
  (hall:∀ s∈outs,s∈(R.map Prod.fst).map RuleL.out) (h:RTAt base w rb lv L) (hL:L.length≤1000) :
  Calls Tryz.prog 35 #[ptrV rb,v,vo, .pointer cp] w fun e w'=>∃ X lv' ks,e=.returned (ptrV X.b)∧PlacesAt (R.map Prod.fst) outs ks ∧
   (∀ P,(∀ k,k∈P↔Reach (zae (R.map Prod.fst)) ks k)→RBAt X R.length v lv' L P (.pointer cp) w.heap.size w' (fun _=>st0))∧Below w.heap.size w w':=by
 have hrow:∀ r∈R.map zay,r≠[]:=fun r hr=>by obtain⟨x,-,rfl⟩:=List.mem_map.1 hr; simp[zay]
 obtain⟨a,c,hv,hle,-⟩:=id hr;rw[List.length_map] at hv hle;subst hv;have KC:=Hd (fun wl (hb:Below w.heap.size w wl)=>zwy base rb lv L wl (h.below hb) hL);have KN:=Hd (fun wl (hb:Below w.heap.size w wl)=>ziq R (.slice a R.length c) outs vo wl (zao hr hrow hb) (fun x h=>(hx x h).below0 hb) (hO.below0 hb) hR hn ho);obtain⟨ao,co,hvo,hole,-⟩:=id hO;rw[List.length_map] at hvo hole;subst hvo;have HAL:=Hd hall;clear hr hx hO hR hall h;go_enter Tryz.func35,Tryz.ntmps35
 go_wp2_with fail
 refine wp_region_noPanic ?_
 refine wp_region_any (by kernel_rfl) ?_
 change wpAny _ _ _ _ _ _ _ (World.drew _)
 refine wpAny_take (i:=0) (v:=?_) rfl (by kernel_rfl) (by kernel_rfl) (by kernel_rfl) (fun _ _ _ (h:False)=>h.elim) (Or.inl ⟨by rfl,?_⟩) ?_
 rotate_left
 ·first | (intro w'; go_simp; done) | (intro w'; go_simp; with_reducible rfl)
 try simp only[List.getElem_toArray,List.getElem_cons_zero,Act.put,List.setIfInBounds_toArray,List.set_cons_zero,List.set_cons_succ]
 refine wpAny_take (i:=2) (v:=?_) rfl (by kernel_rfl) (by kernel_rfl) (by kernel_rfl) (fun _ _ _ (h:False)=>h.elim) (Or.inl ⟨by rfl,?_⟩) ?_
 rotate_left
 ·first | (intro w'; go_simp; done) | (intro w'; go_simp; with_reducible rfl)
 try simp only[List.getElem_toArray,List.getElem_cons_zero,List.getElem_cons_succ,Act.put,List.setIfInBounds_toArray,List.set_cons_zero,List.set_cons_succ]
 refine wpAny_take (i:=3) (v:=?_) rfl (by kernel_rfl) (by kernel_rfl) (by kernel_rfl) (fun _ _ _ (h:False)=>h.elim) (Or.inl ⟨by rfl,?_⟩) ?_
 rotate_left
 ·first | (intro w'; go_simp; done) | (intro w'; go_simp; with_reducible rfl)
 try simp only[List.getElem_toArray,List.getElem_cons_zero,List.getElem_cons_succ,Act.put,List.setIfInBounds_toArray,List.set_cons_zero,List.set_cons_succ]
 refine wpAny_take (i:=5) (v:=?_) rfl (by kernel_rfl) (by kernel_rfl) (by kernel_rfl) (fun _ _ _ (h:False)=>h.elim) (Or.inl ⟨by rfl,?_⟩) ?_
 rotate_left
 ·first | (intro w'; go_simp; done) | (intro w'; go_simp; with_reducible rfl)
 try simp only[List.getElem_toArray,List.getElem_cons_zero,List.getElem_cons_succ,Act.put,List.setIfInBounds_toArray,List.set_cons_zero,List.set_cons_succ]
 refine wpAny_take (i:=7) (v:=?_) rfl (by kernel_rfl) (by kernel_rfl) (by kernel_rfl) (fun _ _ _ (h:False)=>h.elim) (Or.inl ⟨by rfl,?_⟩) ?_
 rotate_left
 ·first | (intro w'; go_simp; done) | (intro w'; go_simp; with_reducible rfl)
 try simp only[List.getElem_toArray,List.getElem_cons_zero,List.getElem_cons_succ,Act.put,List.setIfInBounds_toArray,List.set_cons_zero,List.set_cons_succ]
 refine wpAny_take (i:=9) (v:=?_) rfl (by kernel_rfl) (by kernel_rfl) (by kernel_rfl) (fun _ _ _ (h:False)=>h.elim) (Or.inl ⟨by rfl,?_⟩) ?_
 rotate_left
 ·first | (intro w'; go_simp; done) | (intro w'; go_simp; with_reducible rfl)
 try simp only[List.getElem_toArray,List.getElem_cons_zero,List.getElem_cons_succ,Act.put,List.setIfInBounds_toArray,List.set_cons_zero,List.set_cons_succ]
 refine wpAny_take (i:=11) (v:=?_) rfl (by kernel_rfl) (by kernel_rfl) (by kernel_rfl) (fun _ _ _ (h:False)=>h.elim) (Or.inl ⟨by rfl,?_⟩) ?_
 rotate_left
 ·first | (intro w'; go_simp; done) | (intro w'; go_simp; with_reducible rfl)
 try simp only[List.getElem_toArray,List.getElem_cons_zero,List.getElem_cons_succ,Act.put,List.setIfInBounds_toArray,List.set_cons_zero,List.set_cons_succ]
 refine makers5 (f:=3) (fun b1 b2 b3 b4 b5=>#[true,b1,true,true,b2,true,b3,true,b4,true,b5,true,false,false,false]) (fun v1 v2 v3 v4 v5=>⟨#[ptrV rb, .slice a R.length c, .slice ao outs.length co, .pointer cp,undef,undef,undef,undef, .pointer none, .int .i64 (R.length:Int),undef,undef,undef,undef, .slice a R.length c, .int .i64 (R.length:Int),ptrV rb,v1, .slice a R.length c, .int .i64 (R.length:Int),v2, .int .i64 (R.length:Int),v3, .int .i64 (R.length:Int),v4, .int .i64 (R.length:Int),v5, .pointer cp,undef,undef,undef,undef,undef,undef,undef,undef,undef,undef,undef,undef,undef,undef,undef,undef,undef,undef,undef,undef,undef,undef,undef,undef],[]⟩) 1 4 6 8 10 (by
  intro b1 b2 b3 b4 b5 hb;cases b1 <;> cases b2 <;> cases b3 <;> cases b4 <;> cases b5 <;> first | (cases hb; done) | kernel_rfl) (fun _ _ _ _ _=>rfl) (fun _ _ _ _ _=>rfl) (fun _ _ _ _ _=>rfl) (fun _ _ _ _ _=>rfl) (fun _ _ _ _ _=>rfl) (NbG w R.length L) ?_ ?_ ?_ ?_ ?_ ?_ 5 none none none none none _ rfl ⟨?_,?_,?_,?_,?_,?_,?_⟩
 case refine_1 =>
  intro o2 o3 o4 o5 wl K hG hK;refine wpOp_step rfl (fun K' hK'=>ztx rfl _ _ _ rfl (ptrV rb) rfl (by kernel_rfl) ((KC.out wl hG.low).mono ?_))
  rintro e w' ⟨lv',rfl,h1,h2⟩;have hg:=hG.below h2;refine⟨_,rfl,hK' _ _ (hK _ _ ⟨hg.low,fun v e=>⟨_,lv',_,(Option.some.inj e).symm,h1,hG.low.size,Nat.le_refl _⟩,hg.s,hg.o,hg.h,hg.y,hg.ne⟩)⟩
 case refine_2 =>
  intro o1 o3 o4 o5 wl K hG hK;have hmk:=zi8 (z:=(str [])) Tryz.underlying33 zo3 (by decide) rfl R.length (by omega) wl
  obtain⟨W1,hW1⟩:∃ W,wl.alloc (.cells (List.replicate R.length (str [])).toArray 9)=W:=⟨_,rfl⟩;have hb1:Below wl.heap.size wl W1:=hW1▸(Below.refl _ wl).alloc (Nat.le_refl _) _;have hv1:VRow 9 W1 wl.heap.size (List.replicate R.length (str [])):=hW1▸heap_alloc_here wl _;rw[hW1] at hmk;have hg:=hG.below hb1;refine wpOp_step rfl (fun K' hK'=>zf5 rfl _ _ _ rfl (.int .i64 (R.length:Int)) _ rfl rfl hmk (hK' _ _ (hK _ _ ⟨hg.low,hg.t,fun v e=>⟨_,(Option.some.inj e).symm,hv1,hG.low.size⟩,hg.o,hg.h,hg.y,?_⟩)))
  intro g k e1 e2 e3;obtain⟨k',hk1,hk2,-⟩:=hG.o _ e2;have:=hk2.lt;obtain rfl:wl.heap.size=g:=by
   have:=Option.some.inj e1;simp only[slN,Value.slice.injEq,Option.some.injEq,Addr.mk.injEq] at this;exact this.1.1
  simp only[slN,Value.slice.injEq,Option.some.injEq,Addr.mk.injEq] at hk1;have:=hk1.1.1;omega
 case refine_3 =>
  intro o1 o2 o4 o5 wl K hG hK;have hmk:=zi8 (z:=(str [])) Tryz.underlying33 zo3 (by decide) rfl R.length (by omega) wl
  obtain⟨W1,hW1⟩:∃ W,wl.alloc (.cells (List.replicate R.length (str [])).toArray 9)=W:=⟨_,rfl⟩;have hb1:Below wl.heap.size wl W1:=hW1▸(Below.refl _ wl).alloc (Nat.le_refl _) _;have hv1:VRow 9 W1 wl.heap.size (List.replicate R.length (str [])):=hW1▸heap_alloc_here wl _;rw[hW1] at hmk;have hg:=hG.below hb1;refine wpOp_step rfl (fun K' hK'=>zf5 rfl _ _ _ rfl (.int .i64 (R.length:Int)) _ rfl rfl hmk (hK' _ _ (hK _ _ ⟨hg.low,hg.t,hg.s,fun v e=>⟨_,(Option.some.inj e).symm,hv1,hG.low.size⟩,hg.h,hg.y,?_⟩)))
  intro g k e1 e2 e3;obtain⟨k',hk1,hk2,-⟩:=hG.s _ e1;have:=hk2.lt;obtain rfl:wl.heap.size=k:=by
   have:=Option.some.inj e2;simp only[slN,Value.slice.injEq,Option.some.injEq,Addr.mk.injEq] at this;exact this.1.1
  simp only[slN,Value.slice.injEq,Option.some.injEq,Addr.mk.injEq] at hk1;have:=hk1.1.1;omega
 case refine_4 =>
  intro o1 o2 o3 o5 wl K hG hK;have hmk:=zi8 (z:=(.bool false)) Tryz.underlying156 zlq (by decide) rfl R.length (by omega) wl
  obtain⟨W1,hW1⟩:∃ W,wl.alloc (.cells (List.replicate R.length (.bool false)).toArray 4)=W:=⟨_,rfl⟩;have hb1:Below wl.heap.size wl W1:=hW1▸(Below.refl _ wl).alloc (Nat.le_refl _) _;have hv1:VRow 4 W1 wl.heap.size (List.replicate R.length (.bool false)):=hW1▸heap_alloc_here wl _;rw[hW1] at hmk;have hg:=hG.below hb1;refine wpOp_step rfl (fun K' hK'=>zf5 rfl _ _ _ rfl (.int .i64 (R.length:Int)) _ rfl rfl hmk (hK' _ _ (hK _ _ ⟨hg.low,hg.t,hg.s,hg.o,fun v e=>⟨_,(Option.some.inj e).symm,hv1,hG.low.size⟩,hg.y,?_⟩)))
  exact hg.ne
 case refine_5 =>
  intro o1 o2 o3 o4 wl K hG hK;have hmk:=zi8 (z:=(.int .i64 0)) Tryz.underlying53 zxb (by decide) rfl R.length (by omega) wl
  obtain⟨W1,hW1⟩:∃ W,wl.alloc (.cells (List.replicate R.length (.int .i64 0)).toArray 3)=W:=⟨_,rfl⟩;have hb1:Below wl.heap.size wl W1:=hW1▸(Below.refl _ wl).alloc (Nat.le_refl _) _;have hv1:VRow 3 W1 wl.heap.size (List.replicate R.length (.int .i64 0)):=hW1▸heap_alloc_here wl _;rw[hW1] at hmk;have hg:=hG.below hb1;refine wpOp_step rfl (fun K' hK'=>zf5 rfl _ _ _ rfl (.int .i64 (R.length:Int)) _ rfl rfl hmk (hK' _ _ (hK _ _ ⟨hg.low,hg.t,hg.s,hg.o,hg.h,fun v e=>⟨_,(Option.some.inj e).symm,hv1,hG.low.size⟩,?_⟩)))
  exact hg.ne
 case refine_6 =>
  intro v1 v2 v3 v4 v5 wl hG;obtain⟨tb,lv',tbase,rfl,ht,htb,htb2⟩:=hG.t _ rfl;obtain⟨sb,rfl,hsb,hs0⟩:=hG.s _ rfl;obtain⟨ob,rfl,hob,ho0⟩:=hG.o _ rfl;obtain⟨hb,rfl,hhb,hh0⟩:=hG.h _ rfl;obtain⟨yb,rfl,hyb,hy0⟩:=hG.y _ rfl;have hne:=hG.ne _ _ rfl rfl;have hlow:=hG.low
  change wpAny _ _ _ _ 3 #[true,true,true,true,true,true,true,true,true,true,true,true,false,false,false] _ wl
  refine wpAny_take (i:=12) (v:=?_) rfl (by kernel_rfl) (by kernel_rfl) (by kernel_rfl) (fun _ _ _ (h:False)=>h.elim) (Or.inl ⟨by rfl,?_⟩) ?_
  rotate_left
  ·first | (intro w'; go_simp; done) | (intro w'; go_simp; with_reducible rfl)
  try simp only[List.getElem_toArray,List.getElem_cons_zero,List.getElem_cons_succ,Act.put,List.setIfInBounds_toArray,List.set_cons_zero,List.set_cons_succ]
  refine wpAny_ready (rs:=[13]) (by kernel_rfl) (by simp) ?_
  refine AllReady.cons rfl (fun K hK=>?_) AllReady.nil
  go_simp
  obtain⟨xb,hxe⟩:∃ x,x=wl.heap.size:=⟨_,rfl⟩;obtain⟨W2,hW2⟩:∃ W,wl.alloc (.cells #[ptrV tb, .slice a R.length c,slN sb R.length,slN ob R.length,slN hb R.length,slN yb R.length, .pointer cp] 164)=W:=⟨_,rfl⟩;have hb2:Below wl.heap.size wl W2:=hW2▸(Below.refl _ wl).alloc (Nat.le_refl _) _;have hbx:VRow 164 W2 xb [ptrV tb, .slice a R.length c,slN sb R.length,slN ob R.length,slN hb R.length,slN yb R.length, .pointer cp]:=hxe▸hW2▸heap_alloc_here wl _;have hxb:w.heap.size≤xb:=hxe▸hlow.size;rw[hW2,← hxe];refine hK _ _ ?_
  clear hK K;have hRB:RBAt ⟨xb,tb,sb,ob,hb,yb⟩ R.length (.slice a R.length c) lv' L [] (.pointer cp) w.heap.size W2 (fun _=>st0) :=
   ⟨hbx,ht.baseM htb |>.below hb2,(zna (n:=R.length) (z:=str []) (f:=fun k=>str (rSt [] (fun _=>st0) k)) (fun _=>rfl))▸hsb.below hb2,(zna (n:=R.length) (z:=str []) (f:=fun k=>str (st0).out) (fun _=>rfl))▸hob.below hb2,
    (zna (n:=R.length) (z:=.bool false) (f:=fun k=>.bool (st0).hit) (fun _=>rfl))▸hhb.below hb2,(zna (n:=R.length) (z:=.int .i64 0) (f:=fun k=>intE (st0).why) (fun _=>rfl))▸hyb.below hb2,hne,⟨hxb,by simp only; omega,hs0,ho0,hh0,hy0⟩⟩
  have HR:=Hd hRB;have HL:=Hd (hlow.trans (hb2.mono hlow.size));clear ht hsb hob hhb hyb hbx hlow hb2 hW2 hne hG hRB htb htb2 hs0 ho0 hh0 hy0 hxb hxe;refine wpAny_take (i:=14) (v:=?_) rfl (by kernel_rfl) (by kernel_rfl) (by kernel_rfl) (fun _ _ _ (h:False)=>h.elim) (Or.inl ⟨by rfl,?_⟩) ?_
  rotate_left
  ·first | (intro w'; go_simp; done) | (intro w'; go_simp; with_reducible rfl)
  refine wpAny_done (by kernel_rfl) ?_ _
  refine NoPanic.normal ?_
  go_wp2_with (
   go_at_call 88
   refine (KN.out _ HL.out).mono ?_
   rintro e w3 ⟨h |⟨i,hi,-,hno,-⟩,hb3⟩
   rotate_left
   ·exact absurd (HAL.out _ (List.getElem_mem hi)) hno
   obtain⟨ks,N,hpl,hN,rfl,hbits⟩:=h;obtain⟨nb,hnb⟩:∃ x,x=W2.heap.size:=⟨_,rfl⟩;rw[← hnb] at hbits;rw[← hnb];have HR3:=Hd (HR.out.below hb3);have HL3:=Hd (HL.out.trans (hb3.mono HL.out.size));have HPL:=Hd hpl;have HN:=Hd hN;have HBT:=Hd hbits;clear hb3 hpl hN hbits hnb)
  have HCX:Hid (∀ wl',Fr w3.heap.size (fun q=>q=sb) w3 wl'→VRow 164 wl' xb [ptrV tb, .slice a R.length c,slN sb R.length,slN ob R.length,slN hb R.length,slN yb R.length, .pointer cp]):=Hd (fun wl' hf=>HR3.out.box.fr hf HR3.out.box.lt (HR3.out.box.ne_of HR3.out.state (by decide)))
  have HCB:Hid (∀ wl',Fr w3.heap.size (fun q=>q=sb) w3 wl'→Bits wl' nb (zaw R.length N)):=Hd (fun wl' hf=>VRow.fr HBT.out hf HBT.out.lt (HBT.out.ne_of HR3.out.state (by decide)))
  go_loopw [13] (fun iv wl'=>∃ i:Nat,i≤R.length∧iv=.int .i64 i∧Fr w3.heap.size (fun q=>q=sb) w3 wl'∧VRow 9 wl' sb ((List.range R.length).map fun k=>str (if k<i∧N.contains k=true then zak 1 else []))) (fun iv _=>R.length - (intOf iv).toNat)
  case atStart =>
   refine⟨0,by omega,rfl,Fr.refl _ _ _,?_⟩
   have:=HR3.out.state;simpa[rSt] using this
  case round =>
   obtain⟨i,hi,rfl,hf,hv⟩:=hrel;have HF:=Hd hf;have HV:=Hd hv;by_cases hlt:i<R.length
   ·have hlc:((i:Int)<(R.length:Int))=True:=eq_true (by omega)
    have hcx:=Bits.at (HCB.out _ hf) (k:=i) (by rw[zco]; exact hlt)
    rw[zc5] at hcx;have hixk:=zbm (P:=Tryz.prog) (T:=156) (E:=4) Tryz.underlying156 (by kernel_rfl) nb R.length R.length i hlt
    have hixs:=zbm (P:=Tryz.prog) (T:=33) (E:=9) Tryz.underlying33 (by kernel_rfl) sb R.length R.length i hlt
    have hcs:wr.cell? ⟨xb,2,none⟩=some (slN sb R.length):=(HCX.out _ hf).cell rfl;have hfz:wr.frozen? ⟨sb,i,none⟩=false:=VRow.frozen hv i;obtain⟨u0,hu0⟩:∃ u,wr.cell? ⟨sb,i,none⟩=some u:=⟨_,hv.cell (k:=i) (by rw[List.getElem?_map,List.getElem?_range hlt]; rfl)⟩
    have HFB:Hid (sb<w3.heap.size):=Hd HR3.out.state.lt;clear hf hv;cases hm:N.contains i with
    | true =>
     rw[hm] at hcx;have HNX:Hid (VRow 9 (wr.setCell ⟨sb,i,none⟩ (str (zak 1))) sb ((List.range R.length).map fun k=>str (if k<i+1∧N.contains k=true then zak 1 else []))):=Hd (by
      have:=HV.out.set i (str (zak 1));rw[zxc] at this;refine this.trans ?_
      congr 3
      refine List.map_congr_left (fun k hk=>?_)
      by_cases hki:k=i
      ·subst hki; simp[show k∈N by simpa using hm]
      ·have:(k<i+1)=(k<i):=by simp; omega
       simp[hki,this])
     go_wp2_with fail
     go_roundw
     case rel=>exact⟨i+1,by omega,by go_num,HF.out.setCell (p:=⟨sb,i,none⟩) (fun _=>rfl) _,HNX.out⟩
     case measure=>simp[intOf]; omega
    | false =>
     rw[hm] at hcx;have HNX:Hid (VRow 9 wr sb ((List.range R.length).map fun k=>str (if k<i+1∧N.contains k=true then zak 1 else []))):=Hd (by
      refine HV.out.trans ?_
      congr 3
      refine List.map_congr_left (fun k hk=>?_)
      by_cases hki:k=i
      ·subst hki; simp[show ¬ (k∈N) by simpa using hm]
      ·have:(k<i+1)=(k<i):=by simp; omega
       simp[this])
     go_wp2_with fail
     go_roundw
     case rel=>exact⟨i+1,by omega,by go_num,HF.out,HNX.out⟩
     case measure=>simp[intOf]; omega
   ·obtain rfl:i=R.length:=by omega
    have hlc:((R.length:Int)<(R.length:Int))=False:=eq_false (by omega)
    go_wp2
    go_ret
    refine⟨⟨xb,tb,sb,ob,hb,yb⟩,lv',ks,rfl,HPL.out,fun P hP=>?_,?_⟩
    ·refine HR3.out.turn HF.out (Nat.le_refl _) (fun q _ e=>Or.inl e) ?_ (HR3.out.out.fr HF.out HR3.out.out.lt HR3.out.ne.symm) (HR3.out.hit.fr HF.out HR3.out.hit.lt (HR3.out.hit.ne_of HR3.out.state (by decide))) (HR3.out.why.fr HF.out HR3.out.why.lt (HR3.out.why.ne_of HR3.out.state (by decide)))
     refine HV.out.trans ?_
     congr 3
     refine List.map_congr_left (fun k hk=>?_)
     have hkl:=List.mem_range.1 hk;unfold rSt;by_cases hkP:k∈P
     ·simp[hkl,hkP,(HN.out k).2 ((hP k).1 hkP),st0]
     ·simp[hkP,show ¬ k∈N from fun h=>hkP ((hP k).2 ((HN.out k).1 h))]
    ·exact HL3.out.trans ((HF.out.mono (S':=fun q=>q=sb) HL3.out.size (fun _ _ h=>h)).below (fun k hk e=>by
      have:=HR3.out.base.2.2.1;simp only at this;omega))
 ·exact (Below.refl _ w).drew
 all_goals (first | (intro v e; cases e; done) | (intro g k e; cases e; done))
structure RBOk (l:List RuleL) (P:List Nat) (st:Nat→St):Prop where
 lt:∀ k∈P,k<l.length
 shut:∀ k∈P,∀ j∈zae l k,j∈P
 one:∀ i∈P,1≤(st i).state∧(st i).state≤4
theorem zfq {P:List Nat} {st:Nat→St} {i n:Nat} (hn:1≤n∧n≤4) (hs:i∈P→1≤(st i).state∧(st i).state≤4):rSt P st i=zak n↔i∈P∧(st i).state=n:=by
 unfold rSt;by_cases hP:i∈P
 ·have h:=hs hP;simp only[List.contains_iff_mem,hP,if_true,true_and];generalize (st i).state=q at h;obtain rfl | rfl | rfl | rfl:q=1∨q=2∨q=3∨q=4:=by omega
  all_goals
   obtain rfl | rfl | rfl | rfl:n=1∨n=2∨n=3∨n=4:=by omega
   all_goals decide
 ·simp only[List.contains_iff_mem,hP,if_false,false_and,iff_false];obtain rfl | rfl | rfl | rfl:n=1∨n=2∨n=3∨n=4:=by omega
  all_goals decide
def rdyB (l:List RuleL) (P:List Nat) (st:Nat→St) (i:Nat):Bool:=P.contains i&&zez l st i
theorem zr1 {l:List RuleL} {P:List Nat} {st:Nat→St} (h:RBOk l P st) {i:Nat}:rdyB l P st i=true↔rSt P st i=zak 1∧∀ k,k<l.length→zda l i k=true→rSt P st k=zak 2:=by
 unfold rdyB;rw[Bool.and_eq_true,List.contains_iff_mem,readyB_iff,zfq (by omega) (h.one i)]
 unfold zc2
 constructor
 ·rintro⟨h1,h2,h3⟩;refine⟨⟨h1,h2⟩,fun k hk hn=>?_⟩
  have he:=zh1 hk hn;exact (zfq (by omega) (h.one k)).2 ⟨h.shut i h1 k he,h3 k he⟩
 ·rintro⟨⟨h1,h2⟩,h3⟩;refine⟨h1,h2,fun k hk=>?_⟩
  obtain⟨hk1,hk2⟩:=zh0 hk;exact ((zfq (by omega) (h.one k)).1 (h3 k hk1 hk2)).2
set_option maxHeartbeats 2000000 in
theorem ziu (X:RBx) (R:List RV) (v lv:Value) (L:List Ent) (P:List Nat) (cv:Value) (base:Nat) (w:World) (st:Nat→St) (h:RBAt X R.length v lv L P cv base w st) (hok:RBOk (R.map Prod.fst) P st)
  (hr:ReadsK 4 w v (R.map zay)) (hx:∀ x∈R,Reads w x.2 (x.1.ins.map str)) (hn:R.length≤1000) (i:Nat) (hi:i<R.length) :
  Calls Tryz.prog 99 #[ptrV X.b,intE i] w fun e w'=>e=.returned (.bool (rdyB (R.map Prod.fst) P st i))∧Below w.heap.size w w':=by
 have hrow:∀ r∈R.map zay,r≠[]:=fun r hr=>by obtain⟨x,-,rfl⟩:=List.mem_map.1 hr; simp[zay]
 obtain⟨a,c,hv,-,-⟩:=id hr;rw[List.length_map] at hv;subst hv;have KN:=Hd (fun w1 (hb:Below w.heap.size w w1) (k:Nat) (hk:k<R.length)=>zha R (.slice a R.length c) i k w1 (zao hr hrow hb) (fun x h=>(hx x h).below0 hb) hi hk);have HB:=Hd (fun w1 (hb:Below w.heap.size w w1)=>h.below hb);have HOK:=Hd hok;have HLN:Hid ((R.map Prod.fst).length=R.length):=Hd (List.length_map _);have HIX:=Hd (fun k (hk:k<R.length)=>zbm (P:=Tryz.prog) (T:=33) (E:=9) Tryz.underlying33 (by kernel_rfl) X.s R.length R.length k hk)
 have hix:=HIX.out i hi;have HCS:=Hd (fun w1 (hb:Below w.heap.size w w1) k (hk:k<R.length)=>(h.below hb).state.cell (k:=k) (v:=str (rSt P st k)) (by rw[List.getElem?_map,List.getElem?_range hk]; rfl))
 have HCX:=Hd (fun w1 (hb:Below w.heap.size w w1)=>(h.below hb).box);have hc1:w.cell? ⟨X.b,1,none⟩=some (.slice a R.length c):=h.box.cell rfl;have hc2:w.cell? ⟨X.b,2,none⟩=some (slN X.s R.length):=h.box.cell rfl;have hcs:=HCS.out w (Below.refl _ _) i hi;have HI:=Hd hi;have HRI:Hid (rSt P st i=zak 1→∀ b,(b=true↔∀ k,k<R.length→zda (R.map Prod.fst) i k=true→rSt P st k=zak 2)→rdyB (R.map Prod.fst) P st i=b):=Hd (fun h1 b hb=>by
  have h2:=zr1 hok (i:=i);rw[List.length_map] at h2;rw[Bool.eq_iff_iff,h2,hb];exact⟨fun h=>h.2,fun h=>⟨h1,h⟩⟩)
 have HRN:Hid (rSt P st i≠zak 1→rdyB (R.map Prod.fst) P st i=false):=Hd (fun h1=>by
  rw[Bool.eq_false_iff];exact fun h2=>h1 ((zr1 hok).1 h2).1)
 clear hr hx hrow h hok;by_cases h1:rSt P st i=zak 1
 ·have HR:=Hd (HRI.out h1);rw[h1] at hcs;simp only[zak] at hcs;clear h1 HRI HRN;generalize rdyB (R.map Prod.fst) P st i=res at *;go_enter Tryz.func99,Tryz.ntmps99
  go_wp2_with fail
  go_loopw [5] (fun kv wl=>∃ k:Nat,k≤R.length∧kv=.int .i64 k∧(∀ j,j<k→zda (R.map Prod.fst) i j=true→rSt P st j=zak 2)∧Below w.heap.size w wl) (fun kv _=>R.length - (intOf kv).toNat)
  case atStart=>exact⟨0,by omega,rfl,fun j hj=>absurd hj (Nat.not_lt_zero j),Below.refl _ _⟩
  case round =>
   obtain⟨k,hk,rfl,hal,hbk⟩:=hrel;have HAL:=Hd hal;have HBK:=Hd hbk;have hc1:wr.cell? ⟨X.b,1,none⟩=some (.slice a R.length c):=(HCX.out _ hbk).cell rfl;by_cases hlt:k<R.length
   ·have hlc:((k:Int)<(R.length:Int))=True:=eq_true (by omega)
    have K:=Hd (KN.out wr hbk k hlt);have hix2:=HIX.out k hlt;have hzk:=hbk.size;have HSN:Hid ((zda (R.map Prod.fst) i k=true→rSt P st k=zak 2)→∀ j,j<k+1→zda (R.map Prod.fst) i j=true→rSt P st j=zak 2):=Hd (fun h1 j hj hnj=>by
     by_cases hjk:j=k
     ·subst hjk; exact h1 hnj
     ·exact HAL.out j (by omega) hnj)
    cases hnb:zda (R.map Prod.fst) i k with
    | false =>
     rw[hnb] at K;have HS2:=Hd (HSN.out (fun h=>by rw[hnb] at h; cases h))
     clear hbk hnb hal;go_wp2_with fail
     refine K.out.mono ?_
     rintro e w3 ⟨rfl,hb3⟩;have HB3:=Hd (HBK.out.trans (hb3.mono hzk));clear hb3;go_wp2
     go_roundw
     case rel =>
      exact⟨k+1,by omega,by go_num,HS2.out,HB3.out⟩
     case measure=>simp[intOf]; omega
    | true =>
     rw[hnb] at K;by_cases h2:rSt P st k=zak 2
     ·have HS2:=Hd (HSN.out (fun _=>h2));have HC2:Hid (∀ w1,Below w.heap.size w w1→w1.cell? ⟨X.s,k,none⟩=some (str (zak 2))):=Hd (fun w1 hb=>h2▸HCS.out w1 hb k hlt);clear hbk hnb hal h2;go_wp2_with fail
      refine K.out.mono ?_
      rintro e w3 ⟨rfl,hb3⟩;have HB3:=Hd (HBK.out.trans (hb3.mono hzk));have hcd:=HC2.out _ HB3.out;have hc2:w3.cell? ⟨X.b,2,none⟩=some (slN X.s R.length):=(HCX.out _ HB3.out).cell rfl;clear hb3;go_wp2
      go_roundw
      case rel=>exact⟨k+1,by omega,by go_num,HS2.out,HB3.out⟩
      case measure=>simp[intOf]; omega
     ·have HF:Hid (res=false):=Hd (HR.out false ⟨fun h=>(Bool.noConfusion h),fun h=>absurd (h k hlt hnb) h2⟩);have HC2:=Hd (fun w1 (hb:Below w.heap.size w w1)=>HCS.out w1 hb k hlt);have e1:(rSt P st k=[100,111,110,101])=False:=eq_false h2;have e2:(rSt P st k==[100,111,110,101])=false:=by simpa[zak] using h2
      have e3:(rSt P st k != [100,111,110,101])=true:=by simpa[zak] using h2
      generalize rSt P st k=x at *;clear hbk hnb hal h2;go_wp2_with fail
      refine K.out.mono ?_
      rintro e w3 ⟨rfl,hb3⟩;have HB3:=Hd (HBK.out.trans (hb3.mono hzk));have hcd:=HC2.out _ HB3.out;have hc2:w3.cell? ⟨X.b,2,none⟩=some (slN X.s R.length):=(HCX.out _ HB3.out).cell rfl;clear hb3;go_wp2
      go_ret
      exact⟨by rw[HF.out]; rfl,HB3.out⟩
   ·obtain rfl:k=R.length:=by omega
    have hlc:((R.length:Int)<(R.length:Int))=False:=eq_false (by omega)
    have HT:Hid (res=true):=Hd (HR.out true ⟨fun _=>hal,fun _=>rfl⟩);clear hal hbk;go_wp2
    go_ret
    exact⟨by rw[HT.out]; rfl,HBK.out⟩
 ·have HF:=Hd (HRN.out h1);have e1:(rSt P st i=[119,97,105,116,115])=False:=eq_false h1;have e2:(rSt P st i==[119,97,105,116,115])=false:=by simpa[zak] using h1
  have e3:(rSt P st i != [119,97,105,116,115])=true:=by simpa[zak] using h1
  clear h1 HRI HRN;generalize rSt P st i=x at *;generalize rdyB (R.map Prod.fst) P st i=res at *;go_enter Tryz.func99,Tryz.ntmps99
  go_wp2
  go_ret
  exact⟨by rw[HF.out]; rfl,Below.refl _ _⟩
def rdyL (l:List RuleL) (P:List Nat) (st:Nat→St) (n:Nat):List Nat:=(List.range n).filter (rdyB l P st)
theorem zxd (l:List RuleL) (P:List Nat) (st:Nat→St) (i:Nat):rdyL l P st (i+1)=rdyL l P st i++if rdyB l P st i then [i] else []:=by
 unfold rdyL;rw[List.range_succ,List.filter_append]
 congr 1
 by_cases h:rdyB l P st i=true
 ·simp[h]
 ·simp[h]
theorem zzk (l:List RuleL) (P:List Nat) (st:Nat→St) (i:Nat):(rdyL l P st i).length≤i:=by
 have:=List.length_filter_le (rdyB l P st) (List.range i);simpa[rdyL] using this
theorem zty {P:List Nat} (hr:P.Pairwise (· < ·)):∀ {n:Nat},(∀ k∈P,k<n)→(List.range n).filter P.contains=P:=by
 intro n hlt;have h1:((List.range n).filter P.contains).Pairwise (· < ·):=List.Pairwise.filter _ List.pairwise_lt_range
 have hp:((List.range n).filter P.contains).Perm P:=by
  rw[List.perm_ext_iff_of_nodup (List.Pairwise.filter _ List.nodup_range) (hr.imp (fun h=>Nat.ne_of_lt h))];intro k;rw[List.mem_filter,List.mem_range,List.contains_iff_mem];exact⟨fun h=>h.2,fun h=>⟨hlt k h,h⟩⟩
 exact hp.eq_of_pairwise (fun a b _ _ h1 h2=>absurd h1 (Nat.lt_asymm h2)) h1 hr
theorem zzl {l:List RuleL} {P:List Nat} {st:Nat→St} (h:PartOk l P):rdyL l P st l.length=zdc l P st:=by
 have h1:(rdyB l P st)=fun a=>zez l st a&&P.contains a:=by
  funext a
  exact Bool.and_comm _ _
 unfold rdyL zdc;rw[h1,← List.filter_filter];rw[show (List.range l.length).filter P.contains=P from zty h.rise h.lt]
theorem zb7 {w w':World} {base:Nat} {e:TypeId} {z:Nat} {v:Value} {n:Nat} {xs:List Value} (h:w.ownsRow base e z v n xs) (hb:Below w.heap.size w w'):w'.ownsRow base e z v n xs :=
 zaf h (Fr.of_below (S:=fun _=>False) hb) (fun k hk=>⟨(h.lt k hk).2,id⟩)
set_option maxHeartbeats 2000000 in
theorem ztz (X:RBx) (R:List RV) (v lv:Value) (L:List Ent) (P:List Nat) (cv:Value) (base:Nat) (w:World) (st:Nat→St) (h:RBAt X R.length v lv L P cv base w st) (hok:RBOk (R.map Prod.fst) P st)
  (hr:ReadsK 4 w v (R.map zay)) (hx:∀ x∈R,Reads w x.2 (x.1.ins.map str)) (hn:R.length≤1000) (hP:PartOk (R.map Prod.fst) P) :
  Calls Tryz.prog 107 #[ptrV X.b] w fun e w'=>∃ u,e=.returned u∧w'.ownsRow w.heap.size 3 1 u (zdc (R.map Prod.fst) P st).length ((za0 (zdc (R.map Prod.fst) P st)).map (Value.int .i64))∧Below w.heap.size w w':=by
 have hrow:∀ r∈R.map zay,r≠[]:=fun r hr=>by obtain⟨x,-,rfl⟩:=List.mem_map.1 hr; simp[zay]
 obtain⟨a,c,hv,-,-⟩:=id hr;rw[List.length_map] at hv;subst hv;have K:=Hd (fun w1 (hb:Below w.heap.size w w1) (i:Nat) (hi:i<R.length)=>ziu X R (.slice a R.length c) lv L P cv base w1 st (h.below hb) hok (zao hr hrow hb) (fun x h=>(hx x h).below0 hb) hn i hi);have HCX:=Hd (fun w1 (hb:Below w.heap.size w w1)=>(h.below hb).box);have HALL:=zzl (st:=st) hP;rw[List.length_map] at HALL;have HA:=Hd HALL;clear h hok hr hx hrow hP HALL;generalize R.map Prod.fst=l at *;go_enter Tryz.func107,Tryz.ntmps107
 go_wp2_with fail
 go_loopw [3,4] (fun ov iv wl=>∃ i:Nat,i≤R.length∧iv=.int .i64 i∧wl.ownsRow w.heap.size 3 1 ov (rdyL l P st i).length ((za0 (rdyL l P st i)).map (Value.int .i64))∧Below w.heap.size w wl) (fun _ iv _=>R.length - (intOf iv).toNat)
 case atStart=>exact⟨0,by omega,rfl,World.ownsRow_nil _ _ _ _,Below.refl _ _⟩
 case round =>
  obtain⟨i,hi,rfl,hown,hbi⟩:=hrel;have HOW:=Hd hown;have HBI:=Hd hbi;have hzi:=hbi.size;have hnl:=zzk l P st i;have hc1:wr.cell? ⟨X.b,1,none⟩=some (.slice a R.length c):=(HCX.out _ hbi).cell rfl;by_cases hlt:i<R.length
  ·have hlc:((i:Int)<(R.length:Int))=True:=eq_true (by omega)
   have HSN:Hid (rdyL l P st (i+1)=rdyL l P st i++if rdyB l P st i then [i] else []):=Hd (zxd l P st i)
   have KI:=Hd (K.out _ hbi i hlt);clear hown hbi;cases hiN:rdyB l P st i with
   | true =>
    rw[hiN] at KI HSN;simp only[if_true] at HSN;clear hiN;go_wp2_with fail
    refine KI.out.mono ?_
    rintro e w3 ⟨rfl,hb3⟩;have hz3:=hb3.size;have HO3:=Hd (zb7 HOW.out hb3);have HB3:=Hd (HBI.out.trans (hb3.mono hzi));clear hb3;go_wp2_with (first
     |(at_builtin
       refine zah _ rfl _ _ 53 rfl tyInts w.heap.size _ _ _ rfl (HO3.out.alloc _) ⟨w3.heap.size,0,none⟩ 1 1 [intE i] rfl rfl (zap ?_) ?_ (by decide) ?_ ?_ ?_
       ·rw[cell_of_heap (heap_alloc_here w3 _)]; rfl
       ·intro u hu; simp at hu; subst hu; rfl
       ·omega
       ·simp; omega
       intro v6 w6 ho6 hg6 hloc6;have HO6:=Hd ho6;have HB6:=Hd ((HB3.out.alloc (by omega) _).grown hg6 (by simp; omega) (fun q hq=>(HO3.out.lt q hq).1))
       clear ho6 hg6 hloc6))
    go_wp2
    go_roundw
    case rel=>exact⟨i+1,by omega,by go_num,by rw[HSN.out]; have h:=HO6.out; simpa[za0] using h,HB6.out⟩
    case measure=>simp[intOf]; omega
   | false =>
    rw[hiN] at KI HSN;simp only[Bool.false_eq_true,if_false,List.append_nil] at HSN;clear hiN;go_wp2_with fail
    refine KI.out.mono ?_
    rintro e w3 ⟨rfl,hb3⟩;have HO3:=Hd (zb7 HOW.out hb3);have HB3:=Hd (HBI.out.trans (hb3.mono hzi));clear hb3;go_wp2
    go_roundw
    case rel=>exact⟨i+1,by omega,by go_num,by rw[HSN.out]; exact HO3.out,HB3.out⟩
    case measure=>simp[intOf]; omega
  ·obtain rfl:i=R.length:=by omega
   have hlc:((R.length:Int)<(R.length:Int))=False:=eq_false (by omega)
   clear hown hbi;go_wp2
   go_ret
   exact⟨_,rfl,by rw[← HA.out]; exact HOW.out,HBI.out⟩
section
variable {X : RBx} {n : Nat} {v lv : Value} {L : List Ent} {P : List Nat} {cv : Value} {base : Nat} {w : World} {st st' : Nat → St}
theorem znb {f g:Nat→Value} {k:Nat} {x:Value} (h:∀ j,g j=if j=k then x else f j):((List.range n).map f).set k x=(List.range n).map g:=by
 rw[zxc];exact List.map_congr_left (fun j _=>(h j).symm)
theorem RBAt.put_state (h:RBAt X n v lv L P cv base w st) (k:Nat) (x:List UInt8) (h1:∀ j,rSt P st' j=if j=k then x else rSt P st j) (h2:∀ j,(st' j).out=(st j).out) (h3:∀ j,(st' j).hit=(st j).hit) (h4:∀ j,(st' j).why=(st j).why) :
  RBAt X n v lv L P cv base (w.setCell ⟨X.s,k,none⟩ (str x)) st':=by
 have hf:Fr w.heap.size (fun q=>q=X.s) w (w.setCell ⟨X.s,k,none⟩ (str x)):=(Fr.refl w.heap.size (fun q=>q=X.s) w).setCell (p:=⟨X.s,k,none⟩) (fun _=>rfl) _;refine h.turn hf (Nat.le_refl _) (fun q _ e=>Or.inl e) ?_ ?_ ?_ ?_
 ·rw[← znb (f:=fun k=>str (rSt P st k)) (k:=k) (x:=str x) (fun j=>by rw[h1]; split <;> rfl)]
  exact h.state.set k _
 ·simp only[h2]; exact h.out.fr hf h.out.lt h.ne.symm
 ·simp only[h3]; exact h.hit.fr hf h.hit.lt (h.hit.ne_of h.state (by decide))
 ·simp only[h4]; exact h.why.fr hf h.why.lt (h.why.ne_of h.state (by decide))
theorem RBAt.put_out (h:RBAt X n v lv L P cv base w st) (k:Nat) (x:List UInt8) (h1:∀ j,rSt P st' j=rSt P st j) (h2:∀ j,(st' j).out=if j=k then x else (st j).out) (h3:∀ j,(st' j).hit=(st j).hit) (h4:∀ j,(st' j).why=(st j).why) :
  RBAt X n v lv L P cv base (w.setCell ⟨X.o,k,none⟩ (str x)) st':=by
 have hf:Fr w.heap.size (fun q=>q=X.o) w (w.setCell ⟨X.o,k,none⟩ (str x)):=(Fr.refl w.heap.size (fun q=>q=X.o) w).setCell (p:=⟨X.o,k,none⟩) (fun _=>rfl) _;refine h.turn hf (Nat.le_refl _) (fun q _ e=>Or.inr (Or.inl e)) ?_ ?_ ?_ ?_
 ·simp only[h1]; exact h.state.fr hf h.state.lt h.ne
 ·rw[← znb (f:=fun k=>str (st k).out) (k:=k) (x:=str x) (fun j=>by rw[h2]; split <;> rfl)]
  exact h.out.set k _
 ·simp only[h3]; exact h.hit.fr hf h.hit.lt (h.hit.ne_of h.out (by decide))
 ·simp only[h4]; exact h.why.fr hf h.why.lt (h.why.ne_of h.out (by decide))
theorem RBAt.put_hit (h:RBAt X n v lv L P cv base w st) (k:Nat) (x:Bool) (h1:∀ j,rSt P st' j=rSt P st j) (h2:∀ j,(st' j).out=(st j).out) (h3:∀ j,(st' j).hit=if j=k then x else (st j).hit) (h4:∀ j,(st' j).why=(st j).why) :
  RBAt X n v lv L P cv base (w.setCell ⟨X.h,k,none⟩ (.bool x)) st':=by
 have hf:Fr w.heap.size (fun q=>q=X.h) w (w.setCell ⟨X.h,k,none⟩ (.bool x)):=(Fr.refl w.heap.size (fun q=>q=X.h) w).setCell (p:=⟨X.h,k,none⟩) (fun _=>rfl) _;refine h.turn hf (Nat.le_refl _) (fun q _ e=>Or.inr (Or.inr (Or.inl e))) ?_ ?_ ?_ ?_
 ·simp only[h1]; exact h.state.fr hf h.state.lt (h.state.ne_of h.hit (by decide))
 ·simp only[h2]; exact h.out.fr hf h.out.lt (h.out.ne_of h.hit (by decide))
 ·rw[← znb (f:=fun k=>.bool (st k).hit) (k:=k) (x:=.bool x) (fun j=>by rw[h3]; split <;> rfl)]
  exact h.hit.set k _
 ·simp only[h4]; exact h.why.fr hf h.why.lt (h.why.ne_of h.hit (by decide))
theorem RBAt.put_why (h:RBAt X n v lv L P cv base w st) (k:Nat) (x:Nat) (h1:∀ j,rSt P st' j=rSt P st j) (h2:∀ j,(st' j).out=(st j).out) (h3:∀ j,(st' j).hit=(st j).hit) (h4:∀ j,(st' j).why=if j=k then x else (st j).why) :
  RBAt X n v lv L P cv base (w.setCell ⟨X.y,k,none⟩ (intE x)) st':=by
 have hf:Fr w.heap.size (fun q=>q=X.y) w (w.setCell ⟨X.y,k,none⟩ (intE x)):=(Fr.refl w.heap.size (fun q=>q=X.y) w).setCell (p:=⟨X.y,k,none⟩) (fun _=>rfl) _;refine h.turn hf (Nat.le_refl _) (fun q _ e=>Or.inr (Or.inr (Or.inr e))) ?_ ?_ ?_ ?_
 ·simp only[h1]; exact h.state.fr hf h.state.lt (h.state.ne_of h.why (by decide))
 ·simp only[h2]; exact h.out.fr hf h.out.lt (h.out.ne_of h.why (by decide))
 ·simp only[h3]; exact h.hit.fr hf h.hit.lt (h.hit.ne_of h.why (by decide))
 ·rw[← znb (f:=fun k=>intE (st k).why) (k:=k) (x:=intE x) (fun j=>by rw[h4]; split <;> rfl)]
  exact h.why.set k _
end
theorem zck {P:List Nat} {st:Nat→St} {k:Nat} (hk:k∈P) (s:St) (j:Nat):rSt P (zbb st k s) j=if j=k then zak s.state else rSt P st j:=by
 unfold rSt;by_cases h:j=k
 ·subst h;rw[zby,if_pos rfl,if_pos (by simpa using hk)]
 ·rw[zbl _ h,if_neg h]
def zo4 (l:List RuleL) (P:List Nat) (c:Nat→St) (k j:Nat):Prop:=rSt P c k=zak 1→(rSt P c j=zak 3∨rSt P c j=zak 4)→zda l k j=false
def zqt (l:List RuleL) (P:List Nat) (n:Nat) (c:Nat→St):Prop:=∀ a b,a<n→b<n→zo4 l P c a b
def RPass (l:List RuleL) (P:List Nat) (n:Nat) (c0 cur:Nat→St) (k j:Nat):Prop :=
 (cur=c0∧∀ a b,b<n→(a<k∨(a=k∧b<j))→zo4 l P c0 a b)∨(¬ zqt l P n c0∧(zdg P cur).length<(zdg P c0).length)
section
variable {l : List RuleL} {P : List Nat} {n : Nat} {c0 cur : Nat → St} {k j : Nat}
theorem RPass.start:RPass l P n c0 c0 0 0:=Or.inl ⟨rfl,fun a b _ h=>by omega⟩
theorem RPass.skip (h:RPass l P n c0 cur k j) (hf:zo4 l P cur k j):RPass l P n c0 cur k (j+1):=by
 rcases h with ⟨rfl,h⟩ | h
 ·refine Or.inl ⟨rfl,fun a b hb hab=>?_⟩
  by_cases he:a=k∧b=j
  ·obtain⟨rfl,rfl⟩:=he; exact hf
  ·exact h a b hb (by omega)
 ·exact Or.inr h
theorem RPass.next (h:RPass l P n c0 cur k n):RPass l P n c0 cur (k+1) 0:=by
 rcases h with ⟨rfl,h⟩ | h
 ·exact Or.inl ⟨rfl,fun a b hb hab=>h a b hb (by omega)⟩
 ·exact Or.inr h
theorem RPass.fire (h:RPass l P n c0 cur k j) (hP:k∈P) (hs:(cur k).state=1) (hk:k<n) (hj:j<n) (h1:rSt P cur k=zak 1) (h2:rSt P cur j=zak 3∨rSt P cur j=zak 4) (h3:zda l k j=true) :
  RPass l P n c0 (zbb cur k { cur k with state:=4 }) k (j+1):=by
 have hw:=znk hP hs;rcases h with ⟨rfl,h⟩ |⟨h,h4⟩
 ·exact Or.inr ⟨fun hS=>absurd (hS k j hk hj h1 h2) (by rw[h3]; exact Bool.noConfusion),hw⟩
 ·exact Or.inr ⟨h,by omega⟩
theorem RPass.stop {r:Nat} (h:RPass l P n c0 cur n 0) (hr:zqt l P n c0∨(zdg P c0).length+r≤n):zqt l P n cur∨(zdg P cur).length+(r+1)≤n:=by
 rcases h with ⟨rfl,h⟩ |⟨h,h4⟩
 ·exact Or.inl (fun a b ha hb=>h a b hb (Or.inl ha))
 ·rcases hr with hr | hr
  ·exact absurd hr h
  ·exact Or.inr (by omega)
theorem zzm (hone:∀ i∈P,1≤(cur i).state∧(cur i).state≤4) (hr:zqt l P n cur∨(zdg P cur).length+n≤n):zqt l P n cur:=by
 rcases hr with hr | hr
 ·exact hr
 ·intro a b ha hb h1
  exfalso
  obtain⟨h2,h3⟩:=(zfq (by omega) (hone a)).1 h1
  have:a∈zdg P cur:=List.mem_filter.2 ⟨h2,by simpa using h3⟩
  have:=List.length_pos_of_mem this;omega
theorem FailMid.one {st:Nat→St} {i e:Nat} (h:FailMid l P st cur i e) (hone:∀ i∈P,1≤(st i).state∧(st i).state≤4):∀ i∈P,1≤(cur i).state∧(cur i).state≤4:=by
 intro j hj;by_cases hji:j=i
 ·subst hji; rw[h.at_]; exact⟨by simp,by simp⟩
 ·rcases h.rest j hj hji with h1 |⟨-,h1,-⟩
  ·rw[h1]; exact hone j hj
  ·rw[h1]; exact⟨by simp,by simp⟩
theorem FailMid.fine {st:Nat→St} {i e:Nat} (h:FailMid l P st cur i e) (hone:∀ i∈P,1≤(st i).state∧(st i).state≤4) (hlt:∀ k∈P,k<l.length) (hsh:∀ k∈P,∀ j∈zae l k,j∈P) (hf:zqt l P l.length cur):FailPost l P st cur i e:=by
 have hc:=h.one hone;refine h.stop (fun j hj hs k hk=>?_)
 refine Nat.lt_of_not_le (fun h3=>?_)
 have hkP:=hsh j hj k hk;have:=hf j k (hlt j hj) (hlt k hkP) ((zfq (by omega) (hc j)).2 ⟨hj,hs⟩) (by
  have:=hc k hkP;rcases (show (cur k).state=3∨(cur k).state=4 by omega) with h4 | h4
  ·exact Or.inl ((zfq (by omega) (hc k)).2 ⟨hkP,h4⟩)
  ·exact Or.inr ((zfq (by omega) (hc k)).2 ⟨hkP,h4⟩))
 rw[(zh0 hk).2] at this;cases this
end
theorem zba {α:Type} (f:St→α) {st:Nat→St} {k:Nat} {s:St} (h:f s=f (st k)) (j:Nat):f (zbb st k s j)=f (st j):=by
 unfold zbb
 split
 ·rename_i e; subst e; exact h
 ·rfl
theorem beqT {a b:List UInt8} (h:(a==b)=true):(a=b)=True:=eq_true (by simpa using h)
theorem beqF {a b:List UInt8} (h:(a==b)=false):(a=b)=False:=eq_false (by simpa using h)
theorem zzn {l:List RuleL} {P:List Nat} (h:PartOk l P) (st:Nat→St):(zdg P st).length≤l.length :=
 Nat.le_trans (List.length_filter_le _ _) (zeo _ _ h.nodup h.lt)
set_option maxHeartbeats 4000000 in
theorem zo5 (X:RBx) (R:List RV) (v lv:Value) (L:List Ent) (P:List Nat) (cv:Value) (base:Nat) (w:World) (st:Nat→St) (h:RBAt X R.length v lv L P cv base w st) (hP:PartOk (R.map Prod.fst) P) (hone:∀ i∈P,1≤(st i).state∧(st i).state≤4)
  (hr:ReadsK 4 w v (R.map zay)) (_hx:∀ x∈R,Reads w x.2 (x.1.ins.map str)) (hrf:∀ w',Fr w.heap.size (fun q=>q=X.s∨q=X.y) w w'→ReadsK 4 w' v (R.map zay)∧∀ x∈R,Reads w' x.2 (x.1.ins.map str)) (hn:R.length≤1000) (i e:Nat) (hi:i∈P) :
  Calls Tryz.prog 101 #[ptrV X.b,intE i,intE e] w fun r w'=>r=.returned (.tuple #[])∧∃ st',FailPost (R.map Prod.fst) P st st' i e∧RBAt X R.length v lv L P cv base w' st'∧Fr w.heap.size (fun q=>q=X.s∨q=X.y) w w':=by
 obtain⟨a,c,hv,-,-⟩:=id hr;rw[List.length_map] at hv;subst hv;have hil:i<R.length:=by have:=hP.lt i hi; simpa using this
 have KN:=Hd (fun w1 (hb:Fr w.heap.size (fun q=>q=X.s∨q=X.y) w w1) (k j:Nat) (hk:k<R.length) (hj:j<R.length)=>zha R (.slice a R.length c) k j w1 (hrf w1 hb).1 (hrf w1 hb).2 hk hj);have HIX:=Hd (fun k (hk:k<R.length)=>zbm (P:=Tryz.prog) (T:=33) (E:=9) Tryz.underlying33 (by kernel_rfl) X.s R.length R.length k hk)
 have hixi:=HIX.out i hil;have hixy:=zbm (P:=Tryz.prog) (T:=53) (E:=3) Tryz.underlying53 (by kernel_rfl) X.y R.length R.length i hil
 have H1:Hid (RBAt X R.length (.slice a R.length c) lv L P cv base (w.setCell ⟨X.s,i,none⟩ (str (zak 3))) (zbb st i { st i with state:=3 })):=Hd (h.put_state i (zak 3) (fun j=>zck hi _ j) (fun j=>zba St.out (by rfl) j) (fun j=>zba St.hit (by rfl) j) (fun j=>zba St.why (by rfl) j))
 have H2:Hid (RBAt X R.length (.slice a R.length c) lv L P cv base ((w.setCell ⟨X.s,i,none⟩ (str (zak 3))).setCell ⟨X.y,i,none⟩ (intE e)) (zbb st i { st i with state:=3,why:=e })):=Hd (by
  have:=H1.out.put_why (st':=zbb st i { st i with state:=3,why:=e }) i e (fun j=>by rw[zck hi,zck hi]) (fun j=>by unfold zbb; split <;> rfl) (fun j=>by unfold zbb; split <;> rfl) (fun j=>by unfold zbb; split <;> rfl)
  exact this)
 have HF2:Hid (Fr w.heap.size (fun q=>q=X.s∨q=X.y) w ((w.setCell ⟨X.s,i,none⟩ (str (zak 3))).setCell ⟨X.y,i,none⟩ (intE e))):=Hd (((Fr.refl w.heap.size (fun q=>q=X.s∨q=X.y) w).setCell (p:=⟨X.s,i,none⟩) (fun _=>Or.inl rfl) _).setCell (p:=⟨X.y,i,none⟩) (fun _=>Or.inr rfl) _);have HM2:=Hd (FailMid.start (l:=R.map Prod.fst) (st:=st) (e:=e) hi);have hc2:w.cell? ⟨X.b,2,none⟩=some (slN X.s R.length):=h.box.cell rfl;have hc5:(w.setCell ⟨X.s,i,none⟩ (str (zak 3))).cell? ⟨X.b,5,none⟩=some (slN X.y R.length):=H1.out.box.cell rfl;have hfz:w.frozen? ⟨X.s,i,none⟩=false:=h.state.frozen i;have hfy:(w.setCell ⟨X.s,i,none⟩ (str (zak 3))).frozen? ⟨X.y,i,none⟩=false:=H1.out.why.frozen i;obtain⟨u0,hu0⟩:∃ u,w.cell? ⟨X.s,i,none⟩=some u:=⟨_,h.state.cell (k:=i) (by rw[List.getElem?_map,List.getElem?_range hil]; rfl)⟩
 obtain⟨u1,hu1⟩:∃ u,(w.setCell ⟨X.s,i,none⟩ (str (zak 3))).cell? ⟨X.y,i,none⟩=some u:=⟨_,H1.out.why.cell (k:=i) (by rw[List.getElem?_map,List.getElem?_range hil]; rfl)⟩
 have HOO:=Hd hone;have HPP:=Hd hP;have HII:=Hd hi;have HLM:Hid ((R.map Prod.fst).length=R.length):=Hd (List.length_map _);clear h hr _hx hrf hP hone hi hil H1;generalize R.map Prod.fst=l at *;simp only[zak] at hc5 hfy hu1 H2 HF2;go_enter Tryz.func101,Tryz.ntmps101
 go_wp2_with fail
 generalize (w.setCell ⟨X.s,i,none⟩ (str [102,97,105,108,101,100])).setCell ⟨X.y,i,none⟩ (intE e)=W2 at *;clear hc2 hc5 hfz hfy hu0 hu1
 go_loopw [6] (fun nv wl=>∃ (r:Nat) (cur:Nat→St),r≤R.length∧nv=.int .i64 r∧FailMid l P st cur i e∧(zqt l P R.length cur∨(zdg P cur).length+r≤R.length)∧RBAt X R.length (.slice a R.length c) lv L P cv base wl cur∧Fr w.heap.size (fun q=>q=X.s∨q=X.y) w wl) (fun nv _=>R.length - (intOf nv).toNat)
 case atStart=>exact⟨0,_,by omega,rfl,HM2.out,Or.inr (by have:=zzn HPP.out (zbb st i { st i with state:=3,why:=e }); rw[HLM.out] at this; omega),H2.out,HF2.out⟩
 case round =>
  obtain⟨r,c0,hr,rfl,hmid,hsh,hrb,hfr⟩:=hrel;have HMI:=Hd hmid;have HSH:=Hd hsh;have HRB:=Hd hrb;have HFR:=Hd hfr;have hc1:wr.cell? ⟨X.b,1,none⟩=some (.slice a R.length c):=hrb.box.cell rfl;clear hmid hsh hrb hfr;by_cases hlr:r<R.length
  ·have hlc:((r:Int)<(R.length:Int))=True:=eq_true (by omega)
   go_wp2_with fail
   go_loopw [7] (fun kv wl=>∃ (k:Nat) (cur:Nat→St),k≤R.length∧kv=.int .i64 k∧FailMid l P st cur i e∧RPass l P R.length c0 cur k 0∧RBAt X R.length (.slice a R.length c) lv L P cv base wl cur∧Fr w.heap.size (fun q=>q=X.s∨q=X.y) w wl) (fun kv _=>R.length - (intOf kv).toNat)
   case atStart=>exact⟨0,c0,by omega,rfl,HMI.out,RPass.start,HRB.out,HFR.out⟩
   case round =>
    obtain⟨k,c1,hk,rfl,hmid,hps,hrb,hfr⟩:=hrel;have HMI1:=Hd hmid;have HPS1:=Hd hps;have HRB1:=Hd hrb;have HFR1:=Hd hfr;have hc1:wr.cell? ⟨X.b,1,none⟩=some (.slice a R.length c):=hrb.box.cell rfl;clear hmid hps hrb hfr;by_cases hlk:k<R.length
    ·have hlck:((k:Int)<(R.length:Int))=True:=eq_true (by omega)
     have hixk:=HIX.out k hlk;go_wp2_with fail
     go_loopw [8] (fun jv wl=>∃ (j:Nat) (cur:Nat→St),j≤R.length∧jv=.int .i64 j∧FailMid l P st cur i e∧RPass l P R.length c0 cur k j∧RBAt X R.length (.slice a R.length c) lv L P cv base wl cur∧Fr w.heap.size (fun q=>q=X.s∨q=X.y) w wl) (fun jv _=>R.length - (intOf jv).toNat)
     case atStart=>exact⟨0,c1,by omega,rfl,HMI1.out,HPS1.out,HRB1.out,HFR1.out⟩
     case round =>
      obtain⟨j,c2,hj,rfl,hmid,hps,hrb,hfr⟩:=hrel;have HMI2:=Hd hmid;have HPS2:=Hd hps;have HRB2:=Hd hrb;have HFR2:=Hd hfr;have hc1:wr.cell? ⟨X.b,1,none⟩=some (.slice a R.length c):=hrb.box.cell rfl;have hc2:wr.cell? ⟨X.b,2,none⟩=some (slN X.s R.length):=hrb.box.cell rfl;by_cases hlj:j<R.length
      ·have hlcj:((j:Int)<(R.length:Int))=True:=eq_true (by omega)
       have hixj:=HIX.out j hlj;have hcj:wr.cell? ⟨X.s,j,none⟩=some (str (rSt P c2 j)):=hrb.state.cell (k:=j) (by rw[List.getElem?_map,List.getElem?_range hlj]; rfl)
       have hck:wr.cell? ⟨X.s,k,none⟩=some (str (rSt P c2 k)):=hrb.state.cell (k:=k) (by rw[List.getElem?_map,List.getElem?_range hlk]; rfl)
       have KK:=Hd (KN.out wr hfr k j hlk hlj);have HONE:=Hd (hmid.one HOO.out);have HSK:Hid (zo4 l P c2 k j→RPass l P R.length c0 c2 k (j+1)):=Hd hps.skip;have HFI:Hid (rSt P c2 k=zak 1→(rSt P c2 j=zak 3∨rSt P c2 j=zak 4)→zda l k j=true→∃ c3,FailMid l P st c3 i e∧RPass l P R.length c0 c3 k (j+1)∧∀ w',Below wr.heap.size wr w'→RBAt X R.length (.slice a R.length c) lv L P cv base (w'.setCell ⟨X.s,k,none⟩ (str (zak 4))) c3):=Hd (fun h1 h2 h3=>by
        obtain⟨hkP,hks⟩:=(zfq (by omega) (HONE.out k)).1 h1
        have hje:3≤(c2 j).state:=by
         rcases h2 with h2 | h2
         ·have:=((zfq (by omega) (HONE.out j)).1 h2).2; omega
         ·have:=((zfq (by omega) (HONE.out j)).1 h2).2; omega
        refine⟨zbb c2 k { c2 k with state:=4 },HMI2.out.left hkP hks ⟨j,zh1 (by rw[HLM.out]; exact hlj) h3,hje⟩,HPS2.out.fire hkP hks hlk hlj h1 h2 h3,fun w' hb=>?_⟩
        exact (HRB2.out.below hb).put_state k (zak 4) (fun q=>zck hkP _ q) (fun q=>zba St.out (by rfl) q) (fun q=>zba St.hit (by rfl) q) (fun q=>zba St.why (by rfl) q))
       have HBX:Hid (∀ w',Below wr.heap.size wr w'→w'.cell? ⟨X.b,2,none⟩=some (slN X.s R.length)∧w'.frozen? ⟨X.s,k,none⟩=false∧∃ u,w'.cell? ⟨X.s,k,none⟩=some u):=Hd (fun w' hb=>⟨(HRB2.out.below hb).box.cell rfl,(HRB2.out.below hb).state.frozen k,_,(HRB2.out.below hb).state.cell (k:=k) (by rw[List.getElem?_map,List.getElem?_range hlk]; rfl)⟩)
       have HFN:Hid (∀ b1 b2 b3 b4:Bool,(rSt P c2 j==zak 3)=b1→(rSt P c2 j==zak 4)=b2→(rSt P c2 k==zak 1)=b3→zda l k j=b4→((b1||b2)&&b3&&b4)=false→zo4 l P c2 k j):=Hd (fun b1 b2 b3 b4 h1 h2 h3 h4 hb=>by
        intro hk hj;subst h1 h2 h3 h4;rw[hk] at hb;rcases hj with hj | hj <;> (rw[hj] at hb; simpa[zak] using hb))
       clear hmid hps hrb hfr;cases hb1:rSt P c2 j==zak 3 with
       | true =>
        have b1:(rSt P c2 j==[102,97,105,108,101,100])=true:=hb1;have b1':(rSt P c2 j=[102,97,105,108,101,100])=True:=beqT b1;cases hb3:rSt P c2 k==zak 1 with
        | false =>
         have b3:(rSt P c2 k==[119,97,105,116,115])=false:=hb3;have b3':(rSt P c2 k=[119,97,105,116,115])=False:=beqF b3;have HS3:=Hd (HSK.out (HFN.out true _ false _ hb1 rfl hb3 rfl rfl));go_wp2
         go_roundw
         case rel=>exact⟨j+1,c2,by omega,by go_num,HMI2.out,HS3.out,HRB2.out,HFR2.out⟩
         case measure=>simp[intOf]; omega
        | true =>
         have b3:(rSt P c2 k==[119,97,105,116,115])=true:=hb3;have b3':(rSt P c2 k=[119,97,105,116,115])=True:=beqT b3;cases hb4:zda l k j with
         | false =>
          rw[hb4] at KK;have HS3:=Hd (HSK.out (HFN.out true _ true false hb1 rfl hb3 hb4 (by cases (rSt P c2 j==zak 4) <;> rfl)))
          go_wp2_with fail
          refine KK.out.mono ?_
          rintro q w3 ⟨rfl,hb3⟩;have HB3:=Hd hb3;clear hb3;go_wp2
          go_roundw
          case rel=>exact⟨j+1,c2,by omega,by go_num,HMI2.out,HS3.out,HRB2.out.below HB3.out,HFR2.out.trans ((Fr.of_below HB3.out).mono HFR2.out.size (fun _ _ h=>h))⟩
          case measure=>simp[intOf]; omega
         | true =>
          rw[hb4] at KK;obtain⟨c3,hm3,hp3,hr3⟩:=HFI.out (by simpa using hb3) (Or.inl (by simpa using hb1)) hb4
          have HM3:=Hd hm3;have HP3:=Hd hp3;have HR3:=Hd hr3;clear hm3 hp3 hr3;go_wp2_with fail
          refine KK.out.mono ?_
          rintro q w3 ⟨rfl,hb3⟩;obtain⟨hc3,hf3,u3,hu3⟩:=HBX.out _ hb3;have HB3:=Hd hb3;clear hb3;go_wp2
          go_roundw
          case rel=>exact⟨j+1,c3,by omega,by go_num,HM3.out,HP3.out,HR3.out _ HB3.out,(HFR2.out.trans ((Fr.of_below HB3.out).mono HFR2.out.size (fun _ _ h=>h))).setCell (p:=⟨X.s,k,none⟩) (fun _=>Or.inl rfl) _⟩
          case measure=>simp[intOf]; omega
       | false =>
        have b1:(rSt P c2 j==[102,97,105,108,101,100])=false:=hb1;have b1':(rSt P c2 j=[102,97,105,108,101,100])=False:=beqF b1;cases hb2:rSt P c2 j==zak 4 with
        | true =>
         have b2:(rSt P c2 j==[108,101,102,116])=true:=hb2;have b2':(rSt P c2 j=[108,101,102,116])=True:=beqT b2;cases hb3:rSt P c2 k==zak 1 with
         | false =>
          have b3:(rSt P c2 k==[119,97,105,116,115])=false:=hb3;have b3':(rSt P c2 k=[119,97,105,116,115])=False:=beqF b3;have HS3:=Hd (HSK.out (HFN.out false true false _ hb1 hb2 hb3 rfl rfl));go_wp2
          go_roundw
          case rel=>exact⟨j+1,c2,by omega,by go_num,HMI2.out,HS3.out,HRB2.out,HFR2.out⟩
          case measure=>simp[intOf]; omega
         | true =>
          have b3:(rSt P c2 k==[119,97,105,116,115])=true:=hb3;have b3':(rSt P c2 k=[119,97,105,116,115])=True:=beqT b3;cases hb4:zda l k j with
          | false =>
           rw[hb4] at KK;have HS3:=Hd (HSK.out (HFN.out false true true false hb1 hb2 hb3 hb4 (by cases (rSt P c2 j==zak 4) <;> rfl)))
           go_wp2_with fail
           refine KK.out.mono ?_
           rintro q w3 ⟨rfl,hb3⟩;have HB3:=Hd hb3;clear hb3;go_wp2
           go_roundw
           case rel=>exact⟨j+1,c2,by omega,by go_num,HMI2.out,HS3.out,HRB2.out.below HB3.out,HFR2.out.trans ((Fr.of_below HB3.out).mono HFR2.out.size (fun _ _ h=>h))⟩
           case measure=>simp[intOf]; omega
          | true =>
           rw[hb4] at KK;obtain⟨c3,hm3,hp3,hr3⟩:=HFI.out (by simpa using hb3) (Or.inr (by simpa using hb2)) hb4
           have HM3:=Hd hm3;have HP3:=Hd hp3;have HR3:=Hd hr3;clear hm3 hp3 hr3;go_wp2_with fail
           refine KK.out.mono ?_
           rintro q w3 ⟨rfl,hb3⟩;obtain⟨hc3,hf3,u3,hu3⟩:=HBX.out _ hb3;have HB3:=Hd hb3;clear hb3;go_wp2
           go_roundw
           case rel=>exact⟨j+1,c3,by omega,by go_num,HM3.out,HP3.out,HR3.out _ HB3.out,(HFR2.out.trans ((Fr.of_below HB3.out).mono HFR2.out.size (fun _ _ h=>h))).setCell (p:=⟨X.s,k,none⟩) (fun _=>Or.inl rfl) _⟩
           case measure=>simp[intOf]; omega
        | false =>
         have b2:(rSt P c2 j==[108,101,102,116])=false:=hb2;have b2':(rSt P c2 j=[108,101,102,116])=False:=beqF b2;cases hb3:rSt P c2 k==zak 1 with
         | false =>
          have b3:(rSt P c2 k==[119,97,105,116,115])=false:=hb3;have b3':(rSt P c2 k=[119,97,105,116,115])=False:=beqF b3;have HS3:=Hd (HSK.out (HFN.out false false false _ hb1 hb2 hb3 rfl rfl));go_wp2
          go_roundw
          case rel=>exact⟨j+1,c2,by omega,by go_num,HMI2.out,HS3.out,HRB2.out,HFR2.out⟩
          case measure=>simp[intOf]; omega
         | true =>
          have b3:(rSt P c2 k==[119,97,105,116,115])=true:=hb3;have b3':(rSt P c2 k=[119,97,105,116,115])=True:=beqT b3;have HS3:=Hd (HSK.out (HFN.out false false true _ hb1 hb2 hb3 rfl rfl));go_wp2
          go_roundw
          case rel=>exact⟨j+1,c2,by omega,by go_num,HMI2.out,HS3.out,HRB2.out,HFR2.out⟩
          case measure=>simp[intOf]; omega
      ·obtain rfl:j=R.length:=by omega
       have hlcj:((R.length:Int)<(R.length:Int))=False:=eq_false (by omega)
       clear hmid hps hrb hfr;go_wp2
       go_roundw
       case rel=>exact⟨k+1,c2,by omega,by go_num,HMI2.out,HPS2.out.next,HRB2.out,HFR2.out⟩
       case measure=>simp[intOf]; omega
    ·obtain rfl:k=R.length:=by omega
     have hlck:((R.length:Int)<(R.length:Int))=False:=eq_false (by omega)
     go_wp2
     go_roundw
     case rel=>exact⟨r+1,c1,by omega,by go_num,HMI1.out,HPS1.out.stop HSH.out,HRB1.out,HFR1.out⟩
     case measure=>simp[intOf]; omega
  ·obtain rfl:r=R.length:=by omega
   have hlc:((R.length:Int)<(R.length:Int))=False:=eq_false (by omega)
   go_wp2
   go_end0
   exact⟨rfl,c0,HMI.out.fine HOO.out HPP.out.lt HPP.out.shut (by rw[HLM.out]; exact zzm (HMI.out.one HOO.out) HSH.out),HRB.out,HFR.out⟩
end Go.Proofs.YtgjialbmlhbngaaGreatDoor
