/-
  The reference's order, in plain words. LongTexts at any texts. The laws' LongRules and OwnRules at any rules. What the laws of what is wanted stand on. What is wanted of files, by rules, in plain words.
-/
import Derived.Test.YtgjialbmlhbngaaGreatDoorPkH
import Derived.Test.YtgjialbmlhbngaaGreatDoorPkG
import Derived.Test.YtgjialbmlhbngaaGreatDoorPkC
import Derived.Test.YtgjialbmlhbngaaGreatDoorPkF
import Derived.Test.YtgjialbmlhbngaaGreatDoorPkE

set_option maxRecDepth 100000
namespace Go.Proofs.YtgjialbmlhbngaaGreatDoor
open Go Go.RowKit Go.Kf Go.Sort Go.Proofs
def zfm (l:List RuleL) (out:List Nat) (i k:Nat):Bool:=(List.range k).all fun j=>out.contains j||!zda l i j
theorem zs6 (l:List RuleL) (out:List Nat) (i k:Nat):zfm l out i (k+1)=(zfm l out i k&&(out.contains k||!zda l i k)):=by
 unfold zfm;rw[List.range_succ,List.all_append];simp
theorem zv3 (l:List RuleL) (isB:Nat→Bool) (out:List Nat) (i:Nat):zcf (zae l) isB out i=(isB i&&(!out.contains i&&zfm l out i l.length)):=by
 rw[Bool.eq_iff_iff,candB_iff,Bool.and_eq_true,Bool.and_eq_true];unfold zfm;rw[List.all_eq_true]
 constructor
 ·rintro⟨h0,h1,h2⟩;refine⟨h0,by simpa using h1,fun j hj=>?_⟩
  by_cases hn:zda l i j=true
  ·have:=h2 j (List.mem_filter.2 ⟨hj,hn⟩);simp[this]
  ·rw[Bool.eq_false_iff.2 hn];simp
 ·rintro⟨h0,h1,h2⟩;refine⟨h0,by simpa using h1,fun j hj=>?_⟩
  obtain⟨h3,h4⟩:=List.mem_filter.1 hj;have:=h2 j h3;rw[h4] at this;simpa using this
def ze3 (isB:Nat→Bool) (out:List Nat) (i:Nat):Bool:=(List.range i).any fun j=>isB j&&!out.contains j
theorem zs7 (isB:Nat→Bool) (out:List Nat) (i:Nat):ze3 isB out (i+1)=(ze3 isB out i||(isB i&&!out.contains i)):=by
 unfold ze3;rw[List.range_succ,List.any_append];simp
def NextSt (C:Nat→Bool) (i:Nat) (z:Int):Prop:=(z = -1∧∀ j,j<i→C j=false)∨∃ k:Nat,k<i∧z=k∧C k=true∧∀ j,j<k→C j=false
theorem NextSt.zero (C:Nat→Bool):NextSt C 0 (-1):=Or.inl ⟨rfl,fun j h=>absurd h (Nat.not_lt_zero j)⟩
theorem NextSt.skip {C:Nat→Bool} {i:Nat} {z:Int} (h:NextSt C i z) (hc:C i=false):NextSt C (i+1) z:=by
 rcases h with ⟨h1,h2⟩ |⟨k,h1,h2,h3,h4⟩
 ·refine Or.inl ⟨h1,fun j hj=>?_⟩
  by_cases hji:j=i
  ·exact hji▸hc
  ·exact h2 j (by omega)
 ·exact Or.inr ⟨k,by omega,h2,h3,h4⟩
theorem NextSt.keep {C:Nat→Bool} {i:Nat} {z:Int} (h:NextSt C i z) (hz:0≤z):NextSt C (i+1) z:=by
 rcases h with ⟨h1,-⟩ |⟨k,h1,h2,h3,h4⟩
 ·omega
 ·exact Or.inr ⟨k,by omega,h2,h3,h4⟩
theorem NextSt.take {C:Nat→Bool} {i:Nat} {z:Int} (h:NextSt C i z) (hz:z<0) (hc:C i=true):NextSt C (i+1) i:=by
 rcases h with ⟨-,h2⟩ |⟨k,h1,h2,-⟩
 ·exact Or.inr ⟨i,by omega,rfl,hc,h2⟩
 ·omega
def OrdR (l:List RuleL) (isB:Nat→Bool) (out:List Nat):Prop:=Outs (zae l) isB l.length out∧zau (zae l) isB l.length=zbx (zae l) isB l.length (zcu isB l.length - out.length) out
theorem OrdR.zero (l:List RuleL) (isB:Nat→Bool):OrdR l isB []:=⟨zm2 _ _ _,rfl⟩
theorem zv4 {E:Nat→List Nat} {isB:Nat→Bool} {n j:Nat} {out:List Nat} (h:Outs E isB n out) (hj:j<n) (hb:isB j=true) (hm:j∉out):out.length<zcu isB n:=by
 have:=zc6 (j::out) ((List.range n).filter isB) (List.nodup_cons.2 ⟨hm,h.nd⟩) (fun k hk=>by
  rcases List.mem_cons.1 hk with rfl | hk
  ·exact List.mem_filter.2 ⟨List.mem_range.2 hj,hb⟩
  ·exact List.mem_filter.2 ⟨List.mem_range.2 (h.lt k hk).1,(h.lt k hk).2⟩)
 simp only[List.length_cons] at this;exact this
theorem many_le (isB:Nat→Bool) (n:Nat):zcu isB n≤n:=by
 unfold zcu;exact Nat.le_trans (List.length_filter_le _ _) (by simp)
theorem OrdR.left {l:List RuleL} {isB:Nat→Bool} {out:List Nat} (h:OrdR l isB out) (hl:ze3 isB out l.length=true):out.length<zcu isB l.length:=by
 obtain⟨j,hj,hm⟩:=List.any_eq_true.1 hl;rw[Bool.and_eq_true] at hm;exact zv4 h.1 (List.mem_range.1 hj) hm.1 (fun hm2=>by rw[List.contains_iff_mem.2 hm2] at hm; cases hm.2)
theorem OrdR.done {l:List RuleL} {isB:Nat→Bool} {out:List Nat} (h:OrdR l isB out) (hl:ze3 isB out l.length=false):zau (zae l) isB l.length=some out:=by
 have hall:∀ j,j<l.length→isB j=true→j∈out:=fun j hj hb=>by
  have:=List.any_eq_false.1 hl j (List.mem_range.2 hj);rw[hb] at this;simpa using this
 have h1:=zc6 ((List.range l.length).filter isB) out (List.Pairwise.filter _ List.nodup_range) (fun j hj=>by
  obtain⟨h1,h2⟩:=List.mem_filter.1 hj;exact hall j (List.mem_range.1 h1) h2)
 have h1':zcu isB l.length≤out.length:=h1;rw[h.2,show zcu isB l.length - out.length=0 by omega]
 rfl
theorem OrdR.none {l:List RuleL} {isB:Nat→Bool} {out:List Nat} (h:OrdR l isB out) (hl:ze3 isB out l.length=true) (hn:NextSt (zcf (zae l) isB out) l.length (-1)):zau (zae l) isB l.length=none:=by
 have h1:=h.left hl;rcases hn with ⟨-,h2⟩ |⟨k,-,h2,-⟩
 ·rw[h.2,show zcu isB l.length - out.length=(zcu isB l.length - out.length - 1)+1 by omega]
  exact zfk (zlr h2)
 ·omega
theorem OrdR.step {l:List RuleL} {isB:Nat→Bool} {out:List Nat} {k:Nat} (h:OrdR l isB out) (hl:ze3 isB out l.length=true) (hn:NextSt (zcf (zae l) isB out) l.length (k:Int)):k<l.length∧OrdR l isB (out++[k]):=by
 have h1:=h.left hl;rcases hn with ⟨h2,-⟩ |⟨j,h2,h3,h4,h5⟩
 ·omega
 ·obtain rfl:k=j:=by omega
  refine⟨h2,h.1.add h2 h4,?_⟩
  rw[h.2,show zcu isB l.length - out.length=(zcu isB l.length - (out.length+1))+1 by omega,zfj (zoa h2 h4 h5),List.length_append,List.length_singleton]
theorem zs8 (n:Nat):zaw n (List.range n)=List.replicate n true:=by
 apply List.ext_getElem
 ·simp[zaw]
 ·intro i h1 h2;rw[zc5,List.getElem_replicate,List.contains_iff_mem,List.mem_range];simpa[zaw] using h1
theorem zv5 (n:Nat) (w:World) (hn:n≤1000) :
  Calls Tryz.prog 113 #[.int .i64 (n:Int)] w fun e w'=>e=.returned (.slice (some ⟨w.heap.size,0,none⟩) n n)∧Bits w' w.heap.size (List.replicate n true)∧Below w.heap.size w w':=by
 have hmk:=zfy n (by omega) w
 obtain⟨W1,hW1⟩:∃ W,w.alloc (.cells ((List.replicate n false).map Value.bool).toArray 4)=W:=⟨_,rfl⟩;have hA:Below w.heap.size w W1:=hW1▸(Below.refl _ w).alloc (Nat.le_refl _) _;have hb0:Bits W1 w.heap.size (zaw n []):=by
  rw[zfz,← hW1];exact heap_alloc_here w _
 rw[hW1] at hmk;have HA:=Hd hA;have HB:=Hd hb0;clear hA hb0 hW1;go_enter Tryz.func113,Tryz.ntmps113
 go_wp2_with fail
 go_loopw [4] (fun iv wl=>∃ i:Nat,i≤n∧iv=.int .i64 i∧Bits wl w.heap.size (zaw n (List.range i))∧Below w.heap.size w wl) (fun iv _=>n - (intOf iv).toNat)
 case atStart=>exact⟨0,by omega,rfl,HB.out,HA.out⟩
 case round =>
  obtain⟨i,hi,rfl,hbt,hbi⟩:=hrel;have HBI:=Hd hbi;by_cases hlt:i<n
  ·have hlc:((i:Int)<(n:Int))=True:=eq_true (by omega)
   have hixb:=zbm (P:=Tryz.prog) (T:=156) (E:=4) Tryz.underlying156 (by kernel_rfl) w.heap.size n n i hlt
   have hcb:=Bits.at hbt (k:=i) (by rw[zco]; exact hlt)
   have hfz:∀ j,wr.frozen? ⟨w.heap.size,j,none⟩=false:=VRow.frozen hbt;have hbp:=Bits.put hbt i true;rw[zed,← List.range_succ] at hbp;have HBP:=Hd hbp;clear hbt hbi hbp;go_wp2
   go_roundw
   case rel=>exact⟨i+1,by omega,by go_num,HBP.out,HBI.out.setCell (p:=⟨w.heap.size,i,none⟩) (Nat.le_refl _) _⟩
   case measure=>simp[intOf]; omega
  ·obtain rfl:i=n:=by omega
   have hlc:((i:Int)<(i:Int))=False:=eq_false (by omega)
   have hbt2:=hbt;rw[zs8] at hbt2;have HF:=Hd hbt2;clear hbt hbi hbt2;go_wp2
   go_ret
   exact⟨rfl,HF.out,HBI.out⟩
structure RSt (w:World) (wl:World) (n:Nat) (out:List Nat) (ov:Value):Prop where
 own:wl.ownsRow (w.heap.size+1) 3 1 ov out.length ((za0 out).map (Value.int .i64))
 bits:Bits wl w.heap.size (zaw n out)
 below:Below w.heap.size w wl
theorem RSt.size {w wl:World} {n:Nat} {out:List Nat} {ov:Value} (h:RSt w wl n out ov):w.heap.size+1≤wl.heap.size:=VRow.lt h.bits
theorem RSt.keep {w wl w2:World} {n:Nat} {out:List Nat} {ov:Value} (h:RSt w wl n out ov) (hb:Below wl.heap.size wl w2):RSt w w2 n out ov :=
 ⟨zaf (S:=fun _=>False) h.own (Fr.of_below hb) (fun k hk=>⟨(h.own.lt k hk).2,id⟩),VRow.below0 h.bits hb,h.below.trans (hb.mono (by have:=h.size; omega))⟩
theorem RSt.step {w wl w5:World} {n k:Nat} {out:List Nat} {ov v5:Value} (h:RSt w wl n out ov)
  (ho:w5.ownsRow (w.heap.size+1) 3 1 v5 (out.length+1) ((za0 out).map (Value.int .i64)++[intE k]))
  (hg:((wl.setCell ⟨w.heap.size,k,none⟩ (.bool true)).alloc (.cells #[intE k] 3)).grownBy w5 ov.ownBlock):RSt w w5 n (out++[k]) v5:=by
 have h0:Bits (wl.setCell ⟨w.heap.size,k,none⟩ (.bool true)) w.heap.size (zaw n (out++[k])):=by
  rw[← zed];exact Bits.put h.bits k true
 have h1:=VRow.below0 h0 ((Below.refl _ _).alloc (Nat.le_refl _) (.cells #[intE k] 3));have hl:∀ b,ov.ownBlock=some b→w.heap.size+1≤b:=fun b hb=>(h.own.lt b hb).1;refine⟨by simpa[za0] using ho,h1.fr (Fr.of_grown hg) h1.lt (fun e=>by have:=hl _ e; omega),?_⟩
 refine Below.grown ?_ hg ?_ (fun b hb=>Nat.le_trans (by omega) (hl b hb))
 ·exact ((h.below.setCell (p:=⟨w.heap.size,k,none⟩) (Nat.le_refl _) _).alloc (by have:=h.size; simp; omega) _)
 ·have:=h.size; simp; omega
set_option maxHeartbeats 4000000 in
theorem zin (R:List RV) (v:Value) (isB:Nat→Bool) (gs:Nat) (w:World) (hr:ReadsK 4 w v (R.map zay)) (hx:∀ x∈R,Reads w x.2 (x.1.ins.map str)) (hs:Bits w gs ((List.range R.length).map isB)) (hn:R.length≤1000) :
  Calls Tryz.prog 89 #[v, .slice (some ⟨gs,0,none⟩) R.length R.length] w fun e w' =>
   (
    (∃ o u,zau (zae (R.map Prod.fst)) isB (R.map Prod.fst).length=some o∧e=.returned (.tuple #[u, .bool true])∧w'.ownsRow w.heap.size 3 1 u o.length ((za0 o).map (Value.int .i64))) ∨
    (zau (zae (R.map Prod.fst)) isB (R.map Prod.fst).length=none∧e=.returned (.tuple #[.slice none 0 0, .bool false])))∧Below w.heap.size w w':=by
 have hrow:∀ r∈R.map zay,r≠[]:=fun r hr=>by obtain⟨x,-,rfl⟩:=List.mem_map.1 hr; simp[zay]
 obtain⟨a,c,hv,hle,-⟩:=id hr;rw[List.length_map] at hv hle;subst hv;have KR:=Hd (fun wl (hb:Below w.heap.size w wl) i k (hi:i<R.length) (hk:k<R.length)=>zha R (.slice a R.length c) i k wl (zao hr hrow hb) (fun x h=>(hx x h).below0 hb) hi hk);have HSB:Hid (∀ wl,Below w.heap.size w wl→∀ i,i<R.length→wl.cell? ⟨gs,i,none⟩=some (.bool (isB i))):=Hd (fun wl hb i hi=>by
  have h:=Bits.at (VRow.below0 hs hb) (k:=i) (by simpa using hi)
  simpa using h)
 obtain⟨L,hL⟩:∃ L,R.map Prod.fst=L:=⟨_,rfl⟩;have hLn:L.length=R.length:=by rw[← hL]; simp
 rw[hL] at KR ⊢;have HLN:=Hd hLn;have hmk:=zfy R.length (by omega) w
 obtain⟨W1,hW1⟩:∃ W,w.alloc (.cells ((List.replicate R.length false).map Value.bool).toArray 4)=W:=⟨_,rfl⟩;have hA:Below w.heap.size w W1:=hW1▸(Below.refl _ w).alloc (Nat.le_refl _) _;have hb0:Bits W1 w.heap.size (zaw R.length []):=by
  rw[zfz,← hW1];exact heap_alloc_here w _
 rw[hW1] at hmk;have HA:=Hd hA;have HB:=Hd hb0;have HCF:Hid (∀ out i,zcf (zae L) isB out i=(isB i&&(!out.contains i&&zfm L out i R.length))):=Hd (fun out i=>by rw[zv3,hLn])
 clear hr hx hs hL hA hb0 hW1 hLn hrow;go_enter Tryz.func89,Tryz.ntmps89
 go_wp2_with fail
 go_loopw [6] (fun ov wl=>∃ out:List Nat,OrdR L isB out∧RSt w wl R.length out ov) (fun ov _=>R.length - lenV ov)
 case atStart=>exact⟨[],OrdR.zero L isB,World.ownsRow_nil _ _ _ _,HB.out,HA.out⟩
 case round =>
  obtain⟨out,hor,hst⟩:=hrel;obtain⟨W2,rfl⟩:∃ W,W=wr:=⟨_,rfl⟩;obtain⟨ao,co,hov⟩:∃ ao co,u6=.slice ao out.length co:=by
   rcases hst.own.2 with ⟨e,h0⟩ |⟨g,cap,_,e,-⟩
   ·exact⟨none,0,by rw[e,h0]⟩
   ·exact⟨_,_,e⟩
  subst hov;have HOR:=Hd hor;have HST:=Hd hst;have HW:Hid (∀ wl,Below W2.heap.size W2 wl→Below w.heap.size w wl):=Hd (fun wl h=>(hst.keep h).below);have HBT:Hid (∀ wl,Below W2.heap.size W2 wl→∀ j,j<R.length→wl.cell? ⟨w.heap.size,j,none⟩=some (.bool (out.contains j))):=Hd (fun wl hb j hj=>by
   have h:=Bits.at (hst.keep hb).bits (k:=j) (by rw[zco]; exact hj)
   rw[zc5] at h;exact h)
  clear hor hst;go_wp2_with fail
  go_loopw [8,9,10] (fun zv lv iv wl=>∃ (i:Nat) (z:Int),i≤R.length∧iv=.int .i64 i∧zv=.int .i64 z∧NextSt (zcf (zae L) isB out) i z∧lv=.bool (ze3 isB out i)∧Below W2.heap.size W2 wl) (fun _ _ iv _=>R.length - (intOf iv).toNat)
  case atStart=>exact⟨0,-1,by omega,rfl,rfl,NextSt.zero _,rfl,Below.refl _ _⟩
  case round =>
   obtain⟨i,z,hi,rfl,rfl,hnx,rfl,hbi⟩:=hrel;have HNX:=Hd hnx;have HBI:=Hd hbi;by_cases hlt:i<R.length
   ·have hlc:((i:Int)<(R.length:Int))=True:=eq_true (by omega)
    have hcd:=HBT.out _ hbi i hlt;have hixb:=fun g=>zbm (P:=Tryz.prog) (T:=156) (E:=4) Tryz.underlying156 (by kernel_rfl) g R.length R.length i hlt
    have hLS:=zs7 isB out i;cases hdn:out.contains i with
    | true =>
     rw[hdn] at hcd hLS;have HC:Hid (zcf (zae L) isB out i=false):=Hd (by rw[HCF.out,hdn]; simp)
     have HLS:Hid (ze3 isB out (i+1)=ze3 isB out i):=Hd (by rw[hLS]; simp)
     clear hnx hbi hdn hLS;generalize ze3 isB out i=lf at *;go_wp2
     go_roundw
     case rel=>exact⟨i+1,z,by omega,by go_num,rfl,HNX.out.skip HC.out,by rw[HLS.out],HBI.out⟩
     case measure=>simp[intOf]; omega
    | false =>
     rw[hdn] at hcd hLS;have hcs:=HSB.out _ (HW.out _ hbi) i hlt;cases hsb:isB i with
     | false =>
     rw[hsb] at hcs hLS;have HC:Hid (zcf (zae L) isB out i=false):=Hd (by rw[HCF.out,hsb]; simp)
     have HLS:Hid (ze3 isB out (i+1)=ze3 isB out i):=Hd (by rw[hLS]; simp)
     clear hnx hbi hdn hLS hsb;generalize ze3 isB out i=lf at *;go_wp2
     go_roundw
     case rel=>exact⟨i+1,z,by omega,by go_num,rfl,HNX.out.skip HC.out,by rw[HLS.out],HBI.out⟩
     case measure=>simp[intOf]; omega
     | true =>
     rw[hsb] at hcs hLS;have HLS:Hid (ze3 isB out (i+1)=true):=Hd (by rw[hLS]; simp)
     have HCI:Hid (zcf (zae L) isB out i=zfm L out i R.length):=Hd (by rw[HCF.out,hdn,hsb]; simp)
     clear hnx hbi hdn hLS hsb;generalize ze3 isB out i=lf at *;go_wp2_with fail
     go_loopw [11,12] (fun fv kv wl=>∃ k:Nat,k≤R.length∧kv=.int .i64 k∧fv=.bool (zfm L out i k)∧Below W2.heap.size W2 wl) (fun _ kv _=>R.length - (intOf kv).toNat)
     case atStart=>exact⟨0,by omega,rfl,rfl,HBI.out⟩
     case round =>
      obtain⟨k,hk,rfl,rfl,hbk⟩:=hrel;have HBK:=Hd hbk;have hFS:=zs6 L out i k;by_cases hlk:k<R.length
      ·have hlc2:((k:Int)<(R.length:Int))=True:=eq_true (by omega)
       have hck:=HBT.out _ hbk k hlk;have hixk:=zbm (P:=Tryz.prog) (T:=156) (E:=4) Tryz.underlying156 (by kernel_rfl) w.heap.size R.length R.length k hlk
       cases hdk:out.contains k with
       | true =>
        rw[hdk] at hck hFS;have HFS:Hid (zfm L out i (k+1)=zfm L out i k):=Hd (by rw[hFS]; simp)
        clear hbk hdk hFS;generalize zfm L out i k=fr at *;go_wp2
        go_roundw
        case rel=>exact⟨k+1,by omega,by go_num,by rw[HFS.out],HBK.out⟩
        case measure=>simp[intOf]; omega
       | false =>
        rw[hdk] at hck hFS;have K:=Hd (KR.out _ (HW.out _ hbk) i k hlt hlk);have HZ:=Hd hbk.size;cases hnb:zda L i k with
        | true =>
         rw[hnb] at K hFS;have HFS:Hid (zfm L out i (k+1)=false):=Hd (by rw[hFS]; simp)
         clear hbk hdk hFS hnb;generalize zfm L out i k=fr at *;go_wp2_with fail
         refine K.out.mono ?_
         rintro e w9 ⟨rfl,hb9⟩;have HB9:=Hd (HBK.out.trans (hb9.mono HZ.out));clear hb9;go_wp2
         go_roundw
         case rel=>exact⟨k+1,by omega,by go_num,by rw[HFS.out],HB9.out⟩
         case measure=>simp[intOf]; omega
        | false =>
         rw[hnb] at K hFS;have HFS:Hid (zfm L out i (k+1)=zfm L out i k):=Hd (by rw[hFS]; simp)
         clear hbk hdk hFS hnb;generalize zfm L out i k=fr at *;go_wp2_with fail
         refine K.out.mono ?_
         rintro e w9 ⟨rfl,hb9⟩;have HB9:=Hd (HBK.out.trans (hb9.mono HZ.out));clear hb9;go_wp2
         go_roundw
         case rel=>exact⟨k+1,by omega,by go_num,by rw[HFS.out],HB9.out⟩
         case measure=>simp[intOf]; omega
      ·obtain rfl:k=R.length:=by omega
       have hlc2:((R.length:Int)<(R.length:Int))=False:=eq_false (by omega)
       clear hbk hFS;cases hfr:zfm L out i R.length with
       | false =>
        have HC:Hid (zcf (zae L) isB out i=false):=Hd (by rw[HCI.out,hfr])
        clear hfr;go_wp2
        go_roundw
        case rel=>exact⟨i+1,z,by omega,by go_num,rfl,HNX.out.skip HC.out,by rw[HLS.out],HBK.out⟩
        case measure=>simp[intOf]; omega
       | true =>
        have HC:Hid (zcf (zae L) isB out i=true):=Hd (by rw[HCI.out,hfr])
        clear hfr;by_cases hz:z<0
        ·have hzc:(z<0)=True:=eq_true hz;have HZN:=Hd hz;clear hz;go_wp2
         go_roundw
         case rel=>exact⟨i+1,i,by omega,by go_num,rfl,HNX.out.take HZN.out HC.out,by rw[HLS.out],HBK.out⟩
         case measure=>simp[intOf]; omega
        ·have hzc:(z<0)=False:=eq_false hz;have HZN:Hid (0≤z):=Hd (by omega)
         clear hz;go_wp2
         go_roundw
         case rel=>exact⟨i+1,z,by omega,by go_num,rfl,HNX.out.keep HZN.out,by rw[HLS.out],HBK.out⟩
         case measure=>simp[intOf]; omega
   ·obtain rfl:i=R.length:=by omega
    have hlc:((R.length:Int)<(R.length:Int))=False:=eq_false (by omega)
    have HSK:=Hd (HST.out.keep hbi);have HLF:=HLN.out;cases hlf:ze3 isB out R.length with
    | false =>
     have HD:Hid (zau (zae L) isB L.length=some out):=Hd (HOR.out.done (by rw[HLN.out]; exact hlf))
     clear hnx hbi hlf;go_wp2
     go_ret2
     exact⟨Or.inl ⟨out,_,HD.out,rfl,zaj HSK.out.own (by omega)⟩,HSK.out.below⟩
    | true =>
     have hlf2:ze3 isB out L.length=true:=by rw[HLN.out]; exact hlf
     have hnx2:NextSt (zcf (zae L) isB out) L.length z:=by rw[HLN.out]; exact hnx
     by_cases hz:z<0
     ·have hzc:(z<0)=True:=eq_true hz;obtain rfl:z = -1:=by
       rcases hnx with ⟨h,-⟩ |⟨k,-,h,-⟩ <;> omega
      have HD:Hid (zau (zae L) isB L.length=none):=Hd (HOR.out.none hlf2 hnx2);clear hnx hbi hlf hlf2 hnx2 hz;go_wp2
      go_ret2
      exact⟨Or.inr ⟨HD.out,rfl⟩,HSK.out.below⟩
     ·obtain⟨k,rfl⟩:∃ k:Nat,z=k:=⟨z.toNat,by omega⟩
      have hzc:((k:Int)<0)=False:=eq_false (by omega)
      obtain⟨hkn,hor2⟩:=HOR.out.step hlf2 hnx2;rw[HLN.out] at hkn;have HOR2:=Hd hor2;have hol:out.length<R.length:=by have:=HOR.out.left hlf2; have:=many_le isB L.length; rw[HLN.out] at *; omega
      have hixk:=zbm (P:=Tryz.prog) (T:=156) (E:=4) Tryz.underlying156 (by kernel_rfl) w.heap.size R.length R.length k hkn
      have hck:=HBT.out _ hbi k hkn;have hfz:∀ j,wr.frozen? ⟨w.heap.size,j,none⟩=false:=VRow.frozen HSK.out.bits;have HO5:Hid ((wr.setCell ⟨w.heap.size,k,none⟩ (.bool true)).ownsRow (w.heap.size+1) 3 1 (.slice ao out.length co) out.length ((za0 out).map (Value.int .i64))):=Hd
       (zaf HSK.out.own (Fr.setCell (S:=fun q=>q=w.heap.size) (p:=⟨w.heap.size,k,none⟩) (Fr.refl wr.heap.size _ wr) (fun _=>rfl) _) (fun q hq=>⟨(HSK.out.own.lt q hq).2,fun e=>by have:=(HSK.out.own.lt q hq).1; omega⟩))
      have hzr:=HSK.out.size;clear hnx hbi hlf hlf2 hnx2 hz hor2;go_wp2_with (first
       |(at_builtin
         refine zah _ rfl _ _ 53 rfl tyInts (w.heap.size+1) _ _ _ rfl (HO5.out.alloc _) ⟨wr.heap.size,0,none⟩ 1 1 [intE k] rfl rfl (zap ?_) ?_ (by decide) ?_ ?_ ?_
         ·have e:=heap_alloc_here (wr.setCell ⟨w.heap.size,k,none⟩ (.bool true)) (.cells #[intE k] 3);rw[show (wr.setCell ⟨w.heap.size,k,none⟩ (.bool true)).heap.size=wr.heap.size by simp] at e
          rw[cell_of_heap e]; rfl
         ·intro u hu; simp at hu; subst hu; rfl
         ·omega
         ·simp; omega
         intro v6 w6 ho6 hg6 hloc6;have HST6:=Hd (HSK.out.step ho6 hg6);obtain⟨g6,cap6,rfl⟩:=zbd ho6 (by omega)
         clear ho6 hg6 hloc6))
      go_wp2
      go_roundw
      case rel=>exact⟨out++[k],HOR2.out,HST6.out⟩
      case measure=>show R.length - (out.length+1)<R.length - out.length; omega
theorem zp8 (R:List RV) (v:Value) (gs:Nat) (w:World) (hr:ReadsK 4 w v (R.map zay)) (hx:∀ x∈R,Reads w x.2 (x.1.ins.map str)) (hs:Bits w gs (List.replicate R.length true)) (hn:R.length≤1000) :
  Calls Tryz.prog 89 #[v, .slice (some ⟨gs,0,none⟩) R.length R.length] w fun e w' =>
   (
    (∃ o u,zau (zae (R.map Prod.fst)) (fun _=>true) (R.map Prod.fst).length=some o∧e=.returned (.tuple #[u, .bool true])∧w'.ownsRow w.heap.size 3 1 u o.length ((za0 o).map (Value.int .i64))) ∨
    (zau (zae (R.map Prod.fst)) (fun _=>true) (R.map Prod.fst).length=none∧e=.returned (.tuple #[.slice none 0 0, .bool false])))∧Below w.heap.size w w':=by
 have e:List.replicate R.length true=(List.range R.length).map fun _=>true:=by
  apply List.ext_getElem
  ·simp
  ·intro i h1 h2;simp
 rw[e] at hs;exact zin R v (fun _=>true) gs w hr hx hs hn
theorem zio {n:Nat} {a b:List Nat} (h:∀ k,k<n→(k∈a↔k∈b)):zaw n a=zaw n b:=by
 apply List.ext_getElem
 ·simp[zaw]
 ·intro i h1 h2;rw[zc5,zc5,Bool.eq_iff_iff,List.contains_iff_mem,List.contains_iff_mem];exact h i (by simpa[zaw] using h1)
theorem zj3 (n:Nat) (N:List Nat):(zbt n N).Nodup:=List.Pairwise.filter _ List.nodup_range
theorem zv6 {l:List RuleL} {outs:List (List UInt8)} {ks:List Nat} (h:PlacesAt l outs ks):Clo (zae l) l.length ks (zbt l.length ks)∧zaw l.length ks=zaw l.length (zbt l.length ks):=by
 have key:∀ k,k∈zbt l.length ks↔k∈ks:=fun k=>zdp h.1;exact⟨⟨zj3 _ _,fun k hk=>h.1 k ((key k).1 hk),fun k hk=>.base ((key k).1 hk),fun k hk=>(key k).2 hk⟩,zio (fun k _=>(key k).symm)⟩
theorem zod {n k:Nat} {N:List Nat} (hk:k∈N):zaw n (N++[k])=zaw n N:=zio (fun j _=>by
 rw[List.mem_append,List.mem_singleton];exact⟨fun h=>h.elim id (fun e=>e▸hk),Or.inl⟩)
def zp9 (l:List RuleL) (ks:List Nat) (s:List UInt8) (k:Nat) (f:Bool) (M:List Nat):Prop :=
 (f=false∧M=ks∧∀ j (hj:j<l.length),j<k→l[j].out≠s)∨∃ q,∃ hq:q<l.length,q<k∧f=true∧l[q].out=s∧M=ks++[q]
set_option maxHeartbeats 4000000 in
theorem ziq (R:List RV) (v:Value) (outs:List (List UInt8)) (vo:Value) (w:World) (hr:ReadsK 4 w v (R.map zay)) (hx:∀ x∈R,Reads w x.2 (x.1.ins.map str)) (hO:Reads w vo (outs.map str)) (hR:zbq (R.map Prod.fst)) (hn:R.length≤1000) (ho:outs.length≤1000) :
  Calls Tryz.prog 88 #[v,vo] w fun e w' =>
   (
    (∃ ks N,PlacesAt (R.map Prod.fst) outs ks∧(∀ k,k∈N↔Reach (zae (R.map Prod.fst)) ks k)∧e=.returned (.tuple #[.slice (some ⟨w.heap.size,0,none⟩) R.length R.length, .int .i64 (-1)])∧Bits w' w.heap.size (zaw R.length N)) ∨
    (∃ i,∃ h:i<outs.length,(∀ j (hj:j<outs.length),j<i→outs[j]∈(R.map Prod.fst).map RuleL.out)∧outs[i]∉(R.map Prod.fst).map RuleL.out∧e=.returned (.tuple #[.slice none 0 0, .int .i64 (i:Int)])))∧Below w.heap.size w w':=by
 have hrow:∀ r∈R.map zay,r≠[]:=fun r hr=>by obtain⟨x,-,rfl⟩:=List.mem_map.1 hr; simp[zay]
 obtain⟨a,c,hv,hle,-⟩:=id hr;rw[List.length_map] at hv hle;subst hv;obtain⟨ao,co,hvo,hole,-⟩:=id hO;rw[List.length_map] at hvo hole;subst hvo;have KR:=Hd (fun wl (hb:Below w.heap.size w wl) i k (hi:i<R.length) (hk:k<R.length)=>zha R (.slice a R.length c) i k wl (zao hr hrow hb) (fun x h=>(hx x h).below0 hb) hi hk);have HRK:=Hd (fun wl (hb:Below w.heap.size w wl)=>zao hr hrow hb);have HO:=Hd (fun wl (hb:Below w.heap.size w wl)=>hO.below0 hb);obtain⟨L,hL⟩:∃ L,R.map Prod.fst=L:=⟨_,rfl⟩;have hLn:L.length=R.length:=by rw[← hL]; simp
 have hLR:∀ i (h:i<R.length) (h2:i<L.length),R[i].1.out=L[i].out:=fun i h h2=>by simp only[← hL,List.getElem_map]
 rw[hL] at KR hR ⊢;have HLN:=Hd hLn;have HLR:=Hd hLR;have HRT:=Hd hR;have hmk:=zfy R.length (by omega) w
 obtain⟨W1,hW1⟩:∃ W,w.alloc (.cells ((List.replicate R.length false).map Value.bool).toArray 4)=W:=⟨_,rfl⟩;have hA:Below w.heap.size w W1:=hW1▸(Below.refl _ w).alloc (Nat.le_refl _) _;have hb0:Bits W1 w.heap.size (zaw R.length []):=by
  rw[zfz,← hW1];exact heap_alloc_here w _
 rw[hW1] at hmk;have HA:=Hd hA;have HB:=Hd hb0;clear hr hx hL hA hb0 hW1 hLn hLR hrow hO hR;go_enter Tryz.func88,Tryz.ntmps88
 go_wp2_with fail
 go_loopw [7] (fun iv wl=>∃ (i:Nat) (ks:List Nat),i≤outs.length∧iv=.int .i64 i∧PlacesAt L (outs.take i) ks∧Bits wl w.heap.size (zaw R.length ks)∧Below w.heap.size w wl) (fun iv _=>outs.length - (intOf iv).toNat)
 case atStart=>exact⟨0,[],by omega,rfl,PlacesAt.nil _,HB.out,HA.out⟩
 case round =>
  obtain⟨i,ks,hi,rfl,hpl,hbt,hbi⟩:=hrel;have HPL:=Hd hpl;have HBT:=Hd hbt;have HBI:=Hd hbi;by_cases hlt:i<outs.length
  ·have hlc:((i:Int)<(outs.length:Int))=True:=eq_true (by omega)
   have HTK:Hid (outs.take (i+1)=outs.take i++[outs[i]]):=Hd (by rw[List.take_succ_eq_append_getElem hlt])
   have HMK:Hid (∀ j (hj:j<outs.length),j<i→outs[j]∈L.map RuleL.out):=Hd (fun j hj hji=>by
    have h1:outs[j]∈outs.take i:=List.mem_iff_getElem.2 ⟨j,by rw[List.length_take]; omega,by rw[List.getElem_take]⟩
    rw[← hpl.2] at h1;obtain⟨k,hk,e⟩:=List.mem_map.1 h1;have hkk:=hpl.1 k hk;rw[List.getD_eq_getElem?_getD,List.getElem?_eq_getElem hkk,Option.getD_some] at e;rw[← e];exact List.mem_map.2 ⟨_,List.getElem_mem hkk,rfl⟩)
   have HAT:Hid (∀ s,outs[i]=s→s∉L.map RuleL.out→∃ h:i<outs.length,outs[i]∉L.map RuleL.out):=Hd (fun s h1 h2=>⟨hlt,h1▸h2⟩);have HCO:Hid (∀ s,outs[i]=s→∀ wl,Below w.heap.size w wl→∃ b o,(∀ w',(Instr.indexAt 33 (.slice ao outs.length co) (.int .i64 (i:Int))).run Tryz.prog w'=.ok (.pointer (some ⟨b,o,none⟩)) w')∧wl.cell? ⟨b,o,none⟩=some (str s)):=Hd (fun s hs wl hb=>by
    obtain⟨b,o,h1,h2⟩:=(HO.out wl hb).at (P:=Tryz.prog) Tryz.underlying33 (by kernel_rfl) i (by simpa using hlt)
    simp only[List.getElem_map] at h2;exact⟨b,o,h1,by rw[h2,hs]⟩)
   generalize hs:outs[i]=s at *;have HAT2:=Hd (HAT.out s rfl);have HCO2:=Hd (HCO.out s rfl);clear HAT HCO hs hpl hbt hbi;go_wp2_with fail
   go_loopw [8,9] (fun fv kv wl=>∃ (k:Nat) (f:Bool) (M:List Nat),k≤R.length∧kv=.int .i64 k∧fv=.bool f∧zp9 L ks s k f M∧Bits wl w.heap.size (zaw R.length M)∧Below w.heap.size w wl) (fun _ kv _=>R.length - (intOf kv).toNat)
   case atStart=>exact⟨0,false,ks,by omega,rfl,rfl,Or.inl ⟨rfl,rfl,fun j hj h=>absurd h (Nat.not_lt_zero j)⟩,HBT.out,HBI.out⟩
   case round =>
    obtain⟨k,f,M,hk,rfl,rfl,hfs,hbt,hbk⟩:=hrel;have HFS:=Hd hfs;have HBTK:=Hd hbt;have HBK:=Hd hbk;by_cases hlk:k<R.length
    ·have hlc2:((k:Int)<(R.length:Int))=True:=eq_true (by omega)
     obtain⟨b2,o2,hix2,hc2⟩:=HCO2.out _ hbk;obtain⟨b,of,hix,-,hce⟩:=(HRK.out _ hbk).at (P:=Tryz.prog) Tryz.underlying22 (by kernel_rfl) k (by simpa using hlk)
     simp only[List.getElem_map] at hce;have hc0:=hce 0 _ rfl;simp only[Nat.add_zero] at hc0;rw[HLR.out k hlk (by rw[HLN.out]; exact hlk)] at hc0
     have hkL:k<L.length:=by rw[HLN.out]; exact hlk
     have HSM:Hid ((L[k].out==s)=true→zp9 L ks s (k+1) true (ks++[k])):=Hd (fun h=>Or.inr ⟨k,hkL,by omega,rfl,by simpa using h,rfl⟩)
     have HEX:Hid ((L[k].out==s)=true→M=ks):=Hd (fun h=>by
      rcases HFS.out with ⟨-,h1,-⟩ |⟨q,hq,h1,-,h2,-⟩
      ·exact h1
      ·have:=HRT.out.2.outs hq hkL (h2.trans (by simpa using h:L[k].out=s).symm)
       omega)
     have HNO:Hid ((L[k].out==s)=false→zp9 L ks s (k+1) f M):=Hd (fun h=>by
      rcases HFS.out with ⟨h1,h2,h3⟩ |⟨q,hq,h1,h2,h3,h4⟩
      ·refine Or.inl ⟨h1,h2,fun j hj hjk=>?_⟩
       by_cases hji:j=k
       ·subst hji; simpa using h
       ·exact h3 j hj (by omega)
      ·exact Or.inr ⟨q,hq,by omega,h2,h3,h4⟩)
     clear hce hfs hbt hbk;cases hb:L[k].out==s with
     | true =>
      have hbM:=HEX.out hb;have HF2:=Hd (HSM.out hb);have hixk:=zbm (P:=Tryz.prog) (T:=156) (E:=4) Tryz.underlying156 (by kernel_rfl) w.heap.size R.length R.length k hlk
      have hfz:∀ j,wr.frozen? ⟨w.heap.size,j,none⟩=false:=VRow.frozen HBTK.out;have hcx:=Bits.at HBTK.out (k:=k) (by rw[zco]; exact hlk)
      have HBP:Hid (∀ q,Bits ((wr.drewN q).setCell ⟨w.heap.size,k,none⟩ (.bool true)) w.heap.size (zaw R.length (ks++[k]))):=Hd (fun q=>by
       have hbp:=Bits.put (VRow.below0 HBTK.out (zag (Below.refl _ _) q)) k true;rw[zed,hbM] at hbp;exact hbp)
      clear hbM;generalize L[k].out=x at *;go_wp2_with fail
      go_quiet (fail)
      go_wp2
      go_roundw
      case rel=>exact⟨k+1,true,_,by omega,by go_num,rfl,HF2.out,HBP.out _,(zag HBK.out _).setCell (p:=⟨w.heap.size,k,none⟩) (Nat.le_refl _) _⟩
      case measure=>simp[intOf]; omega
     | false =>
      have HF2:=Hd (HNO.out hb);generalize L[k].out=x at *;go_wp2_with fail
      go_quiet (fail)
      go_wp2
      go_roundw
      case rel=>exact⟨k+1,f,M,by omega,by go_num,rfl,HF2.out,VRow.below0 HBTK.out (zag (Below.refl _ _) _),zag HBK.out _⟩
      case measure=>simp[intOf]; omega
    ·obtain rfl:k=R.length:=by omega
     have hlc2:((R.length:Int)<(R.length:Int))=False:=eq_false (by omega)
     clear hbt hbk;cases f with
     | true =>
      have HST:Hid (∃ q,M=ks++[q]∧PlacesAt L (outs.take (i+1)) (ks++[q])):=Hd (by
       rcases hfs with ⟨h,-⟩ |⟨q,hq,-,-,h1,h2⟩
       ·cases h
       ·exact⟨q,h2,by rw[HTK.out]; exact HPL.out.snoc hq h1⟩)
      clear hfs;obtain⟨q,hM,hpq⟩:=HST.out;subst hM;have HPQ:=Hd hpq;clear hpq HST;go_wp2
      go_roundw
      case rel=>exact⟨i+1,_,by omega,by go_num,HPQ.out,HBTK.out,HBK.out⟩
      case measure=>simp[intOf]; omega
     | false =>
      have HNM:Hid (s∉L.map RuleL.out):=Hd (by
       rcases hfs with ⟨-,-,h⟩ |⟨q,hq,-,h,-⟩
       ·intro hm;obtain⟨r,hr,e⟩:=List.mem_map.1 hm;obtain⟨j,hj,rfl⟩:=List.mem_iff_getElem.1 hr;exact h j hj (by rw[← HLN.out]; exact hj) e
       ·cases h)
      clear hfs;go_wp2
      go_ret2
      obtain⟨h1,h2⟩:=HAT2.out HNM.out;exact⟨Or.inr ⟨i,h1,HMK.out,h2,rfl⟩,HBK.out⟩
  ·obtain rfl:i=outs.length:=by omega
   have hlc:((outs.length:Int)<(outs.length:Int))=False:=eq_false (by omega)
   have hpl2:=hpl;rw[List.take_length] at hpl2;have hst:=zv6 hpl2;rw[HLN.out] at hst;have HP2:=Hd hpl2;have HC0:Hid (CloN (zae L) R.length ks 0 (zbt R.length ks)):=Hd (CloN.zero hst.1);have HB0:Hid (Bits wr w.heap.size (zaw R.length (zbt R.length ks))):=Hd (by rw[← hst.2]; exact hbt)
   have HEL:Hid (∀ i,∀ k∈zae L i,k<R.length):=Hd (fun i k hk=>by have h:=zb1 _ i k hk; rw[HLN.out] at h; exact h)
   clear hpl hpl2 hst hbt hbi;go_wp2_with fail
   go_loopw [10] (fun nv wl=>∃ (r:Nat) (N:List Nat),r≤R.length∧nv=.int .i64 r∧CloN (zae L) R.length ks r N∧Bits wl w.heap.size (zaw R.length N)∧Below w.heap.size w wl) (fun nv _=>R.length - (intOf nv).toNat)
   case atStart=>exact⟨0,_,by omega,rfl,HC0.out,HB0.out,HBI.out⟩
   case round =>
    obtain⟨r,N0,hr,rfl,hcn,hbt,hbr⟩:=hrel;by_cases hlr:r<R.length
    ·have hlc3:((r:Int)<(R.length:Int))=True:=eq_true (by omega)
     have HCN:=Hd hcn;have HR0:Hid (CloR (zae L) R.length ks N0 (0*R.length) N0):=Hd (by rw[Nat.zero_mul]; exact CloR.zero hcn.1)
     have HBTR:=Hd hbt;have HBR:=Hd hbr;clear hcn hbt hbr;go_wp2_with fail
     go_loopw [11] (fun iv wl=>∃ (i:Nat) (N:List Nat),i≤R.length∧iv=.int .i64 i∧CloR (zae L) R.length ks N0 (i*R.length) N∧Bits wl w.heap.size (zaw R.length N)∧Below w.heap.size w wl) (fun iv _=>R.length - (intOf iv).toNat)
     case atStart=>exact⟨0,_,by omega,rfl,HR0.out,HBTR.out,HBR.out⟩
     case round =>
      obtain⟨i,N1,hi,rfl,hcr,hbt,hbi⟩:=hrel;by_cases hli:i<R.length
      ·have hlc4:((i:Int)<(R.length:Int))=True:=eq_true (by omega)
       have HCR:Hid (CloR (zae L) R.length ks N0 (i*R.length+0) N1):=Hd hcr;have HBTI:=Hd hbt;have HBII:=Hd hbi;clear hcr hbt hbi;go_wp2_with fail
       go_loopw [12] (fun kv wl=>∃ (k:Nat) (N:List Nat),k≤R.length∧kv=.int .i64 k∧CloR (zae L) R.length ks N0 (i*R.length+k) N∧Bits wl w.heap.size (zaw R.length N)∧Below w.heap.size w wl) (fun kv _=>R.length - (intOf kv).toNat)
       case atStart=>exact⟨0,_,by omega,rfl,HCR.out,HBTI.out,HBII.out⟩
       case round =>
        obtain⟨k,N,hk,rfl,hcr,hbt,hbk⟩:=hrel;by_cases hlk:k<R.length
        ·have hlc5:((k:Int)<(R.length:Int))=True:=eq_true (by omega)
         have hixi:=zbm (P:=Tryz.prog) (T:=156) (E:=4) Tryz.underlying156 (by kernel_rfl) w.heap.size R.length R.length i hli
         have hci:=Bits.at hbt (k:=i) (by rw[zco]; exact hli)
         rw[zc5] at hci;have HCK:=Hd hcr;have HBTK:=Hd hbt;have HBK:=Hd hbk;cases hii:N.contains i with
         | false =>
          rw[hii] at hci;have HN:=Hd (hcr.skip hlk (fun h=>by rw[List.contains_iff_mem.2 h] at hii; cases hii) HEL.out)
          clear hcr hbt hbk hii;go_wp2
          go_roundw
          case rel=>exact⟨k+1,_,by omega,by go_num,HN.out,HBTK.out,HBK.out⟩
          case measure=>simp[intOf]; omega
         | true =>
          rw[hii] at hci;have HII:=Hd (List.contains_iff_mem.1 hii);have K:=Hd (KR.out _ hbk i k hli hlk);have HZ:=Hd hbk.size;cases hnb:zda L i k with
          | false =>
           rw[hnb] at K;have HN:=Hd (hcr.skip hlk (fun _ h=>by have:=(zh0 h).2; rw[hnb] at this; cases this) HEL.out)
           clear hcr hbt hbk hii hnb;go_wp2_with fail
           refine K.out.mono ?_
           rintro e w9 ⟨rfl,hb9⟩;have HB9:=Hd (HBK.out.trans (hb9.mono HZ.out));have HBT9:=Hd (VRow.below0 HBTK.out hb9);clear hb9;go_wp2
           go_roundw
           case rel=>exact⟨k+1,_,by omega,by go_num,HN.out,HBT9.out,HB9.out⟩
           case measure=>simp[intOf]; omega
          | true =>
           rw[hnb] at K;have hke:k∈zae L i:=zh1 (by rw[HLN.out]; exact hlk) hnb
           have hixk:=zbm (P:=Tryz.prog) (T:=156) (E:=4) Tryz.underlying156 (by kernel_rfl) w.heap.size R.length R.length k hlk
           have HNX:Hid (∃ N',CloR (zae L) R.length ks N0 (i*R.length+(k+1)) N'∧zaw R.length (N++[k])=zaw R.length N'):=Hd (by
            by_cases hkN:k∈N
            ·exact⟨N,hcr.skip hlk (fun _ _=>hkN) HEL.out,zod hkN⟩
            ·exact⟨N++[k],hcr.add hlk HII.out hke hkN HEL.out,rfl⟩)
           obtain⟨N',hN',hNe⟩:=HNX.out;have HN':=Hd hN';have HNE:=Hd hNe;clear hcr hbt hbk hii hnb hke HNX hN' hNe;go_wp2_with fail
           refine K.out.mono ?_
           rintro e w9 ⟨rfl,hb9⟩;have HB9:=Hd (HBK.out.trans (hb9.mono HZ.out));have hbt9:=VRow.below0 HBTK.out hb9;have hfz:∀ j,w9.frozen? ⟨w.heap.size,j,none⟩=false:=VRow.frozen hbt9;have hck:=Bits.at hbt9 (k:=k) (by rw[zco]; exact hlk)
           have hbp:=Bits.put hbt9 k true;rw[zed,HNE.out] at hbp;have HBP:=Hd hbp;clear hb9 hbt9 hbp;go_wp2
           go_roundw
           case rel=>exact⟨k+1,_,by omega,by go_num,HN'.out,HBP.out,HB9.out.setCell (p:=⟨w.heap.size,k,none⟩) (Nat.le_refl _) _⟩
           case measure=>simp[intOf]; omega
        ·obtain rfl:k=R.length:=by omega
         have hlc5:((R.length:Int)<(R.length:Int))=False:=eq_false (by omega)
         have HN:Hid (CloR (zae L) R.length ks N0 ((i+1)*R.length) N):=Hd (by rw[Nat.succ_mul]; exact hcr)
         have HBTK:=Hd hbt;have HBK:=Hd hbk;clear hcr hbt hbk;go_wp2
         go_roundw
         case rel=>exact⟨i+1,_,by omega,by go_num,HN.out,HBTK.out,HBK.out⟩
         case measure=>simp[intOf]; omega
      ·obtain rfl:i=R.length:=by omega
       have hlc4:((R.length:Int)<(R.length:Int))=False:=eq_false (by omega)
       have HN:=Hd (HCN.out.turn hcr HEL.out);have HBTK:=Hd hbt;have HBK:=Hd hbi;clear hcr hbt hbi;go_wp2
       go_roundw
       case rel=>exact⟨r+1,_,by omega,by go_num,HN.out,HBTK.out,HBK.out⟩
       case measure=>simp[intOf]; omega
    ·obtain rfl:r=R.length:=by omega
     have hlc3:((R.length:Int)<(R.length:Int))=False:=eq_false (by omega)
     have HF:Hid (∀ k,k∈N0↔Reach (zae L) ks k):=Hd (fun k=>hcn.stop k);have HBT:=Hd hbt;have HBR:=Hd hbr;clear hcn hbt hbr;go_wp2
     go_ret2
     exact⟨Or.inl ⟨ks,N0,HP2.out,HF.out,rfl,HBT.out⟩,HBR.out⟩
end Go.Proofs.YtgjialbmlhbngaaGreatDoor

namespace Go.Proofs.YtgjialbmlhbngaaGreatDoor
open Go Go.RowKit Go.Kf
def zyv (l:List (List UInt8)) (many most:Nat):Prop:=l.length≤many∧(∀ s∈l,s.length≤most)∧(l.map List.length).sum≤most
open Go.Sort Go.Proofs
def ShortR (r:RuleL):Prop:=r.out.length≤100∧r.kind.length≤60∧r.word.length≤150∧zyv r.ins 12 300
theorem zbi {w:World} {base:Nat} {e:TypeId} {s:Nat} {v:Value} {n:Nat} {xs:List Value} (h:w.ownsRow base e s v n xs):zfh v:=by
 rcases h.2 with ⟨rfl,-⟩ |⟨g,cap,cur,rfl,-,-,hcn,-⟩
 ·intro a n c h;cases h;exact Nat.le_refl _
 ·intro a n c h;cases h;exact hcn
theorem tyRules:SliceTyK Tryz.prog 22 35 (.agg #[str [],str [],str [], .slice none 0 0]) 4 72:=⟨Tryz.underlying22,by kernel_rfl,rfl,by decide⟩
def OwnAt (B:Nat) (w:World) (v:Value) (R:List RV):Prop :=
 w.ownsRow B 35 4 v R.length (R.map zay).flatten∧∀ x∈R,w.ownsRow B 9 1 x.2 x.1.ins.length (x.1.ins.map str)∧∀ k,x.2.ownBlock=some k→v.ownBlock≠some k
theorem OwnAt.rules {B:Nat} {w:World} {v:Value} {R:List RV} (h:OwnAt B w v R):RulesAt w v R∧zfh v :=
 ⟨⟨zcb h.1 (List.length_map _) (fun r hr=>by obtain⟨x,-,rfl⟩:=List.mem_map.1 hr; rfl),fun x hx=>⟨zac (h.2 x hx).1,zbi (h.2 x hx).1⟩⟩,zbi h.1⟩
theorem OwnAt.fr {B:Nat} {w w':World} {v:Value} {R:List RV} (h:OwnAt B w v R) (hb:Below w.heap.size w w'):OwnAt B w' v R :=
 ⟨zaf (S:=fun _=>False) h.1 (Fr.of_below hb) (fun k hk=>⟨(h.1.lt k hk).2,id⟩),fun x hx=>⟨zaf (S:=fun _=>False) (h.2 x hx).1 (Fr.of_below hb) (fun k hk=>⟨((h.2 x hx).1.lt k hk).2,id⟩),(h.2 x hx).2⟩⟩
theorem zlt {w:World} {v:Value} {R:List RV} (h:∃ B,OwnAt B w v R):RulesAt w v R∧zfh v:=by
 obtain⟨B,h⟩:=h;exact h.rules
theorem zqa {E:Nat→List Nat} {a b:List Nat} (h:∀ k,k∈a↔k∈b) (k:Nat):Reach E a k↔Reach E b k:=by
 constructor
 ·intro hr
  induction hr with
  | base hk=>exact .base ((h _).1 hk)
  | step _ hk ih=>exact .step ih hk
 ·intro hr
  induction hr with
  | base hk=>exact .base ((h _).2 hk)
  | step _ hk ih=>exact .step ih hk
theorem zqb {l:List RuleL} {outs:List (List UInt8)} {a b:List Nat} (hr:Right l) (ha:PlacesAt l outs a) (hb:PlacesAt l outs b) (k:Nat):k∈a↔k∈b:=by
 constructor
 ·intro hk;have hkl:=ha.1 k hk;exact (hb.mem hr hkl).2 ((ha.mem hr hkl).1 hk)
 ·intro hk;have hkl:=hb.1 k hk;exact (ha.mem hr hkl).2 ((hb.mem hr hkl).1 hk)
abbrev Told:=Nat×List UInt8
abbrev Look:=List UInt8→Option (List UInt8)
def zee (r:RuleL) (xs:List Told):Told:=match xs.find? (fun x=>decide (x.1≠0)) with
 | some x=>x
 | none=>zcc r.kind r.word (xs.map Prod.snd)
def zhb (T:Look) (p:List UInt8):Told:=match T p with
 | some b=>(0,b)
 | none=>(6,[])
def ziw (l:List RuleL) (T:Look):Nat→List UInt8→Told
 | 0,_=>(0,[])
 | f+1,p=>match l.find? (fun r=>r.out==p) with
  | some r=>zee r (r.ins.map (ziw l T f))
  | none=>zhb T p
def zbg (l:List RuleL) (T:Look) (p:List UInt8):Told:=ziw l T (l.length+2) p
theorem zyw {l:List RuleL} (hr:Right l) {i:Nat} (hi:i<l.length):l.find? (fun r=>r.out==l[i].out)=some l[i]:=by
 rw[List.find?_eq_some_iff_getElem];refine⟨by simp,i,hi,rfl,fun j hj=>?_⟩
 have:l[j].out≠l[i].out:=fun e=>by
  have:=hr.outs (by omega) hi e
  omega
 simpa using this
theorem zs9 {l:List RuleL} {p:List UInt8} (h:p∉l.map RuleL.out):l.find? (fun r=>r.out==p)=none:=by
 rw[List.find?_eq_none];intro r hr e;exact h (List.mem_map.2 ⟨r,hr,by simpa using e⟩)
theorem zef (l:List RuleL) (p:List UInt8):(∃ i,∃ h:i<l.length,l[i].out=p)∨p∉l.map RuleL.out:=by
 by_cases h:p∈l.map RuleL.out
 ·obtain⟨r,hr,e⟩:=List.mem_map.1 h;obtain⟨i,hi,rfl⟩:=List.mem_iff_getElem.1 hr;exact Or.inl ⟨i,hi,e⟩
 ·exact Or.inr h
theorem zbv {E:Nat→List Nat} {isB:Nat→Bool} {n:Nat} {o:List Nat} (h:zau E isB n=some o):Outs E isB n o∧∀ i,i<n→isB i=true→i∈o:=by
 unfold zau at h;obtain⟨h1,h2⟩:=(zfl (zcu isB n) [] (zm2 E isB n)).1 o h;refine⟨h1,fun i hi hb=>Classical.byContradiction (fun hm=>?_)⟩
 have hs:=zc6 (i::o) ((List.range n).filter isB) (List.nodup_cons.2 ⟨hm,h1.nd⟩) (fun k hk=>by
  rcases List.mem_cons.1 hk with rfl | hk
  ·exact List.mem_filter.2 ⟨List.mem_range.2 hi,hb⟩
  ·have:=h1.lt k hk;exact List.mem_filter.2 ⟨List.mem_range.2 this.1,this.2⟩)
 have hm:((List.range n).filter isB).length=zcu isB n:=rfl;simp only[List.length_cons,List.length_nil,Nat.zero_add] at hs h2;omega
theorem zeg {l:List RuleL} {T:Look} {p:List UInt8} (h:p∉l.map RuleL.out) (f:Nat):ziw l T (f+1) p=zhb T p:=by
 unfold ziw;rw[zs9 h]
theorem zh2 {l:List RuleL} {T:Look} (hr:Right l) {i:Nat} (hi:i<l.length) (f:Nat):ziw l T (f+1) l[i].out=zee l[i] (l[i].ins.map (ziw l T f)):=by
 conv=>lhs; unfold ziw
 rw[zyw hr hi]
theorem zqc {l:List RuleL} {T:Look} {isB:Nat→Bool} {o:List Nat} (hr:Right l) (ho:Outs (zae l) isB l.length o) :
  ∀ (t:Nat) (ht:t<o.length) (hn:o[t]<l.length) (f f':Nat),t+2≤f→t+2≤f'→ziw l T f l[o[t]].out=ziw l T f' l[o[t]].out:=by
 intro t
 induction t using Nat.strongRecOn with
 | ind t ih =>
  intro ht hn f f' hf hf';obtain⟨g,rfl⟩:∃ g,f=g+1:=⟨f - 1,by omega⟩
  obtain⟨g',rfl⟩:∃ g,f'=g+1:=⟨f' - 1,by omega⟩
  rw[zh2 hr hn,zh2 hr hn]
  congr 1
  refine List.map_congr_left (fun s hs=>?_)
  rcases zef l s with ⟨j,hj,rfl⟩ | hno
  ·have hje:j∈zae l o[t]:=(zcd hn).2 ⟨hj,hs⟩;obtain⟨t',ht',e⟩:=List.mem_iff_getElem.1 (ho.back t ht j hje);rw[List.length_take] at ht';rw[List.getElem_take] at e;subst e;exact ih t' (by omega) (by omega) hj g g' (by omega) (by omega)
  ·obtain⟨k,rfl⟩:∃ k,g=k+1:=⟨g - 1,by omega⟩
   obtain⟨k',rfl⟩:∃ k,g'=k+1:=⟨g' - 1,by omega⟩
   rw[zeg hno,zeg hno]
theorem zf0 {l:List RuleL} {T:Look} {p:List UInt8} (h:p∉l.map RuleL.out):zbg l T p=zhb T p:=zeg h _
theorem zyx {E:Nat→List Nat} {isB:Nat→Bool} {n:Nat} {o:List Nat} (h:Outs E isB n o):o.length≤n:=zeo n o h.nd (fun k hk=>(h.lt k hk).1)
theorem zh3 {l:List RuleL} {T:Look} {isB:Nat→Bool} {o:List Nat} (hr:Right l) (ho:Outs (zae l) isB l.length o) {i:Nat} (hi:i<l.length) (hm:i∈o):zbg l T l[i].out=zee l[i] (l[i].ins.map (zbg l T)):=by
 unfold zbg;rw[zh2 hr hi]
 congr 1
 refine List.map_congr_left (fun s hs=>?_)
 rcases zef l s with ⟨j,hj,rfl⟩ | hno
 ·obtain⟨t,ht,e⟩:=List.mem_iff_getElem.1 hm;subst e;have hje:j∈zae l o[t]:=(zcd hi).2 ⟨hj,hs⟩;obtain⟨t',ht',e⟩:=List.mem_iff_getElem.1 (ho.back t ht j hje);rw[List.length_take] at ht';rw[List.getElem_take] at e;subst e;have:=zyx ho;exact zqc hr ho t' (by omega) hj _ _ (by omega) (by omega)
 ·rw[zeg hno,zeg hno]
theorem zv7 (k w:List UInt8) (ins:List (List UInt8)):(zcc k w ins).2.length≤2000:=by
 unfold zcc
 split
 ·split
  ·simp
  ·split
   ·simp
   ·rename_i h; exact Nat.le_of_not_lt h
 ·simp
theorem zv8 (k w:List UInt8) (ins:List (List UInt8)):(zcc k w ins).1≠0→(zcc k w ins).2=[]:=by
 unfold zcc
 split
 ·split
  ·intro h; exact absurd rfl h
  ·split
   ·intro _; rfl
   ·intro h; exact absurd rfl h
 ·intro _; rfl
theorem zqd (k w:List UInt8) (n:Nat):za1 k w n=0∨za1 k w n=3∨za1 k w n=5∨za1 k w n=10:=by
 unfold za1
 split
 ·omega
 ·split
  ·split <;> omega
  ·omega
theorem zta (k w:List UInt8) (ins:List (List UInt8)):(zcc k w ins).1=0∨(zcc k w ins).1=3∨(zcc k w ins).1=5∨(zcc k w ins).1=10:=by
 unfold zcc
 split
 ·split
  ·exact Or.inl rfl
  ·split
   ·exact Or.inr (Or.inr (Or.inr rfl))
   ·exact Or.inl rfl
 ·exact zqd _ _ _
structure ToldOk (x:Told):Prop where
 len:x.2.length≤2000
 err:x.1≠0→x.2=[]
 code:x.1=0∨x.1=3∨x.1=5∨x.1=6∨x.1=10
theorem ztb (k w:List UInt8) (ins:List (List UInt8)):ToldOk (zcc k w ins):=⟨zv7 _ _ _,zv8 _ _ _,by have:=zta k w ins; omega⟩
theorem zv9 {r:RuleL} {xs:List Told} (h:∀ x∈xs,ToldOk x):ToldOk (zee r xs):=by
 unfold zee
 split
 ·rename_i x hx
  exact h x (List.mem_of_find?_eq_some hx)
 ·exact ztb _ _ _
theorem zqe {T:Look} (hT:∀ p b,T p=some b→b.length≤2000) (p:List UInt8):ToldOk (zhb T p):=by
 unfold zhb
 split
 ·rename_i b hb
  exact⟨hT p b hb,fun h=>absurd rfl h,Or.inl rfl⟩
 ·exact⟨by simp,fun _=>rfl,by simp⟩
theorem zir {l:List RuleL} {T:Look} (hT:∀ p b,T p=some b→b.length≤2000):∀ (f:Nat) (p:List UInt8),ToldOk (ziw l T f p)
 | 0,_=>⟨by simp[ziw],fun h=>absurd rfl h,Or.inl rfl⟩
 | f+1,p=>by
  unfold ziw
  split
  ·exact zv9 (fun x hx=>by
    obtain⟨s,-,rfl⟩:=List.mem_map.1 hx;exact zir hT f s)
  ·exact zqe hT p
theorem zgk {l:List RuleL} {T:Look} (hT:∀ p b,T p=some b→b.length≤2000) (p:List UInt8):ToldOk (zbg l T p):=zir hT _ p
theorem zlu {r:RuleL} {xs:List Told} {i:Nat} (hi:i<xs.length) (hb:xs[i].1≠0) (ho:∀ j (hj:j<xs.length),j<i→xs[j].1=0):zee r xs=xs[i]:=by
 unfold zee;have:xs.find? (fun x=>decide (x.1≠0))=some xs[i]:=by
  rw[List.find?_eq_some_iff_getElem];exact⟨by simpa using hb,i,hi,rfl,fun j hj=>by simpa using ho j (by omega) hj⟩
 rw[this]
theorem zgl {r:RuleL} {xs:List Told} (h:∀ x∈xs,x.1=0):zee r xs=zcc r.kind r.word (xs.map Prod.snd):=by
 unfold zee;have:xs.find? (fun x=>decide (x.1≠0))=none:=by
  rw[List.find?_eq_none];intro x hx;simpa using h x hx
 rw[this]
end Go.Proofs.YtgjialbmlhbngaaGreatDoor
