/-
  The reference's build: Many; Why of the program's build. New's error and the reference's fault: number and place. A build beside the reference's, with one cache each: what runs make of them is one thing.
-/
import Derived.Test.YtgjialbmlhbngaaGreatDoorRbA
import Derived.Test.YtgjialbmlhbngaaGreatDoorBdC
import Derived.Test.YtgjialbmlhbngaaGreatDoorRbE
import Derived.Test.YtgjialbmlhbngaaGreatDoorPkO
import Derived.Test.YtgjialbmlhbngaaGreatDoorRbJ
import Derived.Test.YtgjialbmlhbngaaGreatDoorBdH

set_option maxRecDepth 100000
namespace Go.Proofs.YtgjialbmlhbngaaGreatDoor
open Go Go.RowKit Go.Kf Go.Sort Go.Proofs
def zho (n:Nat) (P:List Nat) (st:Nat→St) (s:List UInt8) (b:Bool):Nat:=((List.range n).filter fun i=>(rSt P st i==s)&&((st i).hit==b)).length
theorem zt3 (i:Nat) (P:List Nat) (st:Nat→St) (s:List UInt8) (b:Bool):zho (i+1) P st s b=zho i P st s b+if ((rSt P st i==s)&&((st i).hit==b))=true then 1 else 0:=by
 unfold zho;rw[List.range_succ,List.filter_append,List.length_append]
 congr 1
 by_cases h:((rSt P st i==s)&&((st i).hit==b))=true
 ·simp[h]
 ·simp[h]
theorem zzr (i:Nat) (P:List Nat) (st:Nat→St) (s:List UInt8) (b:Bool):zho i P st s b≤i:=by
 have:=List.length_filter_le (fun i=>(rSt P st i==s)&&((st i).hit==b)) (List.range i);simpa[zho] using this
set_option maxHeartbeats 1000000 in
theorem zxg (X:RBx) (n:Nat) (v lv:Value) (L:List Ent) (P:List Nat) (cv:Value) (base:Nat) (w:World) (st:Nat→St) (h:RBAt X n v lv L P cv base w st) (hv:∃ a c,v=.slice a n c) (hn:n≤1000) (s:List UInt8) (b:Bool) :
  Calls Tryz.prog 110 #[ptrV X.b,str s, .bool b] w fun e w'=>e=.returned (intE (zho n P st s b))∧w'=w:=by
 obtain⟨a,c,rfl⟩:=hv;have hc1:w.cell? ⟨X.b,1,none⟩=some (.slice a n c):=h.box.cell rfl;have hc2:w.cell? ⟨X.b,2,none⟩=some (slN X.s n):=h.box.cell rfl;have hc4:w.cell? ⟨X.b,4,none⟩=some (slN X.h n):=h.box.cell rfl;have HIX:=Hd (fun k (hk:k<n)=>zbm (P:=Tryz.prog) (T:=33) (E:=9) Tryz.underlying33 (by kernel_rfl) X.s n n k hk)
 have HIH:=Hd (fun k (hk:k<n)=>zbm (P:=Tryz.prog) (T:=156) (E:=4) Tryz.underlying156 (by kernel_rfl) X.h n n k hk)
 have HCS:=Hd (fun k (hk:k<n)=>h.state.cell (k:=k) (v:=str (rSt P st k)) (by rw[List.getElem?_map,List.getElem?_range hk]; rfl))
 have HCH:=Hd (fun k (hk:k<n)=>h.hit.cell (k:=k) (v:=.bool (st k).hit) (by rw[List.getElem?_map,List.getElem?_range hk]; rfl))
 clear h;go_enter Tryz.func110,Tryz.ntmps110
 go_wp2_with fail
 go_loop [7,8] (fun nv iv=>∃ i:Nat,i≤n∧iv=.int .i64 i∧nv=intE (zho i P st s b)) (fun _ iv=>n - (intOf iv).toNat)
 case atStart=>exact⟨0,by omega,rfl,rfl⟩
 case round =>
  obtain⟨i,hi,rfl,rfl⟩:=hrel;have hml:=zzr i P st s b;have HS:Hid (zho (i+1) P st s b=zho i P st s b+if ((rSt P st i==s)&&((st i).hit==b))=true then 1 else 0):=Hd (zt3 i P st s b)
  by_cases hlt:i<n
  ·have hlc:((i:Int)<(n:Int))=True:=eq_true (by omega)
   have hix:=HIX.out i hlt;have hih:=HIH.out i hlt;have hcs:=HCS.out i hlt;have hch:=HCH.out i hlt;generalize rSt P st i=x at *;generalize (st i).hit=y at *;generalize zho i P st s b=q at *;cases he:x==s with
   | false =>
    have hbf:=beqF he;rw[he] at HS;have HS2:=Hd HS.out;clear HS;go_wp2
    go_round
    case rel=>exact⟨i+1,by omega,by go_num,by rw[HS2.out]; simp⟩
    case measure=>simp[intOf]; omega
   | true =>
    have hbt:=beqT he;rw[he] at HS;have HS2:=Hd HS.out;clear HS;cases y <;> cases b
    all_goals
     go_wp2
     go_round
     case rel=>exact⟨i+1,by omega,by go_num,by rw[HS2.out]; simp⟩
     case measure=>simp[intOf]; omega
  ·obtain rfl:i=n:=by omega
   have hlc:((i:Int)<(i:Int))=False:=eq_false (by omega)
   go_wp2
   go_ret
   exact⟨rfl,rfl⟩
theorem GoRel.one {l:List RuleL} {P:List Nat} {T:Look} {c c1 c2:Option CS} {st a b:Nat→St} {k:Nat} {x y:Bool} (hP:PartOk l P) (h1:GoRel l P T c st k x c1 a) (h2:GoRel l P T c st k y c2 b):a=b∧c1=c2∧x=y:=by
 cases h1 with
 | gone g1 f1=>cases h2 with
  | gone g2 f2=>exact⟨f1.same hP f2,rfl,rfl⟩
  | hit i2 m2=>exact (zf6 g1 i2).elim
  | run i2 m2 r2=>exact (zf6 g1 i2).elim
  | bad i2 m2 r2 f2=>exact (zf6 g1 i2).elim
 | hit i1 m1=>cases h2 with
  | gone g2 f2=>exact (zf6 g2 i1).elim
  | hit i2 m2 =>
   obtain rfl:=zbn (i1.symm.trans i2);rw[m1] at m2;cases m2
   exact⟨rfl,rfl,rfl⟩
  | run i2 m2 r2 =>
   obtain rfl:=zbn (i1.symm.trans i2);rw[m2 _ rfl] at m1;cases m1
  | bad i2 m2 r2 f2 =>
   obtain rfl:=zbn (i1.symm.trans i2);rw[m2 _ rfl] at m1;cases m1
 | run i1 m1 r1=>cases h2 with
  | gone g2 f2=>exact (zf6 g2 i1).elim
  | hit i2 m2 =>
   obtain rfl:=zbn (i1.symm.trans i2);rw[m1 _ rfl] at m2;cases m2
  | run i2 m2 r2 =>
   obtain rfl:=zbn (i1.symm.trans i2);rw[r1] at r2;cases r2
   exact⟨rfl,rfl,rfl⟩
  | bad i2 m2 r2 f2 =>
   obtain rfl:=zbn (i1.symm.trans i2);rw[r1] at r2;cases r2
 | bad i1 m1 r1 f1=>cases h2 with
  | gone g2 f2=>exact (zf6 g2 i1).elim
  | hit i2 m2 =>
   obtain rfl:=zbn (i1.symm.trans i2);rw[m1 _ rfl] at m2;cases m2
  | run i2 m2 r2 =>
   obtain rfl:=zbn (i1.symm.trans i2);rw[r1] at r2;cases r2
  | bad i2 m2 r2 f2 =>
   obtain rfl:=zbn (i1.symm.trans i2);rw[r1] at r2;cases r2
   exact⟨f1.same hP f2,rfl,rfl⟩
theorem AllRel.one {l:List RuleL} {P:List Nat} {T:Look} (hP:PartOk l P) {c:Option CS} {st:Nat→St} {js:List Nat} {c1:Option CS} {a:Nat→St} (h1:AllRel l P T c st js c1 a):∀ {ks:List Nat} {c2:Option CS} {b:Nat→St},AllRel l P T c st ks c2 b→js=ks∧a=b∧c1=c2:=by
 induction h1 with
 | stop r1 =>
  intro ks c2 b h2;cases h2 with
  | stop r2=>exact⟨rfl,rfl,rfl⟩
  | more r2 g2 a2=>rw[r1] at r2; cases r2
 | more r1 g1 a1 ih =>
  intro ks c2 b h2;cases h2 with
  | stop r2=>rw[r2] at r1; cases r1
  | more r2 g2 a2 =>
   rw[r1] at r2;cases r2
   obtain⟨rfl,rfl,-⟩:=g1.one hP g2;obtain⟨rfl,rfl,rfl⟩:=ih a2;exact⟨rfl,rfl,rfl⟩
end Go.Proofs.YtgjialbmlhbngaaGreatDoor
