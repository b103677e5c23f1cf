/-
  The reference's KeyOf, of longer texts. The reference's build: Run, with no cache.
-/
import Derived.Test.YtgjialbmlhbngaaGreatDoorPkZ
import Derived.Deep.RegionHeld3
import Derived.Test.YtgjialbmlhbngaaGreatDoorRbA
import Derived.Test.YtgjialbmlhbngaaGreatDoorPkS
import Derived.Test.YtgjialbmlhbngaaGreatDoorBdC

set_option maxRecDepth 100000
namespace Go.Proofs.YtgjialbmlhbngaaGreatDoor
open Go Go.RowKit Go.Kf
theorem zt0 {w w':World} {b o:Nat} {v:Value} (hb:Below w.heap.size w w') (h:w.cell? ⟨b,o,none⟩=some v):w'.cell? ⟨b,o,none⟩=some v :=
 (hb.cell (p:=⟨b,o,none⟩) (zad h)).trans h
set_option maxHeartbeats 1000000 in
theorem zqu (kd wd:List UInt8) (v:Value) (l:List (List UInt8)) (w:World) (hr:Reads w v (l.map str))
  (hk:kd.length≤1000) (hw:wd.length≤1000) (hl:∀ s∈l,s.length≤4000) (hn:l.length≤1000) :
  Calls Tryz.prog 102 #[str kd,str wd,v] w fun e w'=>e=.returned (str (keyL kd wd l))∧Below w.heap.size w w':=by
 obtain⟨a,cap,rfl,-,-⟩:=id hr;simp only[List.length_map] at *;have HR:=Hd hr;have HL:=Hd hl;have hck:=zdw hk;have hcw:=zdw hw;clear hr hl;go_enter Tryz.func102,Tryz.ntmps102
 go_wp2_with fail
 refine (zcx kd.length _ (by omega)).mono ?_
 rintro e w1 ⟨rfl,b1⟩;go_wp2_with fail
 refine (zcx wd.length _ (by omega)).mono ?_
 rintro e w2 ⟨rfl,hb2⟩;have b2:=b1.trans (hb2.mono b1.size);clear hb2 b1;go_wp2_with fail
 go_loopw [7,8] (fun t i wl=>∃ j:Nat,j≤l.length∧i=.int .i64 j∧t=str (keyL kd wd (l.take j))∧Below w.heap.size w wl) (fun _ i _=>l.length - (intOf i).toNat)
 case atStart=>exact⟨0,by omega,rfl,by simp[zar,keyL,cnt],b2⟩
 case round =>
  obtain⟨j,hj,rfl,rfl,hbj⟩:=hrel;have hsj:(keyL kd wd (l.take j)).length≤5000000:=zkk hk hw (fun s hs=>HL.out s (List.mem_of_mem_take hs)) (by simp; omega)
  by_cases hlt:j<l.length
  ·obtain⟨b,o,hix,hce⟩:=(HR.out.below0 hbj).at (P:=Tryz.prog) Tryz.underlying33 (by kernel_rfl) j (by simpa using hlt)
   simp only[List.getElem_map] at hce;have hcj:=zev (HL.out l[j] (List.getElem_mem hlt));have hsl:=HL.out l[j] (List.getElem_mem hlt);have HE:=Hd (show keyL kd wd (l.take (j+1))=keyL kd wd (l.take j)++cnt l[j] by rw[List.take_succ_eq_append_getElem hlt,znu])
   generalize keyL kd wd (l.take j)=key at *;generalize l[j]=s at *;have hz1:¬ 9223372036854775807<key.length+(Lib.decDigits s.length).length:=by omega
   have hz2:¬ 9223372036854775807<key.length+(Lib.decDigits s.length).length+1:=by omega
   have hz3:¬ 9223372036854775807<key.length+(Lib.decDigits s.length).length+1+s.length:=by omega
   go_wp2_with fail
   go_region_held3 (fun w'=>w'.cell? ⟨b,o,none⟩=some (str s)∧Below w.heap.size w w')
    (first | exact⟨zt0 hb3 hce,(Below.drew hbj).trans (hb3.mono hbj.size)⟩ | exact⟨hce,Below.drew hbj⟩)
    (first | (go_at_call 114; refine (zcx s.length _ (by omega)).mono ?_; rintro e w3 ⟨rfl,hb3⟩))
   rename_i hheld
   have HW:=Hd hheld.2;clear hheld hb3 hbj;go_wp2
   go_roundw
   case rel=>exact⟨j+1,by omega,by go_num,by rw[HE.out]; simp[zar,cnt],HW.out⟩
   case measure=>simp[intOf]; omega
  ·obtain rfl:j=l.length:=by omega
   rw[List.take_length];go_wp2
   go_ret
   exact⟨rfl,hbj⟩
open Go.Sort Go.Proofs
def RBx.foot (X:RBx) (q:Nat):Prop:=q=X.s∨q=X.o∨q=X.h∨q=X.y
structure REnv (R:List RV) (v:Value) (m L:List Ent) (w:World):Prop where
 rules:ReadsK 4 w v (R.map zay)
 ins:∀ x∈R,Reads w x.2 (x.1.ins.map str)
 tw:Tw m L
 short:∀ r∈R.map Prod.fst,r.out.length≤1000000∧r.kind.length≤1000∧r.word.length≤1000∧(∀ s∈r.ins,s.length≤1000000)∧r.ins.length≤1000
 many:R.length≤1000
theorem REnv.below {R:List RV} {v:Value} {m L:List Ent} {w w':World} (h:REnv R v m L w) (hb:Below w.heap.size w w'):REnv R v m L w' :=
 ⟨zao h.rules (fun r hr=>by obtain⟨x,-,rfl⟩:=List.mem_map.1 hr; simp[zay]) hb,fun x hx=>(h.ins x hx).below0 hb,h.tw,h.short,h.many⟩
theorem zxe {P:List Nat} {i:Int} (h:i<0):∀ (k:Nat),k∈P→i≠(k:Int):=fun k _ e=>by omega
end Go.Proofs.YtgjialbmlhbngaaGreatDoor
