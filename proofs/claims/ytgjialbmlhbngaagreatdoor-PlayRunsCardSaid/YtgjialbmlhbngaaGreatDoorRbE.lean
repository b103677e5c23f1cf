/-
  Builds with no cache: what runs make of them is one thing; New's error and the reference's fault. OwnTexts: what it gives is roomy. A slice that is nil, or has an address, as an argument.
-/
import Derived.Test.YtgjialbmlhbngaaGreatDoorRbD
import Derived.Test.YtgjialbmlhbngaaGreatDoorBdK
import Derived.Test.YtgjialbmlhbngaaGreatDoorBdD
import Derived.Test.YtgjialbmlhbngaaGreatDoorPkT
import Derived.Test.YtgjialbmlhbngaaGreatDoorPkI
import Derived.Test.YtgjialbmlhbngaaGreatDoorBdB
import Derived.Test.YtgjialbmlhbngaaGreatDoorPkE
import Derived.Test.YtgjialbmlhbngaaGreatDoorPkC
import Derived.Test.YtgjialbmlhbngaaGreatDoorPkB
import Derived.Test.YtgjialbmlhbngaaGreatDoorPkU
import Derived.ChangeSlices

namespace Go.Proofs.YtgjialbmlhbngaaGreatDoor
open Go Go.RowKit Go.Kf Go.Sort Go.Proofs
theorem zbn {a b:List (List UInt8)} (h:a.map some=b.map some):a=b:=by
 induction a generalizing b with
 | nil=>cases b with
  | nil=>rfl
  | cons y b=>simp at h
 | cons x a ih=>cases b with
  | nil=>simp at h
  | cons y b =>
   simp only[List.map_cons,List.cons.injEq,Option.some.injEq] at h;rw[h.1,ih h.2]
theorem zf6 {l:List RuleL} {P:List Nat} {T:Look} {st:Nat→St} {k:Nat} {ins:List (List UInt8)} (h:∃ s∈(l.getD k noR).ins,inP l P T st s=none) (h2:(l.getD k noR).ins.map (inP l P T st)=ins.map some):False:=by
 obtain⟨s,hs,h3⟩:=h;have:none∈ins.map some:=by
  rw[← h2,← h3];exact List.mem_map.2 ⟨s,hs,rfl⟩
 obtain⟨b,-,hb⟩:=List.mem_map.1 this;cases hb
section
variable {S : Nat → Addr} {l : List RuleL} {P : List Nat} {m : List Ent} {D : BPl} {w : World} {st : Nat → St}
theorem zzo (h:BAt S l P m D w st) (hi:BInv l P (fun p=>zaa p m) st) (i:Nat) :
  Calls Tryz.prog 73 #[ptrV D.b, .int .i64 (i:Int)] w fun e w'=>e=.returned (str (rSt P st i))∧Below w.heap.size w w':=by
 by_cases hP:i∈P
 ·have h1:=zsd w h hP (hi.one i hP)
  rwa [show rSt P st i=zak (st i).state by simp[rSt,hP]]
 ·have h1:=znj w h (i:=(i:Int)) (fun k hk e=>hP (by
   have:i=k:=by omega
   exact this▸hk))
  rwa [show rSt P st i=[] by simp[rSt,hP]]
end
end Go.Proofs.YtgjialbmlhbngaaGreatDoor

namespace Go.Proofs.YtgjialbmlhbngaaGreatDoor
open Go Go.ChangeShapes Go.WideShapes Go.ChangeAt Go.RowKit Go.Kf
theorem zzp {H:Type} {enc:TypeId×Value→H} {w:World} {v:Value} {fuel:Nat} {x:DataW H×List MemPlace} (h:DataW.trod enc Tryz.prog w 0 (fun _=>true) true fuel 53 [v]=some x):zx9 v:=by
 rcases Deep.open_slice Tryz.underlying53 h with ⟨h0,-⟩ |⟨a,len,cap,m,n,D,Pl,h0,-⟩
 ·simp only[List.cons.injEq,and_true] at h0;exact Or.inl h0
 ·simp only[List.cons.injEq,and_true] at h0;exact Or.inr ⟨_,_,_,h0⟩
end Go.Proofs.YtgjialbmlhbngaaGreatDoor
