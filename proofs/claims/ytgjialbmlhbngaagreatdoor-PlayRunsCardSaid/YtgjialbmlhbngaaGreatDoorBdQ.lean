/-
  BuildSame, in plain Lean: in whatever order rules run, with a cache or none, results are what is wanted; none of it is made twice.
-/
import Derived.Test.YtgjialbmlhbngaaGreatDoorBdE
import Derived.Test.YtgjialbmlhbngaaGreatDoorPkO

namespace Go.Proofs.YtgjialbmlhbngaaGreatDoor
open Go Go.RowKit Go.Kf Go.Sort Go.Proofs
theorem of_out {S:Nat→Addr} {l:List RuleL} {T:Look} {B:Nat} {e:Ending} {w':World} {o:List Nat} (ho:Ord l (List.range l.length) o) {i:Nat} (hi:i<l.length) (h:zwp S l T (l.getD i noR).out B e w'):e=.returned (.tuple #[str (zbg l T (l.getD i noR).out).2,errN S (zbg l T (l.getD i noR).out).1]):=by
 rcases h with ⟨hr,⟨k,N,hpl,hN,⟨o2,ho2,rfl⟩ |⟨hno,-⟩⟩ |⟨hno,-⟩⟩ |⟨T',x,-,hbad⟩
 ·rfl
 ·exfalso
  obtain⟨r,hrk⟩:=ho.ok.rank;have hlt:∀ q∈N,q<l.length:=fun q hq=>((hN q).1 hq).lt (fun a b hb=>zb1 _ a b hb) (fun q hq=>(hpl.1 q hq));have hm:∀ q,q∈zbt l.length N↔q∈N:=fun q=>zdp hlt;obtain⟨o2,ho2⟩:=zk2 (E:=zae l) (isB:=fun q=>(zbt l.length N).contains q) (n:=l.length) r (fun q hq hB j hj=>⟨zb1 _ q j hj,List.contains_iff_mem.2 ((hm j).2 ((hN j).2 (.step ((hN q).1 ((hm q).1 (List.contains_iff_mem.1 hB))) hj))),hrk q (List.mem_range.2 hq) j hj⟩);rw[ho2] at hno;cases hno
 ·exfalso
  rw[zat hi] at hno;exact hno (List.mem_map.2 ⟨_,List.getElem_mem hi,rfl⟩)
 ·exact absurd ho.ok.right hbad.wrong
end Go.Proofs.YtgjialbmlhbngaaGreatDoor
