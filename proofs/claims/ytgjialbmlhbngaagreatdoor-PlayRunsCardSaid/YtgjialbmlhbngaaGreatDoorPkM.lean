/-
  The reference's ActError of any command. The reference: RuleError, SheetFault.
-/
import Derived.Test.YtgjialbmlhbngaaGreatDoorPkL
import Derived.Test.YtgjialbmlhbngaaGreatDoorPkG
import Derived.Laws.CopyOwn

set_option maxRecDepth 100000
namespace Go.Proofs.YtgjialbmlhbngaaGreatDoor
open Go Go.RowKit Go.Kf Go.Sort Go.Proofs
theorem zcp {name:List UInt8} {k:Kd} (word:List UInt8) (n:Nat) (hk:zaa name zbe=some k) :
  ((n:Int)<k.least∧za1 name word n=3)∨(k.least≤(n:Int)∧k.most<(n:Int)∧za1 name word n=3)∨(k.least≤(n:Int)∧(n:Int)≤k.most∧zb8 k.word word=false∧za1 name word n=3) ∨
   (k.least≤(n:Int)∧(n:Int)≤k.most∧zb8 k.word word=true∧100<word.length∧za1 name word n=10)∨(k.least≤(n:Int)∧(n:Int)≤k.most∧zb8 k.word word=true∧word.length≤100∧za1 name word n=0):=by
 unfold za1;rw[hk];simp only;by_cases h1:k.least≤(n:Int)
 ·by_cases h2:(n:Int)≤k.most
  ·cases hb:zb8 k.word word with
   | true =>
    by_cases h3:100<word.length
    ·exact Or.inr (Or.inr (Or.inr (Or.inl ⟨h1,h2,rfl,h3,by rw[if_pos ⟨h1,h2,rfl⟩,if_pos h3]⟩)))
    ·exact Or.inr (Or.inr (Or.inr (Or.inr ⟨h1,h2,rfl,by omega,by rw[if_pos ⟨h1,h2,rfl⟩,if_neg h3]⟩)))
   | false=>exact Or.inr (Or.inr (Or.inl ⟨h1,h2,rfl,by rw[if_neg (fun h=>by cases h.2.2)]⟩))
  ·exact Or.inr (Or.inl ⟨h1,by omega,by rw[if_neg (fun h=>h2 h.2.1)]⟩)
 ·exact Or.inl ⟨by omega,by rw[if_neg (fun h=>h1 h.1)]⟩
theorem zj6 (c:UInt8):∀ s:List UInt8,(spl c s).length=s.count c+1
 | []=>rfl
 | b::s=>by
  have ih:=zj6 c s;unfold spl;by_cases hb:b=c
  ·rw[if_pos hb,List.length_cons,ih,hb,List.count_cons_self]
  ·rw[if_neg hb,List.count_cons_of_ne hb];cases hq:spl c s with
   | nil=>exact absurd hq (zih c s)
   | cons x r =>
    rw[hq] at ih;exact ih
theorem zy1 (word:List UInt8):(((word.count 61:Nat):Int)+1==2)=false∧zgg word=false∨(((word.count 61:Nat):Int)+1==2)=true∧∃ b,(∀ h,(⟨word.toArray⟩:ByteArray)[0]'h=b)∧0<word.length∧((((b.toNat:Int) != 61)=false∧((b.toNat:Int)==61)=true∧zgg word=false)∨(((b.toNat:Int) != 61)=true∧((b.toNat:Int)==61)=false∧zgg word=true)):=by
 unfold zgg;by_cases h1:word.count 61=1
 ·right
  refine⟨by rw[h1]; rfl,?_⟩
  cases word with
  | nil=>simp at h1
  | cons b t =>
   refine⟨b,fun _=>rfl,by simp,?_⟩
   have hbb:((b.toNat:Int)==61)=(b==61):=by rw[show (61:Int)=((61:UInt8).toNat:Int) from rfl,Kf.u8_eq]
   have hbn:((b.toNat:Int) != 61) = !(b==61):=by unfold bne; rw[hbb]
   rw[h1,hbb,hbn];by_cases h2:b=61
   ·left
    subst h2;exact⟨rfl,rfl,rfl⟩
   ·right
    have hd:(b==61)=false:=by simpa using h2
    rw[hd];exact⟨rfl,rfl,by simpa using h2⟩
 ·left
  refine⟨by rw[beq_eq_false_iff_ne]; omega,?_⟩
  rw[show (word.count 61==1)=false by simpa using h1]
  rfl
set_option maxHeartbeats 1000000 in
theorem zte (word:List UInt8) (n:Nat) (w:World) (hn:n≤1000000) (hwl:word.length≤100000):Calls Tryz.prog 169 #[str [119,114,105,116,101],str word, .int .i64 (n:Int)] w fun e w'=>e=.returned (.int .i64 (za1 [119,114,105,116,101] word n:Nat))∧Below w.heap.size w w':=by
 have hcs:=zcp (name:=[119,114,105,116,101]) (k:=⟨0,0,224,225⟩) word n (by kernel_rfl)
 simp only at hcs;have hb0:zb8 224 word=true:=rfl;rw[hb0] at hcs;rcases hcs with ⟨h1,he⟩ |⟨h0,h1,he⟩ |⟨h0,h1,hb,he⟩ |⟨h0,h1,hb,h2,he⟩ |⟨h0,h1,hb,h2,he⟩
 ·rw[he];clear he;have c1:((n:Int)<0)=True:=eq_true (by omega)
  go_enter Tryz.func169,Tryz.ntmps169
  go_wp2
  go_ret
  exact⟨rfl,Below.refl _ _⟩
 ·rw[he];clear he;have c1:((n:Int)<0)=False:=eq_false (by omega)
  have c2:((0:Int)<(n:Int))=True:=eq_true (by omega)
  go_enter Tryz.func169,Tryz.ntmps169
  go_wp2
  go_ret
  exact⟨rfl,Below.refl _ _⟩
 ·cases hb
 ·rw[he];clear he;have c1:((n:Int)<0)=False:=eq_false (by omega)
  have c2:((0:Int)<(n:Int))=False:=eq_false (by omega)
  have c3:((100:Int)<(word.length:Int))=True:=eq_true (by omega)
  go_enter Tryz.func169,Tryz.ntmps169
  go_wp2
  go_ret
  exact⟨rfl,Below.refl _ _⟩
 ·rw[he];clear he;have c1:((n:Int)<0)=False:=eq_false (by omega)
  have c2:((0:Int)<(n:Int))=False:=eq_false (by omega)
  have c3:((100:Int)<(word.length:Int))=False:=eq_false (by omega)
  go_enter Tryz.func169,Tryz.ntmps169
  go_wp2
  go_ret
  exact⟨rfl,Below.refl _ _⟩
set_option maxHeartbeats 1000000 in
theorem zwh (word:List UInt8) (n:Nat) (w:World) (hn:n≤1000000) (hwl:word.length≤100000):Calls Tryz.prog 169 #[str [106,111,105,110],str word, .int .i64 (n:Int)] w fun e w'=>e=.returned (.int .i64 (za1 [106,111,105,110] word n:Nat))∧Below w.heap.size w w':=by
 have hcs:=zcp (name:=[106,111,105,110]) (k:=⟨1,8,224,226⟩) word n (by kernel_rfl)
 simp only at hcs;have hb0:zb8 224 word=true:=rfl;rw[hb0] at hcs;rcases hcs with ⟨h1,he⟩ |⟨h0,h1,he⟩ |⟨h0,h1,hb,he⟩ |⟨h0,h1,hb,h2,he⟩ |⟨h0,h1,hb,h2,he⟩
 ·rw[he];clear he;have c1:((n:Int)<1)=True:=eq_true (by omega)
  go_enter Tryz.func169,Tryz.ntmps169
  go_wp2
  go_ret
  exact⟨rfl,Below.refl _ _⟩
 ·rw[he];clear he;have c1:((n:Int)<1)=False:=eq_false (by omega)
  have c2:((8:Int)<(n:Int))=True:=eq_true (by omega)
  go_enter Tryz.func169,Tryz.ntmps169
  go_wp2
  go_ret
  exact⟨rfl,Below.refl _ _⟩
 ·cases hb
 ·rw[he];clear he;have c1:((n:Int)<1)=False:=eq_false (by omega)
  have c2:((8:Int)<(n:Int))=False:=eq_false (by omega)
  have c3:((100:Int)<(word.length:Int))=True:=eq_true (by omega)
  go_enter Tryz.func169,Tryz.ntmps169
  go_wp2
  go_ret
  exact⟨rfl,Below.refl _ _⟩
 ·rw[he];clear he;have c1:((n:Int)<1)=False:=eq_false (by omega)
  have c2:((8:Int)<(n:Int))=False:=eq_false (by omega)
  have c3:((100:Int)<(word.length:Int))=False:=eq_false (by omega)
  go_enter Tryz.func169,Tryz.ntmps169
  go_wp2
  go_ret
  exact⟨rfl,Below.refl _ _⟩
set_option maxHeartbeats 1000000 in
theorem ztf (word:List UInt8) (n:Nat) (w:World) (hn:n≤1000000) (hwl:word.length≤100000):Calls Tryz.prog 169 #[str [117,112,112,101,114],str word, .int .i64 (n:Int)] w fun e w'=>e=.returned (.int .i64 (za1 [117,112,112,101,114] word n:Nat))∧Below w.heap.size w w':=by
 have hcs:=zcp (name:=[117,112,112,101,114]) (k:=⟨1,1,227,228⟩) word n (by kernel_rfl)
 simp only at hcs;have hb0:zb8 227 word=(word==[]):=rfl;rw[hb0] at hcs;clear hb0;rcases hcs with ⟨h1,he⟩ |⟨h0,h1,he⟩ |⟨h0,h1,hb,he⟩ |⟨h0,h1,hb,h2,he⟩ |⟨h0,h1,hb,h2,he⟩
 ·rw[he];clear he;have c1:((n:Int)<1)=True:=eq_true (by omega)
  cases hb:(word==[])
  all_goals
   go_enter Tryz.func169,Tryz.ntmps169
   go_wp2
   go_ret
   exact⟨rfl,Below.refl _ _⟩
 ·rw[he];clear he;have c1:((n:Int)<1)=False:=eq_false (by omega)
  have c2:((1:Int)<(n:Int))=True:=eq_true (by omega)
  cases hb:(word==[])
  all_goals
   go_enter Tryz.func169,Tryz.ntmps169
   go_wp2
   go_ret
   exact⟨rfl,Below.refl _ _⟩
 ·rw[he];clear he;have c1:((n:Int)<1)=False:=eq_false (by omega)
  have c2:((1:Int)<(n:Int))=False:=eq_false (by omega)
  go_enter Tryz.func169,Tryz.ntmps169
  go_wp2
  go_ret
  exact⟨rfl,Below.refl _ _⟩
 ·rw[he];clear he;have c1:((n:Int)<1)=False:=eq_false (by omega)
  have c2:((1:Int)<(n:Int))=False:=eq_false (by omega)
  have c3:((100:Int)<(word.length:Int))=True:=eq_true (by omega)
  go_enter Tryz.func169,Tryz.ntmps169
  go_wp2
  go_ret
  exact⟨rfl,Below.refl _ _⟩
 ·rw[he];clear he;have c1:((n:Int)<1)=False:=eq_false (by omega)
  have c2:((1:Int)<(n:Int))=False:=eq_false (by omega)
  have c3:((100:Int)<(word.length:Int))=False:=eq_false (by omega)
  go_enter Tryz.func169,Tryz.ntmps169
  go_wp2
  go_ret
  exact⟨rfl,Below.refl _ _⟩
set_option maxHeartbeats 1000000 in
theorem ztg (word:List UInt8) (n:Nat) (w:World) (hn:n≤1000000) (hwl:word.length≤100000):Calls Tryz.prog 169 #[str [108,105,110,101,115],str word, .int .i64 (n:Int)] w fun e w'=>e=.returned (.int .i64 (za1 [108,105,110,101,115] word n:Nat))∧Below w.heap.size w w':=by
 have hcs:=zcp (name:=[108,105,110,101,115]) (k:=⟨1,1,224,229⟩) word n (by kernel_rfl)
 simp only at hcs;have hb0:zb8 224 word=true:=rfl;rw[hb0] at hcs;rcases hcs with ⟨h1,he⟩ |⟨h0,h1,he⟩ |⟨h0,h1,hb,he⟩ |⟨h0,h1,hb,h2,he⟩ |⟨h0,h1,hb,h2,he⟩
 ·rw[he];clear he;have c1:((n:Int)<1)=True:=eq_true (by omega)
  go_enter Tryz.func169,Tryz.ntmps169
  go_wp2
  go_ret
  exact⟨rfl,Below.refl _ _⟩
 ·rw[he];clear he;have c1:((n:Int)<1)=False:=eq_false (by omega)
  have c2:((1:Int)<(n:Int))=True:=eq_true (by omega)
  go_enter Tryz.func169,Tryz.ntmps169
  go_wp2
  go_ret
  exact⟨rfl,Below.refl _ _⟩
 ·cases hb
 ·rw[he];clear he;have c1:((n:Int)<1)=False:=eq_false (by omega)
  have c2:((1:Int)<(n:Int))=False:=eq_false (by omega)
  have c3:((100:Int)<(word.length:Int))=True:=eq_true (by omega)
  go_enter Tryz.func169,Tryz.ntmps169
  go_wp2
  go_ret
  exact⟨rfl,Below.refl _ _⟩
 ·rw[he];clear he;have c1:((n:Int)<1)=False:=eq_false (by omega)
  have c2:((1:Int)<(n:Int))=False:=eq_false (by omega)
  have c3:((100:Int)<(word.length:Int))=False:=eq_false (by omega)
  go_enter Tryz.func169,Tryz.ntmps169
  go_wp2
  go_ret
  exact⟨rfl,Below.refl _ _⟩
set_option maxHeartbeats 1000000 in
theorem zwi (word:List UInt8) (n:Nat) (w:World) (hn:n≤1000000) (hwl:word.length≤100000):Calls Tryz.prog 169 #[str [115,111,114,116],str word, .int .i64 (n:Int)] w fun e w'=>e=.returned (.int .i64 (za1 [115,111,114,116] word n:Nat))∧Below w.heap.size w w':=by
 have hcs:=zcp (name:=[115,111,114,116]) (k:=⟨1,8,230,231⟩) word n (by kernel_rfl)
 simp only at hcs;have hb0:zb8 230 word=((word==[])||(word==[111,110,99,101])):=rfl;rw[hb0] at hcs;clear hb0;rcases hcs with ⟨h1,he⟩ |⟨h0,h1,he⟩ |⟨h0,h1,hb,he⟩ |⟨h0,h1,hb,h2,he⟩ |⟨h0,h1,hb,h2,he⟩
 ·rw[he];clear he;have c1:((n:Int)<1)=True:=eq_true (by omega)
  cases ha:(word==[])
  all_goals cases hd:(word==[111,110,99,101])
  all_goals
   go_enter Tryz.func169,Tryz.ntmps169
   go_wp2
   go_ret
   exact⟨rfl,Below.refl _ _⟩
 ·rw[he];clear he;have c1:((n:Int)<1)=False:=eq_false (by omega)
  have c2:((8:Int)<(n:Int))=True:=eq_true (by omega)
  cases ha:(word==[])
  all_goals cases hd:(word==[111,110,99,101])
  all_goals
   go_enter Tryz.func169,Tryz.ntmps169
   go_wp2
   go_ret
   exact⟨rfl,Below.refl _ _⟩
 ·rw[he];clear he;have c1:((n:Int)<1)=False:=eq_false (by omega)
  have c2:((8:Int)<(n:Int))=False:=eq_false (by omega)
  cases ha:(word==[])
  all_goals cases hd:(word==[111,110,99,101])
  all_goals
   first
   |(exfalso; rw[ha,hd] at hb; cases hb; done)
   |(clear hb
     go_enter Tryz.func169,Tryz.ntmps169
     go_wp2
     go_ret
     exact⟨rfl,Below.refl _ _⟩)
 ·rw[he];clear he;have c1:((n:Int)<1)=False:=eq_false (by omega)
  have c2:((8:Int)<(n:Int))=False:=eq_false (by omega)
  have c3:((100:Int)<(word.length:Int))=True:=eq_true (by omega)
  cases ha:(word==[])
  all_goals cases hd:(word==[111,110,99,101])
  all_goals
   first
   |(exfalso; rw[ha,hd] at hb; cases hb; done)
   |(clear hb
     go_enter Tryz.func169,Tryz.ntmps169
     go_wp2
     go_ret
     exact⟨rfl,Below.refl _ _⟩)
 ·rw[he];clear he;have c1:((n:Int)<1)=False:=eq_false (by omega)
  have c2:((8:Int)<(n:Int))=False:=eq_false (by omega)
  have c3:((100:Int)<(word.length:Int))=False:=eq_false (by omega)
  cases ha:(word==[])
  all_goals cases hd:(word==[111,110,99,101])
  all_goals
   first
   |(exfalso; rw[ha,hd] at hb; cases hb; done)
   |(clear hb
     go_enter Tryz.func169,Tryz.ntmps169
     go_wp2
     go_ret
     exact⟨rfl,Below.refl _ _⟩)
set_option maxHeartbeats 1000000 in
theorem zth (word:List UInt8) (n:Nat) (w:World) (hn:n≤1000000) (hwl:word.length≤100000):Calls Tryz.prog 169 #[str [99,111,117,110,116],str word, .int .i64 (n:Int)] w fun e w'=>e=.returned (.int .i64 (za1 [99,111,117,110,116] word n:Nat))∧Below w.heap.size w w':=by
 have hcs:=zcp (name:=[99,111,117,110,116]) (k:=⟨1,8,227,232⟩) word n (by kernel_rfl)
 simp only at hcs;have hb0:zb8 227 word=(word==[]):=rfl;rw[hb0] at hcs;clear hb0;rcases hcs with ⟨h1,he⟩ |⟨h0,h1,he⟩ |⟨h0,h1,hb,he⟩ |⟨h0,h1,hb,h2,he⟩ |⟨h0,h1,hb,h2,he⟩
 ·rw[he];clear he;have c1:((n:Int)<1)=True:=eq_true (by omega)
  cases hb:(word==[])
  all_goals
   go_enter Tryz.func169,Tryz.ntmps169
   go_wp2
   go_ret
   exact⟨rfl,Below.refl _ _⟩
 ·rw[he];clear he;have c1:((n:Int)<1)=False:=eq_false (by omega)
  have c2:((8:Int)<(n:Int))=True:=eq_true (by omega)
  cases hb:(word==[])
  all_goals
   go_enter Tryz.func169,Tryz.ntmps169
   go_wp2
   go_ret
   exact⟨rfl,Below.refl _ _⟩
 ·rw[he];clear he;have c1:((n:Int)<1)=False:=eq_false (by omega)
  have c2:((8:Int)<(n:Int))=False:=eq_false (by omega)
  go_enter Tryz.func169,Tryz.ntmps169
  go_wp2
  go_ret
  exact⟨rfl,Below.refl _ _⟩
 ·rw[he];clear he;have c1:((n:Int)<1)=False:=eq_false (by omega)
  have c2:((8:Int)<(n:Int))=False:=eq_false (by omega)
  have c3:((100:Int)<(word.length:Int))=True:=eq_true (by omega)
  go_enter Tryz.func169,Tryz.ntmps169
  go_wp2
  go_ret
  exact⟨rfl,Below.refl _ _⟩
 ·rw[he];clear he;have c1:((n:Int)<1)=False:=eq_false (by omega)
  have c2:((8:Int)<(n:Int))=False:=eq_false (by omega)
  have c3:((100:Int)<(word.length:Int))=False:=eq_false (by omega)
  go_enter Tryz.func169,Tryz.ntmps169
  go_wp2
  go_ret
  exact⟨rfl,Below.refl _ _⟩
set_option maxHeartbeats 1000000 in
theorem zwj (word:List UInt8) (n:Nat) (w:World) (hn:n≤1000000) (hwl:word.length≤100000):Calls Tryz.prog 169 #[str [115,119,97,112],str word, .int .i64 (n:Int)] w fun e w'=>e=.returned (.int .i64 (za1 [115,119,97,112] word n:Nat))∧Below w.heap.size w w':=by
 have hcs:=zcp (name:=[115,119,97,112]) (k:=⟨1,1,233,234⟩) word n (by kernel_rfl)
 simp only at hcs;have hb0:zb8 233 word=zgg word:=rfl;rw[hb0] at hcs;clear hb0;have KC0:=ze9 word 61 w (by omega)
 rw[zj6] at KC0;have KC:Hid (Calls Tryz.prog 133 #[str word, .int .u8 61] w fun e w'=>∃ a c,e=.returned (.slice a (word.count 61+1) c)∧Below w.heap.size w w'):=Hd (KC0.mono (fun e w' ⟨v,he,ho,hb⟩=>by
  obtain⟨a,c,hv,-,-⟩:=zac ho;rw[List.length_map,zj6] at hv;exact⟨a,c,by rw[he,hv],hb⟩))
 clear KC0;have hvar:(((word.count 61:Nat):Int)+1==2)=false∧zgg word=false∨(((word.count 61:Nat):Int)+1==2)=true∧∃ b,(∀ h,(⟨word.toArray⟩:ByteArray)[0]'h=b)∧0<word.length∧((((b.toNat:Int) != 61)=false∧((b.toNat:Int)==61)=true∧zgg word=false)∨(((b.toNat:Int) != 61)=true∧((b.toNat:Int)==61)=false∧zgg word=true)):=zy1 word;obtain⟨m,hm⟩:∃ m,word.count 61=m:=⟨_,rfl⟩;rw[hm] at KC hvar;clear hm;rcases hvar with ⟨v1,v2⟩ |⟨v1,b,hidx,hpos,⟨v3,v4,v2⟩ |⟨v3,v4,v2⟩⟩
 ·rw[v2] at hcs;clear v2;rcases hcs with ⟨h1,he⟩ |⟨h0,h1,he⟩ |⟨h0,h1,hb,he⟩ |⟨h0,h1,hb,h2,he⟩ |⟨h0,h1,hb,h2,he⟩
  ·rw[he];clear he;have c1:((n:Int)<1)=True:=eq_true (by omega)
   go_enter Tryz.func169,Tryz.ntmps169
   go_wp2_with fail
   refine KC.out.mono ?_
   rintro e w1 ⟨a,c,rfl,hb1⟩;go_wp2
   go_ret
   exact⟨rfl,hb1⟩
  ·rw[he];clear he;have c1:((n:Int)<1)=False:=eq_false (by omega)
   have c2:((1:Int)<(n:Int))=True:=eq_true (by omega)
   go_enter Tryz.func169,Tryz.ntmps169
   go_wp2_with fail
   refine KC.out.mono ?_
   rintro e w1 ⟨a,c,rfl,hb1⟩;go_wp2
   go_ret
   exact⟨rfl,hb1⟩
  ·rw[he];clear he;have c1:((n:Int)<1)=False:=eq_false (by omega)
   have c2:((1:Int)<(n:Int))=False:=eq_false (by omega)
   go_enter Tryz.func169,Tryz.ntmps169
   go_wp2_with fail
   refine KC.out.mono ?_
   rintro e w1 ⟨a,c,rfl,hb1⟩;go_wp2
   go_ret
   exact⟨rfl,hb1⟩
  ·cases hb
  ·cases hb
 ·rw[v2] at hcs;clear v2;rcases hcs with ⟨h1,he⟩ |⟨h0,h1,he⟩ |⟨h0,h1,hb,he⟩ |⟨h0,h1,hb,h2,he⟩ |⟨h0,h1,hb,h2,he⟩
  ·rw[he];clear he;have c1:((n:Int)<1)=True:=eq_true (by omega)
   go_enter Tryz.func169,Tryz.ntmps169
   go_wp2_with fail
   refine KC.out.mono ?_
   rintro e w1 ⟨a,c,rfl,hb1⟩;go_wp2
   go_ret
   exact⟨rfl,hb1⟩
  ·rw[he];clear he;have c1:((n:Int)<1)=False:=eq_false (by omega)
   have c2:((1:Int)<(n:Int))=True:=eq_true (by omega)
   go_enter Tryz.func169,Tryz.ntmps169
   go_wp2_with fail
   refine KC.out.mono ?_
   rintro e w1 ⟨a,c,rfl,hb1⟩;go_wp2
   go_ret
   exact⟨rfl,hb1⟩
  ·rw[he];clear he;have c1:((n:Int)<1)=False:=eq_false (by omega)
   have c2:((1:Int)<(n:Int))=False:=eq_false (by omega)
   go_enter Tryz.func169,Tryz.ntmps169
   go_wp2_with fail
   refine KC.out.mono ?_
   rintro e w1 ⟨a,c,rfl,hb1⟩;go_wp2
   go_ret
   exact⟨rfl,hb1⟩
  ·cases hb
  ·cases hb
 ·rw[v2] at hcs;clear v2;rcases hcs with ⟨h1,he⟩ |⟨h0,h1,he⟩ |⟨h0,h1,hb,he⟩ |⟨h0,h1,hb,h2,he⟩ |⟨h0,h1,hb,h2,he⟩
  ·rw[he];clear he;have c1:((n:Int)<1)=True:=eq_true (by omega)
   go_enter Tryz.func169,Tryz.ntmps169
   go_wp2_with fail
   refine KC.out.mono ?_
   rintro e w1 ⟨a,c,rfl,hb1⟩;go_wp2
   go_ret
   exact⟨rfl,hb1⟩
  ·rw[he];clear he;have c1:((n:Int)<1)=False:=eq_false (by omega)
   have c2:((1:Int)<(n:Int))=True:=eq_true (by omega)
   go_enter Tryz.func169,Tryz.ntmps169
   go_wp2_with fail
   refine KC.out.mono ?_
   rintro e w1 ⟨a,c,rfl,hb1⟩;go_wp2
   go_ret
   exact⟨rfl,hb1⟩
  ·cases hb
  ·rw[he];clear he;have c1:((n:Int)<1)=False:=eq_false (by omega)
   have c2:((1:Int)<(n:Int))=False:=eq_false (by omega)
   have c3:((100:Int)<(word.length:Int))=True:=eq_true (by omega)
   go_enter Tryz.func169,Tryz.ntmps169
   go_wp2_with fail
   refine KC.out.mono ?_
   rintro e w1 ⟨a,c,rfl,hb1⟩;go_wp2
   go_ret
   exact⟨rfl,hb1⟩
  ·rw[he];clear he;have c1:((n:Int)<1)=False:=eq_false (by omega)
   have c2:((1:Int)<(n:Int))=False:=eq_false (by omega)
   have c3:((100:Int)<(word.length:Int))=False:=eq_false (by omega)
   go_enter Tryz.func169,Tryz.ntmps169
   go_wp2_with fail
   refine KC.out.mono ?_
   rintro e w1 ⟨a,c,rfl,hb1⟩;go_wp2
   go_ret
   exact⟨rfl,hb1⟩
set_option maxHeartbeats 1000000 in
theorem zwk (word:List UInt8) (n:Nat) (w:World) (hn:n≤1000000) (hwl:word.length≤100000):Calls Tryz.prog 169 #[str [104,101,97,100],str word, .int .i64 (n:Int)] w fun e w'=>e=.returned (.int .i64 (za1 [104,101,97,100] word n:Nat))∧Below w.heap.size w w':=by
 have hcs:=zcp (name:=[104,101,97,100]) (k:=⟨1,1,235,236⟩) word n (by kernel_rfl)
 simp only at hcs;have hb0:zb8 235 word=(num3 word).isSome:=rfl;rw[hb0] at hcs;clear hb0;have KN:=fun w1=>zwf word w1 hwl;unfold numV at KN;cases hq:num3 word with
 | some m =>
  rw[hq] at hcs KN;have KN1:=Hd KN;have cm:((0:Int)≤(m:Int))=True:=eq_true (by omega)
  clear KN hq;rcases hcs with ⟨h1,he⟩ |⟨h0,h1,he⟩ |⟨h0,h1,hb,he⟩ |⟨h0,h1,hb,h2,he⟩ |⟨h0,h1,hb,h2,he⟩
  ·rw[he];clear he;have c1:((n:Int)<1)=True:=eq_true (by omega)
   go_enter Tryz.func169,Tryz.ntmps169
   go_wp2_with fail
   refine (KN1.out _).mono ?_
   rintro e w1 ⟨rfl,rfl⟩;go_wp2
   go_ret
   exact⟨rfl,Below.refl _ _⟩
  ·rw[he];clear he;have c1:((n:Int)<1)=False:=eq_false (by omega)
   have c2:((1:Int)<(n:Int))=True:=eq_true (by omega)
   go_enter Tryz.func169,Tryz.ntmps169
   go_wp2_with fail
   refine (KN1.out _).mono ?_
   rintro e w1 ⟨rfl,rfl⟩;go_wp2
   go_ret
   exact⟨rfl,Below.refl _ _⟩
  ·cases hb
  ·rw[he];clear he;have c1:((n:Int)<1)=False:=eq_false (by omega)
   have c2:((1:Int)<(n:Int))=False:=eq_false (by omega)
   have c3:((100:Int)<(word.length:Int))=True:=eq_true (by omega)
   go_enter Tryz.func169,Tryz.ntmps169
   go_wp2_with fail
   refine (KN1.out _).mono ?_
   rintro e w1 ⟨rfl,rfl⟩;go_wp2
   go_ret
   exact⟨rfl,Below.refl _ _⟩
  ·rw[he];clear he;have c1:((n:Int)<1)=False:=eq_false (by omega)
   have c2:((1:Int)<(n:Int))=False:=eq_false (by omega)
   have c3:((100:Int)<(word.length:Int))=False:=eq_false (by omega)
   go_enter Tryz.func169,Tryz.ntmps169
   go_wp2_with fail
   refine (KN1.out _).mono ?_
   rintro e w1 ⟨rfl,rfl⟩;go_wp2
   go_ret
   exact⟨rfl,Below.refl _ _⟩
 | none =>
  rw[hq] at hcs KN;have KN1:=Hd KN;clear KN hq;rcases hcs with ⟨h1,he⟩ |⟨h0,h1,he⟩ |⟨h0,h1,hb,he⟩ |⟨h0,h1,hb,h2,he⟩ |⟨h0,h1,hb,h2,he⟩
  ·rw[he];clear he;have c1:((n:Int)<1)=True:=eq_true (by omega)
   go_enter Tryz.func169,Tryz.ntmps169
   go_wp2_with fail
   refine (KN1.out _).mono ?_
   rintro e w1 ⟨rfl,rfl⟩;go_wp2
   go_ret
   exact⟨rfl,Below.refl _ _⟩
  ·rw[he];clear he;have c1:((n:Int)<1)=False:=eq_false (by omega)
   have c2:((1:Int)<(n:Int))=True:=eq_true (by omega)
   go_enter Tryz.func169,Tryz.ntmps169
   go_wp2_with fail
   refine (KN1.out _).mono ?_
   rintro e w1 ⟨rfl,rfl⟩;go_wp2
   go_ret
   exact⟨rfl,Below.refl _ _⟩
  ·rw[he];clear he;have c1:((n:Int)<1)=False:=eq_false (by omega)
   have c2:((1:Int)<(n:Int))=False:=eq_false (by omega)
   go_enter Tryz.func169,Tryz.ntmps169
   go_wp2_with fail
   refine (KN1.out _).mono ?_
   rintro e w1 ⟨rfl,rfl⟩;go_wp2
   go_ret
   exact⟨rfl,Below.refl _ _⟩
  ·cases hb
  ·cases hb
theorem zwl (name word:List UInt8) (n:Nat) (w:World) (hk:zaa name zbe=none):Calls Tryz.prog 169 #[str name,str word, .int .i64 (n:Int)] w fun e w'=>e=.returned (.int .i64 5)∧Below w.heap.size w w':=by
 have hne:∀ x k,(x,k)∈zbe→(name==x)=false:=fun x k hm=>by
  rw[beq_eq_false_iff_ne];rintro rfl;have:∀ {l:List (List UInt8×Kd)},(name,k)∈l→zaa name l≠none:=by
   intro l
   induction l with
   | nil=>intro h; cases h
   | cons p l ih =>
    intro h;unfold zaa
    split
    ·intro h'; cases h'
    ·rename_i hp
     rcases List.mem_cons.1 h with h | h
     ·exact absurd (congrArg Prod.fst h).symm hp
     ·exact ih h
  exact this hm hk
 have n0:(name==[119,114,105,116,101])=false:=hne _ ⟨0,0,224,225⟩ (by unfold zbe; simp)
 have n1:(name==[106,111,105,110])=false:=hne _ ⟨1,8,224,226⟩ (by unfold zbe; simp)
 have n2:(name==[117,112,112,101,114])=false:=hne _ ⟨1,1,227,228⟩ (by unfold zbe; simp)
 have n3:(name==[108,105,110,101,115])=false:=hne _ ⟨1,1,224,229⟩ (by unfold zbe; simp)
 have n4:(name==[115,111,114,116])=false:=hne _ ⟨1,8,230,231⟩ (by unfold zbe; simp)
 have n5:(name==[99,111,117,110,116])=false:=hne _ ⟨1,8,227,232⟩ (by unfold zbe; simp)
 have n6:(name==[115,119,97,112])=false:=hne _ ⟨1,1,233,234⟩ (by unfold zbe; simp)
 have n7:(name==[104,101,97,100])=false:=hne _ ⟨1,1,235,236⟩ (by unfold zbe; simp)
 clear hne hk;go_enter Tryz.func169,Tryz.ntmps169
 go_wp2
 go_ret
 exact⟨rfl,Below.refl _ _⟩
theorem zi7 (name word:List UInt8) (n:Nat) (w:World) (hn:n≤1000000) (hwl:word.length≤100000):Calls Tryz.prog 169 #[str name,str word, .int .i64 (n:Int)] w fun e w'=>e=.returned (.int .i64 (za1 name word n:Nat))∧Below w.heap.size w w':=by
 cases hk:zaa name zbe with
 | none =>
  have:za1 name word n=5:=by unfold za1; rw[hk]
  rw[this];exact zwl name word n w hk
 | some k =>
  have hm:=zfg hk;unfold zbe at hm;simp only[List.mem_cons,Prod.mk.injEq,List.not_mem_nil,or_false] at hm;rcases hm with ⟨rfl,-⟩ |⟨rfl,-⟩ |⟨rfl,-⟩ |⟨rfl,-⟩ |⟨rfl,-⟩ |⟨rfl,-⟩ |⟨rfl,-⟩ |⟨rfl,-⟩
  ·exact zte word n w hn hwl
  ·exact zwh word n w hn hwl
  ·exact ztf word n w hn hwl
  ·exact ztg word n w hn hwl
  ·exact zwi word n w hn hwl
  ·exact zth word n w hn hwl
  ·exact zwj word n w hn hwl
  ·exact zwk word n w hn hwl
theorem zwm {l:List (List UInt8)} {i:Nat} (hi:i<l.length):(idxL l[i] l<(i:Int))↔l[i]∈l.take i:=by
 have h0:l.findIdx (·==l[i])<l.length:=List.findIdx_lt_length.2 ⟨l[i],List.getElem_mem hi,by simp⟩
 unfold idxL;rw[if_pos h0]
 constructor
 ·intro h;have h1:l.findIdx (·==l[i])<i:=by omega
  have h2:=List.findIdx_getElem (p:=(·==l[i])) (xs:=l) (w:=h0)
  have h3:l[l.findIdx (·==l[i])]=l[i]:=by simpa using h2
  exact List.mem_iff_getElem.2 ⟨l.findIdx (·==l[i]),by rw[List.length_take]; omega,by rw[List.getElem_take]; exact h3⟩
 ·intro h;obtain⟨j,hj,e⟩:=List.mem_iff_getElem.1 h;rw[List.length_take] at hj;rw[List.getElem_take] at e;have h1:l.findIdx (·==l[i])≤j:=by
   refine Nat.le_of_not_lt (fun hlt=>?_)
   have:=List.not_of_lt_findIdx (p:=(·==l[i])) hlt
   simp[e] at this
  omega
set_option maxHeartbeats 2000000 in
theorem zoj (r:RuleL) (v:Value) (w:World) (hr:Reads w v (r.ins.map str)) (hlo:r.out.length≤1000000) (hlw:r.word.length≤100000) (hli:∀ s∈r.ins,s.length≤1000000) (hn:r.ins.length≤1000) :
  Calls Tryz.prog 156 #[.agg #[str r.out,str r.kind,str r.word,v]] w fun e w'=>e=.returned (.int .i64 (zas r:Nat))∧Below w.heap.size w w':=by
 obtain⟨out,kind,word,ins⟩:=r;simp only at hr hlo hlw hli hn;obtain⟨a,c,hv,-,-⟩:=id hr;rw[List.length_map] at hv;subst hv;obtain⟨W0,hW0⟩:∃ W,w.alloc (.cells #[str out,str kind,str word, .slice a ins.length c] 35)=W:=⟨_,rfl⟩;have hA:Below w.heap.size w W0:=hW0▸(Below.refl _ w).alloc (Nat.le_refl _) _;have hcl:∀ k,W0.cell? ⟨w.heap.size,k,none⟩=(#[str out,str kind,str word, .slice a ins.length c]:Array Value)[k]? := fun k=>by
  rw[← hW0,cell_of_heap (heap_alloc_here w _)]
 have hlt0:w.heap.size<W0.heap.size:=by rw[← hW0]; simp
 have keep:∀ (w1:World),Below W0.heap.size W0 w1→w1.cell? ⟨w.heap.size,0,none⟩=some (str out)∧w1.cell? ⟨w.heap.size,1,none⟩=some (str kind)∧w1.cell? ⟨w.heap.size,2,none⟩=some (str word)∧w1.cell? ⟨w.heap.size,3,none⟩=some (.slice a ins.length c):=fun w1 hb =>
  ⟨(hb.cell (p:=⟨w.heap.size,0,none⟩) hlt0).trans (hcl 0),(hb.cell (p:=⟨w.heap.size,1,none⟩) hlt0).trans (hcl 1),(hb.cell (p:=⟨w.heap.size,2,none⟩) hlt0).trans (hcl 2),(hb.cell (p:=⟨w.heap.size,3,none⟩) hlt0).trans (hcl 3)⟩
 have KEEP:=Hd keep;obtain⟨hk0,hk1,hk2,hk3⟩:=keep W0 (Below.refl _ _);have HR:=Hd (hr.below0 hA);have HA:=Hd hA;have HLI:=Hd hli;have KP:=Hd (fun s w1 (hs:s.length≤1000000)=>zll s w1 hs);have K1:=KP.out out W0 hlo;clear hr hA hcl keep hli;cases hpo:zaq out with
 | false =>
  have HF:Hid (zas ⟨out,kind,word,ins⟩=4):=Hd (zjy hpo);rw[hpo] at K1;have K2:=Hd K1;clear K1 hpo;go_enter Tryz.func156,Tryz.ntmps156
  go_wp2_with fail
  refine K2.out.mono ?_
  rintro e w1 ⟨rfl,hb1⟩;have HB1:=Hd (HA.out.trans (hb1.mono HA.out.size));clear hb1 hk0 hk1 hk2 hk3;go_wp2
  go_ret
  exact⟨by rw[HF.out]; rfl,HB1.out⟩
 | true =>
  rw[hpo] at K1;have K2:=Hd K1;have HPO:=Hd hpo;clear K1 hpo;have KA:=Hd (fun w1=>zi7 kind word ins.length w1 (by omega) hlw)
  cases hac:za1 kind word ins.length with
  | succ m =>
   rw[hac] at KA;have HF:Hid (zas ⟨out,kind,word,ins⟩=m+1):=Hd (zjz HPO.out hac);have hmp:((0:Int)<((m+1:Nat):Int))=True:=eq_true (by omega)
   have hmp2:((0:Int)<(m:Int)+1)=True:=eq_true (by omega)
   clear hac;go_enter Tryz.func156,Tryz.ntmps156
   go_wp2_with fail
   refine K2.out.mono ?_
   rintro e w1 ⟨rfl,hb1⟩;clear hk0 hk1 hk2 hk3;obtain⟨hk0,hk1,hk2,hk3⟩:=KEEP.out _ hb1;have HB1:=Hd hb1;clear hb1;go_wp2_with fail
   refine (KA.out w1).mono ?_
   rintro e w2 ⟨rfl,hb2⟩;have HB2:=Hd (HA.out.trans ((HB1.out.trans (hb2.mono HB1.out.size)).mono HA.out.size));clear hb2 hk0 hk1 hk2 hk3;go_wp2
   go_ret
   exact⟨by rw[HF.out]; rfl,HB2.out⟩
  | zero =>
   rw[hac] at KA;have HAC:=Hd hac;clear hac;go_enter Tryz.func156,Tryz.ntmps156
   go_wp2_with fail
   refine K2.out.mono ?_
   rintro e w1 ⟨rfl,hb1⟩;clear hk0 hk1 hk2 hk3;obtain⟨hk0,hk1,hk2,hk3⟩:=KEEP.out _ hb1;have HB1:=Hd hb1;clear hb1;go_wp2_with fail
   refine (KA.out w1).mono ?_
   rintro e w2 ⟨rfl,hb2⟩;have hb02:=HB1.out.trans (hb2.mono HB1.out.size);have HB2:=Hd hb02;clear hb2 hk0 hk1 hk2 hk3;obtain⟨hk0,hk1,hk2,hk3⟩:=KEEP.out _ hb02;clear hb02;go_wp2_with fail
   go_loopw [5] (fun iv wl=>∃ i:Nat,i≤ins.length∧iv=.int .i64 i∧(∀ s∈ins.take i,zaq s=true)∧Below W0.heap.size W0 wl) (fun iv _=>ins.length - (intOf iv).toNat)
   case atStart=>exact⟨0,by omega,rfl,fun s hs=>by simp at hs,HB2.out⟩
   case round =>
    obtain⟨i,hi,rfl,hall,hbi⟩:=hrel;have HAL:=Hd hall;have HBi:=Hd hbi;clear hall hk0 hk1 hk2 hk3;obtain⟨hk0,hk1,hk2,hk3⟩:=KEEP.out _ hbi;clear hbi;by_cases hlt:i<ins.length
    ·have hlc:((i:Int)<(ins.length:Int))=True:=eq_true (by omega)
     obtain⟨b,o,hix,hce⟩:=(HR.out.below0 HBi.out).at (P:=Tryz.prog) Tryz.underlying33 (by kernel_rfl) i (by simpa using hlt)
     simp only[List.getElem_map] at hce;have hsl:=HLI.out ins[i] (List.getElem_mem _);have KPi:=KP.out ins[i] wr hsl;cases hps:zaq ins[i] with
     | false =>
      rw[hps] at KPi;have HF:Hid (zas ⟨out,kind,word,ins⟩=4):=Hd (zlm HPO.out HAC.out (List.getElem_mem hlt) hps);generalize ins[i]=s at *;have KP2:=Hd KPi;clear KPi hps;go_wp2_with fail
      refine KP2.out.mono ?_
      rintro e w3 ⟨rfl,hb3⟩;have HB3:=Hd (HA.out.trans ((HBi.out.trans (hb3.mono HBi.out.size)).mono HA.out.size));clear hb3 hk0 hk1 hk2 hk3;go_wp2
      go_ret
      exact⟨by rw[HF.out]; rfl,HB3.out⟩
     | true =>
      rw[hps] at KPi;have HAN:Hid (∀ s∈ins.take (i+1),zaq s=true):=Hd (fun s hs=>by
       rw[List.take_succ_eq_append_getElem hlt] at hs;rcases List.mem_append.1 hs with hs | hs
       ·exact HAL.out s hs
       ·rw[List.mem_singleton.1 hs]; exact hps)
      generalize ins[i]=s at *;have KP2:=Hd KPi;clear KPi hps;go_wp2_with fail
      refine KP2.out.mono ?_
      rintro e w3 ⟨rfl,hb3⟩;have HB3:=Hd (HBi.out.trans (hb3.mono HBi.out.size));clear hb3 hk0 hk1 hk2 hk3;go_wp2
      go_roundw
      case rel=>exact⟨i+1,by omega,by go_num,HAN.out,HB3.out⟩
      case measure=>simp[intOf]; omega
    ·obtain rfl:i=ins.length:=by omega
     have hlc:((ins.length:Int)<(ins.length:Int))=False:=eq_false (by omega)
     have HALL:Hid (∀ s∈ins,zaq s=true):=Hd (by have:=HAL.out; rw[List.take_length] at this; exact this)
     go_wp2_with fail
     go_loopw [7] (fun iv wl=>∃ i:Nat,i≤ins.length∧iv=.int .i64 i∧(∀ j (hj:j<ins.length),j<i→ins[j]≠out∧ins[j]∉ins.take j)∧Below W0.heap.size W0 wl) (fun iv _=>ins.length - (intOf iv).toNat)
     case atStart=>exact⟨0,by omega,rfl,fun j hj h=>by omega,HBi.out⟩
     case round =>
      obtain⟨i,hi,rfl,hno,hbk⟩:=hrel;have HNO:=Hd hno;have HBk:=Hd hbk;clear hno hk0 hk1 hk2 hk3;obtain⟨hk0,hk1,hk2,hk3⟩:=KEEP.out _ hbk;clear hbk;by_cases hlt:i<ins.length
      ·have hlc2:((i:Int)<(ins.length:Int))=True:=eq_true (by omega)
       have hrd:=HR.out.below0 HBk.out;obtain⟨b,o,hix,hce⟩:=hrd.at (P:=Tryz.prog) Tryz.underlying33 (by kernel_rfl) i (by simpa using hlt)
       simp only[List.getElem_map] at hce;have K:Hid (∀ n,Calls Tryz.prog 64 #[.slice a ins.length c,str ins[i]] (wr.drewN n) fun e w'=>e=.returned (.int .i64 (idxL ins[i] ins))∧w'=wr.drewN n):=Hd (fun n =>
        (zfx ins[i] ins _ (wr.drewN n) (hrd.below0 (zag (Below.refl _ _) n))).mono fun _ _ ⟨h1,h2⟩=>⟨h1,h2.symm⟩)
       by_cases hout:ins[i]=out
       ·have HF:Hid (zas ⟨out,kind,word,ins⟩=7):=Hd (zen HPO.out HAC.out HALL.out hlt (Or.inl hout));rw[hout] at hce;clear hout hrd K;go_wp2_with fail
        go_quiet (fail)
        go_wp2
        go_ret
        exact⟨by rw[HF.out]; rfl,HA.out.trans ((zag HBk.out _).mono HA.out.size)⟩
       ·have hd:(ins[i]==out)=false:=by simpa using hout
        by_cases hin:ins[i]∈ins.take i
        ·have HF:Hid (zas ⟨out,kind,word,ins⟩=7):=Hd (zen HPO.out HAC.out HALL.out hlt (Or.inr hin));have hz:=eq_true ((zwm hlt).2 hin);clear hrd hin hout;generalize idxL ins[i] ins=z at *;generalize ins[i]=s at *;go_wp2_with fail
         go_quiet ((go_at_call 64; exact Calls.quiet_of_same (K.out _)))
         go_wp2
         go_ret
         exact⟨by rw[HF.out]; rfl,HA.out.trans ((zag HBk.out _).mono HA.out.size)⟩
        ·have HNN:Hid (∀ j (hj:j<ins.length),j<i+1→ins[j]≠out∧ins[j]∉ins.take j):=Hd (fun j hj h=>by
          by_cases hji:j=i
          ·subst hji; exact⟨hout,hin⟩
          ·exact HNO.out j hj (by omega))
         have hz:=eq_false (fun h=>hin ((zwm hlt).1 h));clear hrd hin hout;generalize idxL ins[i] ins=z at *;generalize ins[i]=s at *;go_wp2_with fail
         go_quiet ((go_at_call 64; exact Calls.quiet_of_same (K.out _)))
         go_wp2
         go_roundw
         case rel=>exact⟨i+1,by omega,by go_num,HNN.out,zag HBk.out _⟩
         case measure=>simp[intOf]; omega
      ·obtain rfl:i=ins.length:=by omega
       have hlc2:((ins.length:Int)<(ins.length:Int))=False:=eq_false (by omega)
       have HF:Hid (zas ⟨out,kind,word,ins⟩=0):=Hd (zln HPO.out HAC.out HALL.out (fun j hj=>HNO.out j hj hj));go_wp2
       go_ret
       exact⟨by rw[HF.out]; rfl,HA.out.trans (HBk.out.mono HA.out.size)⟩
def zes (l:List RuleL) (r:RuleL) (k:Nat):Nat:=if zas r≠0 then zas r else if r.out∈(l.take k).map RuleL.out then 7 else 0
theorem zti (l:List RuleL) (r:RuleL):zes l r 0=zas r:=by
 unfold zes;by_cases h:zas r=0
 ·simp[h]
 ·rw[if_pos h]
theorem ztj {l:List RuleL} {r q:RuleL} {k:Nat} (h:zes l r k=0) (hq:l[k]? = some q):zes l r (k+1)=if (q.out==r.out)=true then 7 else 0:=by
 have h0:zas r=0:=Classical.byContradiction (fun hne=>by unfold zes at h; rw[if_pos hne] at h; exact hne h)
 have hn:r.out∉(l.take k).map RuleL.out:=fun hm=>by
  unfold zes at h;rw[if_neg (by omega),if_pos hm] at h
  cases h
 obtain⟨hk,rfl⟩:=List.getElem?_eq_some_iff.1 hq;unfold zes;rw[if_neg (by omega),List.take_succ_eq_append_getElem hk,List.map_append]
 by_cases hb:l[k].out=r.out
 ·rw[if_pos (by simp[hb]),if_pos (by simpa using hb)]
 ·rw[if_neg,if_neg (by simpa using hb)]
  intro hm;rcases List.mem_append.1 hm with hm | hm
  ·exact hn hm
  ·exact hb (List.mem_singleton.1 hm).symm
theorem ztk {l:List RuleL} {r:RuleL} {k i:Nat} (h:zes l r k≠0) (hk:k≤i):zes l r i=zes l r k:=by
 unfold zes at h ⊢;by_cases h0:zas r=0
 ·have hne:¬ zas r≠0:=fun e=>e h0;rw[if_neg hne] at h;rw[if_neg hne,if_neg hne];by_cases hm:r.out∈(l.take k).map RuleL.out
  ·have hm2:r.out∈(l.take i).map RuleL.out:=by
    obtain⟨q,hq,e⟩:=List.mem_map.1 hm;exact List.mem_map.2 ⟨q,(List.take_subset_take_left l hk) hq,e⟩
   rw[if_pos hm,if_pos hm2]
  ·rw[if_neg hm] at h;exact absurd rfl h
 ·rw[if_pos h0,if_pos h0]
def zfn (l:List RuleL) (c:Nat) (at':Int):Prop :=
 (l.length≤40∧(∀ i r,l[i]? = some r→zcy l i r=0)∧c=0∧at' = -1) ∨
 (40<l.length∧c=2∧at' = -1) ∨
 (l.length≤40∧∃ i r m,(∀ j q,j<i→l[j]? = some q→zcy l j q=0)∧l[i]? = some r∧zcy l i r=m+1∧c=m+1∧at'=(i:Int))
abbrev zdz (c:Nat) (at':Int):Value:=.agg #[.int .i64 (c:Int), .int .i64 at']
theorem zlw:(Tryz.prog.info? 71).map (·.size)=some 2:=by kernel_rfl
theorem zcg {fn:Func} {p:Tmp} (h:fn.results=#[.cell p 71]) (tmps:Array Value) (w:World) (g:Nat) (c z:Value)
  (hp:tmps.getD p undef=.pointer (some ⟨g,0,none⟩)) (hg:w.heap[g]? = some (.cells #[c,z] 71 (0,0))):(results fn tmps).run Tryz.prog w=.ok (.agg #[c,z]) w :=
 results_cell_row h tmps w g _ _ _ _ hp hg Tryz.underlying71 rfl zlw
theorem zax {w:World} {g:Nat} {a b:Value} {t:TypeId} (h:w.heap[g]? = some (.cells #[a,b] t (0,0))):(∀ k,w.cell? ⟨g,k,none⟩=(#[a,b]:Array Value)[k]?)∧w.frozen? ⟨g,0,none⟩=false∧w.frozen? ⟨g,1,none⟩=false :=
 ⟨fun k=>cell_of_heap h k,zal h 0,zal h 1⟩
theorem zb5 {w:World} {g:Nat} {a b:Value} {t:TypeId} (h:w.heap[g]? = some (.cells #[a,b] t (0,0))) (c d:Value):((w.setCell ⟨g,0,none⟩ c).setCell ⟨g,1,none⟩ d).heap[g]? = some (.cells #[c,d] t (0,0)) :=
 (Kf.heap_setCell_same (Kf.heap_setCell_same h c) d).trans rfl
theorem zrv (c:Nat) (w:World):Calls Tryz.prog 90 #[.int .i64 (c:Int)] w fun e w'=>e=.returned (zdz c (-1))∧Below w.heap.size w w':=by
 go_enter Tryz.func90,Tryz.ntmps90
 go_wp2
 refine bodyPost_ret (zcg rfl _ _ w.heap.size _ _ rfl (heap_alloc_here w _)) rfl ?_
 exact⟨rfl,(Below.refl _ w).alloc (Nat.le_refl _) _⟩
theorem zy2 (w:World):Calls Tryz.prog 157 #[] w fun e w'=>e=.returned (zdz 0 (-1))∧Below w.heap.size w w':=by
 go_enter Tryz.func157,Tryz.ntmps157
 go_wp2
 refine bodyPost_ret (zcg rfl _ _ w.heap.size _ _ rfl (heap_alloc_here w _)) rfl ?_
 exact⟨rfl,(Below.refl _ w).alloc (Nat.le_refl _) _⟩
set_option maxHeartbeats 2000000 in
theorem zgb (R:List RV) (v:Value) (w:World) (hr:ReadsK 4 w v (R.map zay)) (hx:∀ x∈R,Reads w x.2 (x.1.ins.map str))
  (hb:∀ x∈R,x.1.out.length≤1000000∧x.1.word.length≤100000∧(∀ s∈x.1.ins,s.length≤1000000)∧x.1.ins.length≤1000) :
  Calls Tryz.prog 87 #[v] w fun e w'=>(∃ c p,zfn (R.map Prod.fst) c p∧e=.returned (zdz c p))∧Below w.heap.size w w':=by
 have hrow:∀ r∈R.map zay,r≠[]:=fun r hr=>by obtain⟨x,-,rfl⟩:=List.mem_map.1 hr; simp[zay]
 obtain⟨a,c,hv,-,-⟩:=id hr;rw[List.length_map] at hv;subst hv;have hml:(R.map Prod.fst).length=R.length:=List.length_map _;obtain⟨W0,hW0⟩:∃ W,w.alloc (.cells #[.int .i64 0, .int .i64 0] 71)=W:=⟨_,rfl⟩;have hA0:Below w.heap.size w W0:=hW0▸(Below.refl _ w).alloc (Nat.le_refl _) _;have hz0:w.heap.size<W0.heap.size:=by rw[← hW0]; simp
 have hg0:W0.heap[w.heap.size]? = some (.cells #[.int .i64 0, .int .i64 0] 71 (0,0)):=hW0▸heap_alloc_here w _;have HRES:Hid (∀ wl,Below W0.heap.size W0 wl→wl.heap[w.heap.size]? = some (.cells #[.int .i64 0, .int .i64 0] 71 (0,0))):=Hd (fun wl hb=>(hb.block _ hz0).trans hg0);have HW:Hid (∀ wl,Below W0.heap.size W0 wl→Below w.heap.size w wl):=Hd (fun wl hb=>hA0.trans (hb.mono (Nat.le_of_lt hz0)));by_cases h40:R.length≤40
 case neg =>
  have hd:((40:Int)<(R.length:Int))=True:=eq_true (by omega)
  have HF:Hid (zfn (R.map Prod.fst) 2 (-1)):=Hd (Or.inr (Or.inl ⟨by omega,rfl,rfl⟩))
  have KB:Hid (Calls Tryz.prog 90 #[.int .i64 2] W0 fun e w'=>e=.returned (zdz 2 (-1))∧Below W0.heap.size W0 w'):=Hd (zrv 2 W0);clear hr hx hb hml hA0 hg0;go_enter Tryz.func87,Tryz.ntmps87
  go_wp2_with fail
  refine KB.out.mono ?_
  rintro e w1 ⟨rfl,hb1⟩;have hres:=HRES.out _ hb1;have HB1:=Hd (HW.out _ hb1);clear hb1;obtain⟨hcs,hf0,hf1⟩:=zax hres;have HRS:=Hd hres;clear hres;go_wp2
  refine bodyPost_ret (zcg rfl _ _ w.heap.size _ _ rfl (zb5 HRS.out _ _)) rfl ?_
  exact⟨⟨_,_,HF.out,rfl⟩,((HB1.out).setCell (p:=⟨w.heap.size,0,none⟩) (Nat.le_refl _) _).setCell (p:=⟨w.heap.size,1,none⟩) (Nat.le_refl _) _⟩
 case pos =>
  have hd:((40:Int)<(R.length:Int))=False:=eq_false (by omega)
  have HRK:=Hd (fun wl (hb:Below W0.heap.size W0 wl)=>zao hr hrow (HW.out _ hb));have KR:=Hd (fun wl (hbl:Below W0.heap.size W0 wl) x (h:x∈R)=>zoj x.1 x.2 wl ((hx x h).below0 (HW.out _ hbl)) (hb x h).1 (hb x h).2.1 (hb x h).2.2.1 (hb x h).2.2.2);obtain⟨L,hL⟩:∃ L,R.map Prod.fst=L:=⟨_,rfl⟩;have hLR:∀ i (h:i<R.length),L[i]? = some R[i].1:=fun i h=>by rw[← hL,List.getElem?_map,List.getElem?_eq_getElem h]; rfl
  rw[hL] at hml ⊢;have HLR:=Hd hLR;have HML:=Hd hml;clear hr hx hb hml hL hLR hrow hA0 hg0;go_enter Tryz.func87,Tryz.ntmps87
  go_wp2_with fail
  go_loopw [3] (fun iv wl=>∃ i:Nat,i≤R.length∧iv=.int .i64 i∧(∀ j q,j<i→L[j]? = some q→zcy L j q=0)∧Below W0.heap.size W0 wl) (fun iv _=>R.length - (intOf iv).toNat)
  case atStart=>exact⟨0,by omega,rfl,fun j q h _=>by omega,Below.refl _ _⟩
  case round =>
   obtain⟨i,hi,rfl,hno,hbi⟩:=hrel;have HNO:=Hd hno;have HBi:=Hd hbi;clear hno;by_cases hlt:i<R.length
   ·have hlc:((i:Int)<(R.length:Int))=True:=eq_true (by omega)
    obtain⟨b,o,hix,-,hce⟩:=(HRK.out _ hbi).at (P:=Tryz.prog) Tryz.underlying22 (by kernel_rfl) i (by simpa using hlt)
    simp only[List.getElem_map] at hce;have hc0:=hce 0 _ rfl;have hc1:=hce 1 _ rfl;have hc2:=hce 2 _ rfl;have hc3:=hce 3 _ rfl;simp only[Nat.add_zero] at hc0;have KRi:=Hd (KR.out _ hbi _ (List.getElem_mem hlt));have HCI:Hid (∀ wl,Below W0.heap.size W0 wl→∃ b o,(∀ w',(Instr.indexAt 22 (.slice a R.length c) (.int .i64 (i:Int))).run Tryz.prog w'=.ok (.pointer (some ⟨b,o,none⟩)) w')∧wl.cell? ⟨b,o,none⟩=some (str R[i].1.out)):=Hd (fun wl hb=>by
     obtain⟨b,o,h1,-,h2⟩:=(HRK.out _ hb).at (P:=Tryz.prog) Tryz.underlying22 (by kernel_rfl) i (by simpa using hlt)
     simp only[List.getElem_map] at h2;have h3:=h2 0 _ rfl;simp only[Nat.add_zero] at h3;exact⟨b,o,h1,h3⟩)
    have HG:=Hd (HLR.out i hlt);clear hce hbi;generalize R[i]=x at *;obtain⟨r,u⟩:=x;simp only at hc0 hc1 hc2 hc3 KRi HG HCI;have HEA:Hid (zcy L i r=zes L r i):=Hd rfl;have HNX:Hid (zes L r i=0→∀ j q,j<i+1→L[j]? = some q→zcy L j q=0):=Hd (fun h0 j q h hq=>by
     by_cases hji:j=i
     ·subst hji;rw[HG.out] at hq;obtain rfl:=Option.some.inj hq;exact h0
     ·exact HNO.out j q (by omega) hq)
    have HFI:Hid (∀ m,zes L r i=m+1→zfn L (m+1) (i:Int)):=Hd (fun m h0=>Or.inr (Or.inr ⟨by rw[HML.out]; exact h40,i,r,m,HNO.out,HG.out,h0,rfl,rfl⟩))
    go_wp2_with fail
    refine KRi.out.mono ?_
    rintro e w3 ⟨rfl,hb3⟩;have HB3:=Hd (HBi.out.trans (hb3.mono HBi.out.size));have HE0:Hid (zas r=zes L r 0):=Hd (zti L r).symm;clear hb3 hc0 hc1 hc2 hc3 hix;rw[HE0.out];go_wp2_with fail
    go_loopw [4,5] (fun ev kv wl=>∃ k:Nat,k≤i∧kv=.int .i64 k∧ev=.int .i64 (zes L r k:Nat)∧Below W0.heap.size W0 wl) (fun _ kv _=>i - (intOf kv).toNat)
    case atStart=>exact⟨0,by omega,rfl,rfl,HB3.out⟩
    case round =>
     obtain⟨k,hk,rfl,rfl,hbk⟩:=hrel;have HBK:=Hd hbk;cases hq:zes L r k with
     | succ m =>
      have HFF:Hid (zfn L (m+1) (i:Int)):=Hd (HFI.out m ((ztk (by omega) hk).trans hq))
      have hm1:(((m+1:Nat):Int)==0)=false:=by simp; omega
      have hm2:((0:Int)<((m+1:Nat):Int))=True:=eq_true (by omega)
      have hm3:((m:Int)+1==0)=false:=by simp; omega
      have hm4:((0:Int)<(m:Int)+1)=True:=eq_true (by omega)
      clear hbk hq;by_cases hlk:k<i
      ·have hlc2:((k:Int)<(i:Int))=True:=eq_true (by omega)
       have hres:=HRES.out _ HBK.out;obtain⟨hcs,hf0,hf1⟩:=zax hres;have HRS:=Hd hres;clear hres;go_wp2
       refine bodyPost_ret (zcg rfl _ _ w.heap.size _ _ rfl (zb5 HRS.out _ _)) rfl ?_
       exact⟨⟨_,_,HFF.out,rfl⟩,(((HW.out _ HBK.out)).setCell (p:=⟨w.heap.size,0,none⟩) (Nat.le_refl _) _).setCell (p:=⟨w.heap.size,1,none⟩) (Nat.le_refl _) _⟩
      ·obtain rfl:k=i:=by omega
       have hlc2:((k:Int)<(k:Int))=False:=eq_false (by omega)
       have hres:=HRES.out _ HBK.out;obtain⟨hcs,hf0,hf1⟩:=zax hres;have HRS:=Hd hres;clear hres;go_wp2
       refine bodyPost_ret (zcg rfl _ _ w.heap.size _ _ rfl (zb5 HRS.out _ _)) rfl ?_
       exact⟨⟨_,_,HFF.out,rfl⟩,(((HW.out _ HBK.out)).setCell (p:=⟨w.heap.size,0,none⟩) (Nat.le_refl _) _).setCell (p:=⟨w.heap.size,1,none⟩) (Nat.le_refl _) _⟩
     | zero =>
      by_cases hlk:k<i
      ·have hlc2:((k:Int)<(i:Int))=True:=eq_true (by omega)
       have hkR:k<R.length:=by omega
       obtain⟨b2,o2,hix2,hc2⟩:=HCI.out _ hbk;obtain⟨b1,o1,hix1,-,hce⟩:=(HRK.out _ hbk).at (P:=Tryz.prog) Tryz.underlying22 (by kernel_rfl) k (by simpa using hkR)
       simp only[List.getElem_map] at hce;have hc1:=hce 0 _ rfl;simp only[Nat.add_zero] at hc1;have hsc:=ztj hq (HLR.out k hkR);clear hce hbk hq;generalize R[k]=y at *;obtain⟨q,uq⟩:=y;simp only at hc1 hsc;cases hb:q.out==r.out with
       | true =>
        rw[hb] at hsc;have HSC:Hid (zes L r (k+1)=7):=Hd hsc;clear hsc;go_wp2_with fail
        go_quiet (fail)
        go_wp2
        go_roundw
        case rel=>exact⟨k+1,by omega,by go_num,by rw[HSC.out]; rfl,zag HBK.out _⟩
        case measure=>simp[intOf]; omega
       | false =>
        rw[hb] at hsc;have HSC:Hid (zes L r (k+1)=0):=Hd hsc;clear hsc;go_wp2_with fail
        go_quiet (fail)
        go_wp2
        go_roundw
        case rel=>exact⟨k+1,by omega,by go_num,by rw[HSC.out],zag HBK.out _⟩
        case measure=>simp[intOf]; omega
      ·obtain rfl:k=i:=by omega
       have hlc2:((k:Int)<(k:Int))=False:=eq_false (by omega)
       have HNN:=Hd (HNX.out hq);clear hbk hq;go_wp2
       go_roundw
       case rel=>exact⟨k+1,by omega,by go_num,HNN.out,HBK.out⟩
       case measure=>simp[intOf]; omega
   ·obtain rfl:i=R.length:=by omega
    have hlc:((R.length:Int)<(R.length:Int))=False:=eq_false (by omega)
    have HF:Hid (zfn L 0 (-1)):=Hd (Or.inl ⟨by rw[HML.out]; exact h40,fun i r h=>HNO.out i r (by have:=(List.getElem?_eq_some_iff.1 h).1; rw[HML.out] at this; exact this) h,rfl,rfl⟩)
    have KF:=Hd (zy2 wr);have HZ:=Hd hbi.size;clear hbi;go_wp2_with fail
    refine KF.out.mono ?_
    rintro e w1 ⟨rfl,hb1⟩;have HB1:=Hd (HBi.out.trans (hb1.mono HZ.out));clear hb1;have hres:=HRES.out _ HB1.out;obtain⟨hcs,hf0,hf1⟩:=zax hres;have HRS:=Hd hres;clear hres;go_wp2
    refine bodyPost_ret (zcg rfl _ _ w.heap.size _ _ rfl (zb5 HRS.out _ _)) rfl ?_
    exact⟨⟨_,_,HF.out,rfl⟩,(((HW.out _ HB1.out)).setCell (p:=⟨w.heap.size,0,none⟩) (Nat.le_refl _) _).setCell (p:=⟨w.heap.size,1,none⟩) (Nat.le_refl _) _⟩
end Go.Proofs.YtgjialbmlhbngaaGreatDoor
