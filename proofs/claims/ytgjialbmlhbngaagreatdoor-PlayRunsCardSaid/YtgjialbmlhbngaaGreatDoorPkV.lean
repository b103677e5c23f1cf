/-
  errors.Is and errors.As by their contracts, at the errors that this program makes: a sentinel (a pointer to an errors.errorString) and a *api.Fault round one.
-/
import Derived.Test.YtgjialbmlhbngaaGreatDoorPkA
import Derived.Test.YtgjialbmlhbngaaGreatDoorChecked
import Derived.LaidEql
import Derived.Stop.Asserts
import Derived.RowKitTokens

namespace Go.Proofs.YtgjialbmlhbngaaGreatDoor
open Go Go.RowKit Go.Kf Go.Extern.Stop Go.Stop Go.Extern
theorem zw1 (v:Value) (w:World):(Extern.ReflectliteType.typeOf #[.iface 380 v]).run Tryz.prog w=.ok (.iface 323 (.agg #[.pointer (some ⟨26,380,none⟩)])) w:=by kernel_rfl
theorem zkg (w:World):((Extern.ReflectliteType.method fun t=>do Extern.Rtype.noPackHeld "Comparable" t; (fun a=>Value.bool a.comparable) <$> typeInfo t) #[.agg #[.pointer (some ⟨26,380,none⟩)]]).run Tryz.prog w=.ok (.bool true) w:=by kernel_rfl
theorem zeh (v:Value) (w:World):(Go.method 519 323 v "Comparable").run Tryz.prog w=.ok (357,v) w:=by kernel_rfl
theorem eComp:(Tryz.prog.info? 380).map (·.comparable)=some true:=by kernel_rfl
theorem eSize:(Tryz.prog.info? 382).map (·.size)=some 1:=by kernel_rfl
theorem eNoIsE (v:Value) (xT:TypeId) (w:World):(Instr.typeAssert (.iface 380 v) xT 334 true).run Tryz.prog w=.ok (.tuple #[.nilIface, .bool false]) w:=run_typeAssert_lacksB Tryz.underlying334 (by kernel_rfl) (by kernel_rfl) v xT w
theorem eNoAsE (v:Value) (xT:TypeId) (w:World):(Instr.typeAssert (.iface 380 v) xT 327 true).run Tryz.prog w=.ok (.tuple #[.nilIface, .bool false]) w:=run_typeAssert_lacksB Tryz.underlying327 (by kernel_rfl) (by kernel_rfl) v xT w
theorem zl1 (v:Value) (xT:TypeId) (w:World):(Instr.typeAssert (.iface 380 v) xT 330 true).run Tryz.prog w=.ok (.tuple #[.nilIface, .bool false]) w:=run_typeAssert_lacksB Tryz.underlying330 (by kernel_rfl) (by kernel_rfl) v xT w
theorem zkh (v:Value) (xT:TypeId) (w:World):(Instr.typeAssert (.iface 380 v) xT 332 true).run Tryz.prog w=.ok (.tuple #[.nilIface, .bool false]) w:=run_typeAssert_lacksB Tryz.underlying332 (by kernel_rfl) (by kernel_rfl) v xT w
set_option maxRecDepth 1000000 in
theorem is_same (a:Addr) (w:World) :
  Calls Tryz.prog 155 #[.iface 380 (.pointer (some a)), .iface 380 (.pointer (some a))] w fun e w'=>e=.returned (.bool true)∧w'=w:=by
 obtain⟨i,hi,hcmp⟩:=Option.map_eq_some_iff.1 eComp;obtain⟨j,hj,hjs⟩:=Option.map_eq_some_iff.1 eSize;have h8:=@run_callFunc_extern Tryz.prog 219 _ Extern.ReflectliteType.typeOf Tryz.func219 (by kernel_rfl) (by kernel_rfl) (by kernel_rfl) (by kernel_rfl)
 have h32:=@run_callFunc_extern Tryz.prog 357 _ (Extern.ReflectliteType.method fun t=>do Extern.Rtype.noPackHeld "Comparable" t; pure (.bool (← typeInfo t).comparable)) Tryz.func357 (by kernel_rfl) (by kernel_rfl) (by kernel_rfl) (by kernel_rfl)
 have tT:=zw1;have cT:=zkg;have mR:=zeh;have heq:=run_eql_iface_ptr_same (P:=Tryz.prog) w a Tryz.underlying28 Tryz.underlying380 hi hcmp hj;go_enter Tryz.func155,Tryz.ntmps155
 go_wp2
 refine wp_loop_rounds 1 ?_
 rw[rounds_succ];go_wp2
 go_ret
 exact⟨rfl,rfl⟩
set_option maxRecDepth 1000000 in
theorem zzd (a b:Addr) (ca cb:Array Value) (ta tb:TypeId) (w:World) (hne:a≠b) (ha:w.heap[a.block]? = some (.cells ca ta (0,0))) (hb:w.heap[b.block]? = some (.cells cb tb (0,0))) :
  Calls Tryz.prog 155 #[.iface 380 (.pointer (some a)), .iface 380 (.pointer (some b))] w fun e w'=>e=.returned (.bool false)∧w'=w:=by
 obtain⟨i,hi,hcmp⟩:=Option.map_eq_some_iff.1 eComp;obtain⟨j,hj,hjs⟩:=Option.map_eq_some_iff.1 eSize;have h8:=@run_callFunc_extern Tryz.prog 219 _ Extern.ReflectliteType.typeOf Tryz.func219 (by kernel_rfl) (by kernel_rfl) (by kernel_rfl) (by kernel_rfl)
 have h32:=@run_callFunc_extern Tryz.prog 357 _ (Extern.ReflectliteType.method fun t=>do Extern.Rtype.noPackHeld "Comparable" t; pure (.bool (← typeInfo t).comparable)) Tryz.func357 (by kernel_rfl) (by kernel_rfl) (by kernel_rfl) (by kernel_rfl)
 have tT:=zw1;have cT:=zkg;have mR:=zeh;have nE:=eNoIsE;have uE:=zl1;have vE:=zkh;have heq:=run_eql_iface_ptr_other (P:=Tryz.prog) w Tryz.underlying28 Tryz.underlying380 hi hcmp hj (by rw[hjs]; decide) hne ha hb
 go_enter Tryz.func155,Tryz.ntmps155
 go_wp2
 refine wp_loop_rounds 1 ?_
 rw[rounds_succ];go_wp2
 go_ret
 exact⟨rfl,rfl⟩
abbrev zze (t:TypeId) (a:Addr) (n:Int):Value:=.agg #[.pointer (some ⟨26,t,none⟩), .pointer (some a), .int .u64 n]
abbrev zqo (t:TypeId):Value:=.iface 323 (.agg #[.pointer (some ⟨26,t,none⟩)])
theorem zzf (t:Addr) (w:World):(callFunc 215 #[.iface 226 (.pointer (some t))]).run Tryz.prog w
  = .ok (.value (zze 226 ⟨w.heap.size,0,none⟩ 150)) (w.alloc (.cells #[.pointer (some t)] 226)):=by kernel_rfl
theorem aType (a:Addr) (w:World):(callFunc 216 #[zze 226 a 150]).run Tryz.prog w=.ok (.value (zqo 226)) w:=by kernel_rfl
theorem zqp (h:Value) (w:World):(Go.method 519 323 (.agg #[h]) "Kind").run Tryz.prog w=.ok (345,h) w:=by kernel_rfl
theorem zqq (h:Value) (w:World):(Go.method 519 323 (.agg #[h]) "Elem").run Tryz.prog w=.ok (358, .agg #[h]) w:=by kernel_rfl
theorem zia (h:Value) (w:World):(Go.method 519 323 (.agg #[h]) "Implements").run Tryz.prog w=.ok (359, .agg #[h]) w:=by kernel_rfl
theorem zib (h:Value) (w:World):(Go.method 519 323 (.agg #[h]) "AssignableTo").run Tryz.prog w=.ok (356, .agg #[h]) w:=by kernel_rfl
theorem aKind2 (w:World):(callFunc 345 #[.pointer (some ⟨26,226,none⟩)]).run Tryz.prog w=.ok (.value (.int .u8 22)) w:=by kernel_rfl
theorem aKind1 (w:World):(callFunc 345 #[.pointer (some ⟨26,220,none⟩)]).run Tryz.prog w=.ok (.value (.int .u8 22)) w:=by kernel_rfl
theorem aElem (w:World):(callFunc 358 #[.agg #[.pointer (some ⟨26,226,none⟩)]]).run Tryz.prog w=.ok (.value (zqo 220)) w:=by kernel_rfl
theorem zqr (w:World):(callFunc 359 #[.agg #[.pointer (some ⟨26,220,none⟩)],zqo 28]).run Tryz.prog w=.ok (.value (.bool true)) w:=by kernel_rfl
theorem zzg (v:Value) (w:World):(callFunc 219 #[.iface 380 v]).run Tryz.prog w=.ok (.value (zqo 380)) w:=by kernel_rfl
theorem zzh (w:World):(callFunc 356 #[.agg #[.pointer (some ⟨26,380,none⟩)],zqo 220]).run Tryz.prog w=.ok (.value (.bool false)) w:=by kernel_rfl
theorem aParts (t:TypeId) (a:Addr) (w:World) (h:t=226):(ReflectliteValue.parts (zze t a 150)).run Tryz.prog w=.ok (some (t,a,150)) w:=by subst h; kernel_rfl
theorem rlm (z:Sem Value) (f:TypeId→Addr→Nat→Nat→Sem Value) (v:Value) :
  ReflectliteValue.method z f #[v]=(do match←ReflectliteValue.parts v with | none=>z | some (t,a,fl)=>f t a fl (fl % 32)):=rfl
theorem aIsNil (a p:Addr) (W:World) (ha:W.cell? a=some (.pointer (some p))) :
  (callFunc 217 #[zze 226 a 150]).run Tryz.prog W=.ok (.value (.bool false)) W:=by
 rw[@run_callFunc_extern Tryz.prog 217 _ (ReflectliteValue.method (ReflectliteValue.valueError "reflectlite.Value.IsNil" 0) ReflectliteValue.isNil) Tryz.func217 (by kernel_rfl) (by kernel_rfl) (by kernel_rfl) (by kernel_rfl)]
 rw[rlm];simp only[Sem.run_bind,aParts _ _ _ rfl,Result.andThen];simp[ReflectliteValue.isNil,loadVar,isAgg,underlying,Tryz.underlying226,ha,Result.andThen]
def zm6 (w:World):Prop:=w.cell? ⟨12,0,none⟩=some (zqo 28)
set_option maxRecDepth 1000000 in
set_option maxHeartbeats 4000000 in
theorem as_miss (e t:Addr) (w:World) (hg:zm6 w) (hlt:12<w.heap.size) :
  Calls Tryz.prog 154 #[.iface 380 (.pointer (some e)), .iface 226 (.pointer (some t))] w fun ev w'=>ev=.returned (.bool false)∧Below w.heap.size w w':=by
 have f6:=zzf;have f7:=aType;have mK:=zqp;have mE:=zqq;have mI:=zia;have mA:=zib;have k2:=aKind2;have k1:=aKind1;have el:=aElem;have im:=zqr;have tO:=zzg;have asg:=zzh;have n1:=eNoAsE;have n2:=zl1;have n3:=zkh;have n8:=aIsNil ⟨w.heap.size,0,none⟩ t ((w.alloc (.cells #[.pointer (some t)] 226)).alloc (.cells #[.pointer (some ⟨26,226,none⟩), .pointer (some ⟨w.heap.size,0,none⟩), .int .u64 150] 285)) (by simp)
 have hg2:((w.alloc (.cells #[.pointer (some t)] 226)).alloc (.cells #[.pointer (some ⟨26,226,none⟩), .pointer (some ⟨w.heap.size,0,none⟩), .int .u64 150] 285)).cell? ⟨12,0,none⟩=some (zqo 28):=by
  rw[World.cell?_alloc_lt _ _ ⟨12,0,none⟩ (by simp; omega),World.cell?_alloc_lt _ _ ⟨12,0,none⟩ hlt]; exact hg
 go_enter Tryz.func154,Tryz.ntmps154
 go_wp2
 refine wp_loop_rounds 1 ?_
 rw[rounds_succ];go_wp2
 go_ret
 exact⟨rfl,(((Below.refl _ _).alloc (Nat.le_refl _) _).alloc (by simp) _).alloc (by simp; omega) _⟩
end Go.Proofs.YtgjialbmlhbngaaGreatDoor
