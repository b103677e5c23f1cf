/-
  errors.Is and errors.As by their contracts, at the errors that this program makes: a sentinel (a pointer to an errors.errorString) and a *api.Fault round one.
-/
import Derived.Test.YtgjialbmlhbngaaGreatDoorPkA
import Derived.Test.YtgjialbmlhbngaaGreatDoorChecked
import Derived.LaidEql
import Derived.Stop.Asserts
import Derived.RowKitTokens

namespace Go.Proofs.YtgjialbmlhbngaaGreatDoor
open Go Go.RowKit Go.Kf Go.Extern.Stop Go.Stop Go.Extern
theorem eTypeOf (v : Value) (w : World) : (Extern.ReflectliteType.typeOf #[.iface 380 v]).run Tryz.prog w = .ok (.iface 323 (.agg #[.pointer (some ⟨26, 380, none⟩)])) w := by kernel_rfl
theorem eComparable (w : World) : ((Extern.ReflectliteType.method fun t => do Extern.Rtype.noPackHeld "Comparable" t; (fun a => Value.bool a.comparable) <$> typeInfo t) #[.agg #[.pointer (some ⟨26, 380, none⟩)]]).run Tryz.prog w = .ok (.bool true) w := by kernel_rfl
theorem eMethodComparable (v : Value) (w : World) : (Go.method 519 323 v "Comparable").run Tryz.prog w = .ok (357, v) w := by kernel_rfl
theorem eComp : (Tryz.prog.info? 380).map (·.comparable) = some true := by kernel_rfl
theorem eSize : (Tryz.prog.info? 382).map (·.size) = some 1 := by kernel_rfl
theorem eNoIsE (v : Value) (xT : TypeId) (w : World) : (Instr.typeAssert (.iface 380 v) xT 334 true).run Tryz.prog w = .ok (.tuple #[.nilIface, .bool false]) w := run_typeAssert_lacksB Tryz.underlying334 (by kernel_rfl) (by kernel_rfl) v xT w
theorem eNoAsE (v : Value) (xT : TypeId) (w : World) : (Instr.typeAssert (.iface 380 v) xT 327 true).run Tryz.prog w = .ok (.tuple #[.nilIface, .bool false]) w := run_typeAssert_lacksB Tryz.underlying327 (by kernel_rfl) (by kernel_rfl) v xT w
theorem eNoUnwrapE (v : Value) (xT : TypeId) (w : World) : (Instr.typeAssert (.iface 380 v) xT 330 true).run Tryz.prog w = .ok (.tuple #[.nilIface, .bool false]) w := run_typeAssert_lacksB Tryz.underlying330 (by kernel_rfl) (by kernel_rfl) v xT w
theorem eNoUnwrapsE (v : Value) (xT : TypeId) (w : World) : (Instr.typeAssert (.iface 380 v) xT 332 true).run Tryz.prog w = .ok (.tuple #[.nilIface, .bool false]) w := run_typeAssert_lacksB Tryz.underlying332 (by kernel_rfl) (by kernel_rfl) v xT w
set_option maxRecDepth 1000000 in
theorem is_same (a : Addr) (w : World) :
    Calls Tryz.prog 155 #[.iface 380 (.pointer (some a)), .iface 380 (.pointer (some a))] w fun e w' => e = .returned (.bool true) ∧ w' = w := by
  obtain ⟨i, hi, hcmp⟩ := Option.map_eq_some_iff.1 eComp
  obtain ⟨j, hj, hjs⟩ := Option.map_eq_some_iff.1 eSize
  have h8 := @run_callFunc_extern Tryz.prog 219 _ Extern.ReflectliteType.typeOf Tryz.func219 (by kernel_rfl) (by kernel_rfl) (by kernel_rfl) (by kernel_rfl)
  have h32 := @run_callFunc_extern Tryz.prog 357 _ (Extern.ReflectliteType.method fun t => do Extern.Rtype.noPackHeld "Comparable" t; pure (.bool (← typeInfo t).comparable)) Tryz.func357 (by kernel_rfl) (by kernel_rfl) (by kernel_rfl) (by kernel_rfl)
  have tT := eTypeOf
  have cT := eComparable
  have mR := eMethodComparable
  have heq := run_eql_iface_ptr_same (P := Tryz.prog) w a Tryz.underlying28 Tryz.underlying380 hi hcmp hj
  go_enter Tryz.func155, Tryz.ntmps155
  go_wp2
  refine wp_loop_rounds 1 ?_
  rw [rounds_succ]
  go_wp2
  go_ret
  exact ⟨rfl, rfl⟩
set_option maxRecDepth 1000000 in
theorem is_other (a b : Addr) (ca cb : Array Value) (ta tb : TypeId) (w : World) (hne : a ≠ b) (ha : w.heap[a.block]? = some (.cells ca ta (0, 0))) (hb : w.heap[b.block]? = some (.cells cb tb (0, 0))) :
    Calls Tryz.prog 155 #[.iface 380 (.pointer (some a)), .iface 380 (.pointer (some b))] w fun e w' => e = .returned (.bool false) ∧ w' = w := by
  obtain ⟨i, hi, hcmp⟩ := Option.map_eq_some_iff.1 eComp
  obtain ⟨j, hj, hjs⟩ := Option.map_eq_some_iff.1 eSize
  have h8 := @run_callFunc_extern Tryz.prog 219 _ Extern.ReflectliteType.typeOf Tryz.func219 (by kernel_rfl) (by kernel_rfl) (by kernel_rfl) (by kernel_rfl)
  have h32 := @run_callFunc_extern Tryz.prog 357 _ (Extern.ReflectliteType.method fun t => do Extern.Rtype.noPackHeld "Comparable" t; pure (.bool (← typeInfo t).comparable)) Tryz.func357 (by kernel_rfl) (by kernel_rfl) (by kernel_rfl) (by kernel_rfl)
  have tT := eTypeOf
  have cT := eComparable
  have mR := eMethodComparable
  have nE := eNoIsE
  have uE := eNoUnwrapE
  have vE := eNoUnwrapsE
  have heq := run_eql_iface_ptr_other (P := Tryz.prog) w Tryz.underlying28 Tryz.underlying380 hi hcmp hj (by rw [hjs]; decide) hne ha hb
  go_enter Tryz.func155, Tryz.ntmps155
  go_wp2
  refine wp_loop_rounds 1 ?_
  rw [rounds_succ]
  go_wp2
  go_ret
  exact ⟨rfl, rfl⟩
abbrev valAt (t : TypeId) (a : Addr) (n : Int) : Value := .agg #[.pointer (some ⟨26, t, none⟩), .pointer (some a), .int .u64 n]
abbrev typAt (t : TypeId) : Value := .iface 323 (.agg #[.pointer (some ⟨26, t, none⟩)])
theorem aValueOf (t : Addr) (w : World) : (callFunc 215 #[.iface 226 (.pointer (some t))]).run Tryz.prog w
    = .ok (.value (valAt 226 ⟨w.heap.size, 0, none⟩ 150)) (w.alloc (.cells #[.pointer (some t)] 226)) := by kernel_rfl
theorem aValueOfF (t : Addr) (w : World) : (callFunc 215 #[.iface 220 (.pointer (some t))]).run Tryz.prog w
    = .ok (.value (valAt 220 ⟨w.heap.size, 0, none⟩ 150)) (w.alloc (.cells #[.pointer (some t)] 220)) := by kernel_rfl
theorem aType (a : Addr) (w : World) : (callFunc 216 #[valAt 226 a 150]).run Tryz.prog w = .ok (.value (typAt 226)) w := by kernel_rfl
theorem aMethodKind (h : Value) (w : World) : (Go.method 519 323 (.agg #[h]) "Kind").run Tryz.prog w = .ok (345, h) w := by kernel_rfl
theorem aMethodElem (h : Value) (w : World) : (Go.method 519 323 (.agg #[h]) "Elem").run Tryz.prog w = .ok (358, .agg #[h]) w := by kernel_rfl
theorem aMethodImplements (h : Value) (w : World) : (Go.method 519 323 (.agg #[h]) "Implements").run Tryz.prog w = .ok (359, .agg #[h]) w := by kernel_rfl
theorem aMethodAssignable (h : Value) (w : World) : (Go.method 519 323 (.agg #[h]) "AssignableTo").run Tryz.prog w = .ok (356, .agg #[h]) w := by kernel_rfl
theorem aKind2 (w : World) : (callFunc 345 #[.pointer (some ⟨26, 226, none⟩)]).run Tryz.prog w = .ok (.value (.int .u8 22)) w := by kernel_rfl
theorem aKind1 (w : World) : (callFunc 345 #[.pointer (some ⟨26, 220, none⟩)]).run Tryz.prog w = .ok (.value (.int .u8 22)) w := by kernel_rfl
theorem aElem (w : World) : (callFunc 358 #[.agg #[.pointer (some ⟨26, 226, none⟩)]]).run Tryz.prog w = .ok (.value (typAt 220)) w := by kernel_rfl
theorem aImplements (w : World) : (callFunc 359 #[.agg #[.pointer (some ⟨26, 220, none⟩)], typAt 28]).run Tryz.prog w = .ok (.value (.bool true)) w := by kernel_rfl
theorem aTypeOfE (v : Value) (w : World) : (callFunc 219 #[.iface 380 v]).run Tryz.prog w = .ok (.value (typAt 380)) w := by kernel_rfl
theorem aTypeOfF (v : Value) (w : World) : (callFunc 219 #[.iface 220 v]).run Tryz.prog w = .ok (.value (typAt 220)) w := by kernel_rfl
theorem aAssignE (w : World) : (callFunc 356 #[.agg #[.pointer (some ⟨26, 380, none⟩)], typAt 220]).run Tryz.prog w = .ok (.value (.bool false)) w := by kernel_rfl
theorem aAssignF (w : World) : (callFunc 356 #[.agg #[.pointer (some ⟨26, 220, none⟩)], typAt 220]).run Tryz.prog w = .ok (.value (.bool true)) w := by kernel_rfl
theorem aParts (t : TypeId) (a : Addr) (w : World) (h : t = 226) : (ReflectliteValue.parts (valAt t a 150)).run Tryz.prog w = .ok (some (t, a, 150)) w := by subst h; kernel_rfl
theorem aParts1 (a : Addr) (w : World) : (ReflectliteValue.parts (valAt 220 a 150)).run Tryz.prog w = .ok (some (220, a, 150)) w := by kernel_rfl
theorem aParts1a (a : Addr) (w : World) : (ReflectliteValue.parts (valAt 220 a 406)).run Tryz.prog w = .ok (some (220, a, 406)) w := by kernel_rfl
theorem rlm (z : Sem Value) (f : TypeId → Addr → Nat → Nat → Sem Value) (v : Value) :
    ReflectliteValue.method z f #[v] = (do match ← ReflectliteValue.parts v with | none => z | some (t, a, fl) => f t a fl (fl % 32)) := rfl
theorem aIsNil (a p : Addr) (W : World) (ha : W.cell? a = some (.pointer (some p))) :
    (callFunc 217 #[valAt 226 a 150]).run Tryz.prog W = .ok (.value (.bool false)) W := by
  rw [@run_callFunc_extern Tryz.prog 217 _ (ReflectliteValue.method (ReflectliteValue.valueError "reflectlite.Value.IsNil" 0) ReflectliteValue.isNil) Tryz.func217 (by kernel_rfl) (by kernel_rfl) (by kernel_rfl) (by kernel_rfl)]
  rw [rlm]
  simp only [Sem.run_bind, aParts _ _ _ rfl, Result.andThen]
  simp [ReflectliteValue.isNil, loadVar, isAgg, underlying, Tryz.underlying226, ha, Result.andThen]
theorem aElemOf (w : World) : (Rtype.elem? 226).run Tryz.prog w = .ok (some 220) w := by kernel_rfl
theorem aMk (p : Addr) (w : World) : (ReflectliteValue.mk 220 p ReflectliteValue.flagAddr).run Tryz.prog w = .ok (valAt 220 p 406) w := by kernel_rfl
theorem aElemV (a p : Addr) (W : World) (ha : W.cell? a = some (.pointer (some p))) :
    (callFunc 268 #[valAt 226 a 150]).run Tryz.prog W = .ok (.value (valAt 220 p 406)) W := by
  rw [@run_callFunc_extern Tryz.prog 268 _ (ReflectliteValue.method (ReflectliteValue.valueError "reflectlite.Value.Elem" 0) ReflectliteValue.elem) Tryz.func268 (by kernel_rfl) (by kernel_rfl) (by kernel_rfl) (by kernel_rfl)]
  rw [rlm]
  simp only [Sem.run_bind, aParts _ _ _ rfl, Result.andThen]
  simp [ReflectliteValue.elem, loadVar, isAgg, underlying, Tryz.underlying226, ha, Result.andThen, aElemOf, aMk]
theorem rls (v x : Value) : ReflectliteValue.set #[v, x] = (do
    let (some (dst, a, fl), some (src, b, _)) := (← ReflectliteValue.parts v, ← ReflectliteValue.parts x)
      | unsupported (.noEntry "extern/(internal/reflectlite.Value).Set.zeroValue")
    if fl / ReflectliteValue.flagAddr % 2 == 0 then unsupported (.noEntry "extern/(internal/reflectlite.Value).Set.unaddressable")
    let val ← loadVar src b
    if ← Rtype.directlyAssignable dst src then storeVar dst a val
    else if ← Rtype.implements dst src then
      if (← Rtype.kind src) == 20 then
        match val with
        | .nilIface => unsupported (.noEntry "extern/reflectlite: a nil value of one interface type handed on as a value of another")
        | _ => storeVar dst a val
      else storeVar dst a (.iface src val)
    else panicString ("reflectlite.Set: value of type " ++ (← Rtype.spelt src) ++ " is not assignable to type " ++ (← Rtype.spelt dst))
    pure (.tuple #[])) := rfl
theorem aDirect (w : World) : (Rtype.directlyAssignable 220 220).run Tryz.prog w = .ok true w := by kernel_rfl
theorem aSet (ta b e : Addr) (old : Value) (W : World) (hb : W.cell? b = some (.pointer (some e))) (ht : W.cell? ta = some old) (hf : W.frozen? ta = false) :
    (callFunc 269 #[valAt 220 ta 406, valAt 220 b 150]).run Tryz.prog W
      = .ok (.value (.tuple #[])) (W.setCell ta (.pointer (some e))) := by
  rw [@run_callFunc_extern Tryz.prog 269 _ ReflectliteValue.set Tryz.func269 (by kernel_rfl) (by kernel_rfl) (by kernel_rfl) (by kernel_rfl)]
  rw [rls]
  simp only [Sem.run_bind, aParts1a, aParts1, Result.andThen]
  simp [ReflectliteValue.flagAddr, loadVar, isAgg, underlying, Tryz.underlying220, hb, Result.andThen, aDirect, storeVar, Value.cells, storeCells, Addr.add]
  rw [run_store Tryz.prog W ta _ _ (by rfl)]
  simp [ht, hf]
def ErrType (w : World) : Prop := w.cell? ⟨12, 0, none⟩ = some (typAt 28)
set_option maxRecDepth 1000000 in
set_option maxHeartbeats 4000000 in
theorem as_miss (e t : Addr) (w : World) (hg : ErrType w) (hlt : 12 < w.heap.size) :
    Calls Tryz.prog 154 #[.iface 380 (.pointer (some e)), .iface 226 (.pointer (some t))] w fun ev w' => ev = .returned (.bool false) ∧ Below w.heap.size w w' := by
  have f6 := aValueOf
  have f7 := aType
  have mK := aMethodKind
  have mE := aMethodElem
  have mI := aMethodImplements
  have mA := aMethodAssignable
  have k2 := aKind2
  have k1 := aKind1
  have el := aElem
  have im := aImplements
  have tO := aTypeOfE
  have asg := aAssignE
  have n1 := eNoAsE
  have n2 := eNoUnwrapE
  have n3 := eNoUnwrapsE
  have n8 := aIsNil ⟨w.heap.size, 0, none⟩ t ((w.alloc (.cells #[.pointer (some t)] 226)).alloc (.cells #[.pointer (some ⟨26, 226, none⟩), .pointer (some ⟨w.heap.size, 0, none⟩), .int .u64 150] 285)) (by simp)
  have hg2 : ((w.alloc (.cells #[.pointer (some t)] 226)).alloc (.cells #[.pointer (some ⟨26, 226, none⟩), .pointer (some ⟨w.heap.size, 0, none⟩), .int .u64 150] 285)).cell? ⟨12, 0, none⟩ = some (typAt 28) := by
    rw [World.cell?_alloc_lt _ _ ⟨12, 0, none⟩ (by simp; omega), World.cell?_alloc_lt _ _ ⟨12, 0, none⟩ hlt]; exact hg
  go_enter Tryz.func154, Tryz.ntmps154
  go_wp2
  refine wp_loop_rounds 1 ?_
  rw [rounds_succ]
  go_wp2
  go_ret
  exact ⟨rfl, (((Below.refl _ _).alloc (Nat.le_refl _) _).alloc (by simp) _).alloc (by simp; omega) _⟩
end Go.Proofs.YtgjialbmlhbngaaGreatDoor
