/-
  errors.As by its contracts, at a target that is the address of a *api.Fault variable: a sentinel misses it, a fault hits it.
-/
import Derived.Test.YtmkpeopebddnjaaGreatDoorErrs
namespace Go.Proofs.YtmkpeopebddnjaaGreatDoor
open Go Go.RowKit Go.Kf Go.Extern.Stop Go.Stop Go.Extern

/-- The Value of a pointer that lies at an address of its own. -/
abbrev valAt (t : TypeId) (a : Addr) (n : Int) : Value := .agg #[.pointer (some ⟨21, t, none⟩), .pointer (some a), .int .u64 n]
abbrev typAt (t : TypeId) : Value := .iface 148 (.agg #[.pointer (some ⟨21, t, none⟩)])

theorem aValueOf (t : Addr) (w : World) : (callFunc 86 #[.iface 106 (.pointer (some t))]).run Tryz.prog w
    = .ok (.value (valAt 106 ⟨w.heap.size, 0, none⟩ 150)) (w.alloc (.cells #[.pointer (some t)] 106)) := by kernel_rfl
theorem aValueOfF (t : Addr) (w : World) : (callFunc 86 #[.iface 104 (.pointer (some t))]).run Tryz.prog w
    = .ok (.value (valAt 104 ⟨w.heap.size, 0, none⟩ 150)) (w.alloc (.cells #[.pointer (some t)] 104)) := by kernel_rfl
theorem aType (a : Addr) (w : World) : (callFunc 87 #[valAt 106 a 150]).run Tryz.prog w = .ok (.value (typAt 106)) w := by kernel_rfl
theorem aMethodKind (h : Value) (w : World) : (Go.method 352 148 (.agg #[h]) "Kind").run Tryz.prog w = .ok (192, h) w := by kernel_rfl
theorem aMethodElem (h : Value) (w : World) : (Go.method 352 148 (.agg #[h]) "Elem").run Tryz.prog w = .ok (204, .agg #[h]) w := by kernel_rfl
theorem aMethodImplements (h : Value) (w : World) : (Go.method 352 148 (.agg #[h]) "Implements").run Tryz.prog w = .ok (205, .agg #[h]) w := by kernel_rfl
theorem aMethodAssignable (h : Value) (w : World) : (Go.method 352 148 (.agg #[h]) "AssignableTo").run Tryz.prog w = .ok (202, .agg #[h]) w := by kernel_rfl
theorem aKind2 (w : World) : (callFunc 192 #[.pointer (some ⟨21, 106, none⟩)]).run Tryz.prog w = .ok (.value (.int .u8 22)) w := by kernel_rfl
theorem aKind1 (w : World) : (callFunc 192 #[.pointer (some ⟨21, 104, none⟩)]).run Tryz.prog w = .ok (.value (.int .u8 22)) w := by kernel_rfl
theorem aElem (w : World) : (callFunc 204 #[.agg #[.pointer (some ⟨21, 106, none⟩)]]).run Tryz.prog w = .ok (.value (typAt 104)) w := by kernel_rfl
theorem aImplements (w : World) : (callFunc 205 #[.agg #[.pointer (some ⟨21, 104, none⟩)], typAt 34]).run Tryz.prog w = .ok (.value (.bool true)) w := by kernel_rfl
theorem aTypeOfE (v : Value) (w : World) : (callFunc 90 #[.iface 218 v]).run Tryz.prog w = .ok (.value (typAt 218)) w := by kernel_rfl
theorem aTypeOfF (v : Value) (w : World) : (callFunc 90 #[.iface 104 v]).run Tryz.prog w = .ok (.value (typAt 104)) w := by kernel_rfl
theorem aAssignE (w : World) : (callFunc 202 #[.agg #[.pointer (some ⟨21, 218, none⟩)], typAt 104]).run Tryz.prog w = .ok (.value (.bool false)) w := by kernel_rfl
theorem aAssignF (w : World) : (callFunc 202 #[.agg #[.pointer (some ⟨21, 104, none⟩)], typAt 104]).run Tryz.prog w = .ok (.value (.bool true)) w := by kernel_rfl

/-! ### The entries that read or write memory. -/
theorem aParts (t : TypeId) (a : Addr) (w : World) (h : t = 106) : (ReflectliteValue.parts (valAt t a 150)).run Tryz.prog w = .ok (some (t, a, 150)) w := by subst h; kernel_rfl
theorem aParts1 (a : Addr) (w : World) : (ReflectliteValue.parts (valAt 104 a 150)).run Tryz.prog w = .ok (some (104, a, 150)) w := by kernel_rfl
theorem aParts1a (a : Addr) (w : World) : (ReflectliteValue.parts (valAt 104 a 406)).run Tryz.prog w = .ok (some (104, a, 406)) w := by kernel_rfl
theorem rlm (z : Sem Value) (f : TypeId → Addr → Nat → Nat → Sem Value) (v : Value) :
    ReflectliteValue.method z f #[v] = (do match ← ReflectliteValue.parts v with | none => z | some (t, a, fl) => f t a fl (fl % 32)) := rfl
theorem aIsNil (a p : Addr) (W : World) (ha : W.cell? a = some (.pointer (some p))) :
    (callFunc 88 #[valAt 106 a 150]).run Tryz.prog W = .ok (.value (.bool false)) W := by
  rw [@run_callFunc_extern Tryz.prog 88 _ (ReflectliteValue.method (ReflectliteValue.valueError "reflectlite.Value.IsNil" 0) ReflectliteValue.isNil) Tryz.func88 (by kernel_rfl) (by kernel_rfl) (by kernel_rfl) (by kernel_rfl)]
  rw [rlm]
  simp only [Sem.run_bind, aParts _ _ _ rfl, Result.andThen]
  simp [ReflectliteValue.isNil, loadVar, isAgg, underlying, Tryz.underlying106, ha, Result.andThen]
theorem aElemOf (w : World) : (Rtype.elem? 106).run Tryz.prog w = .ok (some 104) w := by kernel_rfl
theorem aMk (p : Addr) (w : World) : (ReflectliteValue.mk 104 p ReflectliteValue.flagAddr).run Tryz.prog w = .ok (valAt 104 p 406) w := by kernel_rfl
theorem aElemV (a p : Addr) (W : World) (ha : W.cell? a = some (.pointer (some p))) :
    (callFunc 114 #[valAt 106 a 150]).run Tryz.prog W = .ok (.value (valAt 104 p 406)) W := by
  rw [@run_callFunc_extern Tryz.prog 114 _ (ReflectliteValue.method (ReflectliteValue.valueError "reflectlite.Value.Elem" 0) ReflectliteValue.elem) Tryz.func114 (by kernel_rfl) (by kernel_rfl) (by kernel_rfl) (by kernel_rfl)]
  rw [rlm]
  simp only [Sem.run_bind, aParts _ _ _ rfl, Result.andThen]
  simp [ReflectliteValue.elem, loadVar, isAgg, underlying, Tryz.underlying106, ha, Result.andThen, aElemOf, aMk]
theorem rls (v x : Value) : ReflectliteValue.set #[v, x] = (do
    let (some (dst, a, fl), some (src, b, _)) := (← ReflectliteValue.parts v, ← ReflectliteValue.parts x)
      | unsupported (.noEntry "extern/(internal/reflectlite.Value).Set.zeroValue")
    if fl / ReflectliteValue.flagAddr % 2 == 0 then unsupported (.noEntry "extern/(internal/reflectlite.Value).Set.unaddressable")
    let val ← loadVar src b
    if ← Rtype.directlyAssignable dst src then storeVar dst a val
    else if ← Rtype.implements dst src then
      if (← Rtype.kind src) == 20 then
        match val with
        | .nilIface => unsupported (.noEntry "extern/reflectlite: a nil value of one interface type handed on as a value of another")
        | _ => storeVar dst a val
      else storeVar dst a (.iface src val)
    else panicString ("reflectlite.Set: value of type " ++ (← Rtype.spelt src) ++ " is not assignable to type " ++ (← Rtype.spelt dst))
    pure (.tuple #[])) := rfl
theorem aDirect (w : World) : (Rtype.directlyAssignable 104 104).run Tryz.prog w = .ok true w := by kernel_rfl
theorem aSet (ta b e : Addr) (old : Value) (W : World) (hb : W.cell? b = some (.pointer (some e))) (ht : W.cell? ta = some old) (hf : W.frozen? ta = false) :
    (callFunc 115 #[valAt 104 ta 406, valAt 104 b 150]).run Tryz.prog W
      = .ok (.value (.tuple #[])) (W.setCell ta (.pointer (some e))) := by
  rw [@run_callFunc_extern Tryz.prog 115 _ ReflectliteValue.set Tryz.func115 (by kernel_rfl) (by kernel_rfl) (by kernel_rfl) (by kernel_rfl)]
  rw [rls]
  simp only [Sem.run_bind, aParts1a, aParts1, Result.andThen]
  simp [ReflectliteValue.flagAddr, loadVar, isAgg, underlying, Tryz.underlying104, hb, Result.andThen, aDirect, storeVar, Value.cells, storeCells, Addr.add]
  rw [run_store Tryz.prog W ta _ _ (by rfl)]
  simp [ht, hf]

/-- The listed variable errors.errorType, as the program lays it. -/
def ErrType (w : World) : Prop := w.cell? ⟨12, 0, none⟩ = some (typAt 34)

set_option maxRecDepth 1000000 in
set_option maxHeartbeats 4000000 in
/-- errors.As(e, &f), e a sentinel: false. -/
theorem as_miss (e t : Addr) (w : World) (hg : ErrType w) (hlt : 12 < w.heap.size) :
    Calls Tryz.prog 55 #[.iface 218 (.pointer (some e)), .iface 106 (.pointer (some t))] w fun ev w' => ev = .returned (.bool false) ∧ Below w.heap.size w w' := by
  have f6 := aValueOf
  have f7 := aType
  have mK := aMethodKind
  have mE := aMethodElem
  have mI := aMethodImplements
  have mA := aMethodAssignable
  have k2 := aKind2
  have k1 := aKind1
  have el := aElem
  have im := aImplements
  have tO := aTypeOfE
  have asg := aAssignE
  have n1 := eNoAsE
  have n2 := eNoUnwrapE
  have n3 := eNoUnwrapsE
  have n8 := aIsNil ⟨w.heap.size, 0, none⟩ t ((w.alloc (.cells #[.pointer (some t)] 106)).alloc (.cells #[.pointer (some ⟨21, 106, none⟩), .pointer (some ⟨w.heap.size, 0, none⟩), .int .u64 150] 124)) (by simp)
  have hg2 : ((w.alloc (.cells #[.pointer (some t)] 106)).alloc (.cells #[.pointer (some ⟨21, 106, none⟩), .pointer (some ⟨w.heap.size, 0, none⟩), .int .u64 150] 124)).cell? ⟨12, 0, none⟩ = some (typAt 34) := by
    rw [World.cell?_alloc_lt _ _ ⟨12, 0, none⟩ (by simp; omega), World.cell?_alloc_lt _ _ ⟨12, 0, none⟩ hlt]; exact hg
  go_enter Tryz.func55, Tryz.ntmps55
  go_wp2
  refine wp_loop_rounds 1 ?_
  rw [rounds_succ]
  go_wp2
  go_ret
  exact ⟨rfl, (((Below.refl _ _).alloc (Nat.le_refl _) _).alloc (by simp) _).alloc (by simp; omega) _⟩
end Go.Proofs.YtmkpeopebddnjaaGreatDoor
