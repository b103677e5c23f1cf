/-
  errors.As by its contracts, at a target that is the address of a *api.Fault variable: a sentinel misses it, a fault hits it.
-/
import Derived.Test.YtmmgbgekcpbelaaDoorErrs
namespace Go.Proofs.YtmmgbgekcpbelaaDoor
open Go Go.RowKit Go.Kf Go.Extern.Stop Go.Stop Go.Extern

/-- The Value of a pointer that lies at an address of its own. -/
abbrev valAt (t : TypeId) (a : Addr) (n : Int) : Value := .agg #[.pointer (some ⟨19, t, none⟩), .pointer (some a), .int .u64 n]
abbrev typAt (t : TypeId) : Value := .iface 124 (.agg #[.pointer (some ⟨19, t, none⟩)])

theorem aValueOf (t : Addr) (w : World) : (callFunc 61 #[.iface 79 (.pointer (some t))]).run Tryd.prog w
    = .ok (.value (valAt 79 ⟨w.heap.size, 0, none⟩ 150)) (w.alloc (.cells #[.pointer (some t)] 79)) := by kernel_rfl
theorem aValueOfF (t : Addr) (w : World) : (callFunc 61 #[.iface 43 (.pointer (some t))]).run Tryd.prog w
    = .ok (.value (valAt 43 ⟨w.heap.size, 0, none⟩ 150)) (w.alloc (.cells #[.pointer (some t)] 43)) := by kernel_rfl
theorem aType (a : Addr) (w : World) : (callFunc 62 #[valAt 79 a 150]).run Tryd.prog w = .ok (.value (typAt 79)) w := by kernel_rfl
theorem aMethodKind (h : Value) (w : World) : (Go.method 299 124 (.agg #[h]) "Kind").run Tryd.prog w = .ok (132, h) w := by kernel_rfl
theorem aMethodElem (h : Value) (w : World) : (Go.method 299 124 (.agg #[h]) "Elem").run Tryd.prog w = .ok (145, .agg #[h]) w := by kernel_rfl
theorem aMethodImplements (h : Value) (w : World) : (Go.method 299 124 (.agg #[h]) "Implements").run Tryd.prog w = .ok (146, .agg #[h]) w := by kernel_rfl
theorem aMethodAssignable (h : Value) (w : World) : (Go.method 299 124 (.agg #[h]) "AssignableTo").run Tryd.prog w = .ok (143, .agg #[h]) w := by kernel_rfl
theorem aKind2 (w : World) : (callFunc 132 #[.pointer (some ⟨19, 79, none⟩)]).run Tryd.prog w = .ok (.value (.int .u8 22)) w := by kernel_rfl
theorem aKind1 (w : World) : (callFunc 132 #[.pointer (some ⟨19, 43, none⟩)]).run Tryd.prog w = .ok (.value (.int .u8 22)) w := by kernel_rfl
theorem aElem (w : World) : (callFunc 145 #[.agg #[.pointer (some ⟨19, 79, none⟩)]]).run Tryd.prog w = .ok (.value (typAt 43)) w := by kernel_rfl
theorem aImplements (w : World) : (callFunc 146 #[.agg #[.pointer (some ⟨19, 43, none⟩)], typAt 26]).run Tryd.prog w = .ok (.value (.bool true)) w := by kernel_rfl
theorem aTypeOfE (v : Value) (w : World) : (callFunc 65 #[.iface 81 v]).run Tryd.prog w = .ok (.value (typAt 81)) w := by kernel_rfl
theorem aTypeOfF (v : Value) (w : World) : (callFunc 65 #[.iface 43 v]).run Tryd.prog w = .ok (.value (typAt 43)) w := by kernel_rfl
theorem aAssignE (w : World) : (callFunc 143 #[.agg #[.pointer (some ⟨19, 81, none⟩)], typAt 43]).run Tryd.prog w = .ok (.value (.bool false)) w := by kernel_rfl
theorem aAssignF (w : World) : (callFunc 143 #[.agg #[.pointer (some ⟨19, 43, none⟩)], typAt 43]).run Tryd.prog w = .ok (.value (.bool true)) w := by kernel_rfl

/-! ### The entries that read or write memory. -/
theorem aParts (t : TypeId) (a : Addr) (w : World) (h : t = 79) : (ReflectliteValue.parts (valAt t a 150)).run Tryd.prog w = .ok (some (t, a, 150)) w := by subst h; kernel_rfl
theorem aParts1 (a : Addr) (w : World) : (ReflectliteValue.parts (valAt 43 a 150)).run Tryd.prog w = .ok (some (43, a, 150)) w := by kernel_rfl
theorem aParts1a (a : Addr) (w : World) : (ReflectliteValue.parts (valAt 43 a 406)).run Tryd.prog w = .ok (some (43, a, 406)) w := by kernel_rfl
theorem rlm (z : Sem Value) (f : TypeId → Addr → Nat → Nat → Sem Value) (v : Value) :
    ReflectliteValue.method z f #[v] = (do match ← ReflectliteValue.parts v with | none => z | some (t, a, fl) => f t a fl (fl % 32)) := rfl
theorem aIsNil (a p : Addr) (W : World) (ha : W.cell? a = some (.pointer (some p))) :
    (callFunc 63 #[valAt 79 a 150]).run Tryd.prog W = .ok (.value (.bool false)) W := by
  rw [@run_callFunc_extern Tryd.prog 63 _ (ReflectliteValue.method (ReflectliteValue.valueError "reflectlite.Value.IsNil" 0) ReflectliteValue.isNil) Tryd.func63 (by kernel_rfl) (by kernel_rfl) (by kernel_rfl) (by kernel_rfl)]
  rw [rlm]
  simp only [Sem.run_bind, aParts _ _ _ rfl, Result.andThen]
  simp [ReflectliteValue.isNil, loadVar, isAgg, underlying, Tryd.underlying79, ha, Result.andThen]
theorem aElemOf (w : World) : (Rtype.elem? 79).run Tryd.prog w = .ok (some 43) w := by kernel_rfl
theorem aMk (p : Addr) (w : World) : (ReflectliteValue.mk 43 p ReflectliteValue.flagAddr).run Tryd.prog w = .ok (valAt 43 p 406) w := by kernel_rfl
theorem aElemV (a p : Addr) (W : World) (ha : W.cell? a = some (.pointer (some p))) :
    (callFunc 79 #[valAt 79 a 150]).run Tryd.prog W = .ok (.value (valAt 43 p 406)) W := by
  rw [@run_callFunc_extern Tryd.prog 79 _ (ReflectliteValue.method (ReflectliteValue.valueError "reflectlite.Value.Elem" 0) ReflectliteValue.elem) Tryd.func79 (by kernel_rfl) (by kernel_rfl) (by kernel_rfl) (by kernel_rfl)]
  rw [rlm]
  simp only [Sem.run_bind, aParts _ _ _ rfl, Result.andThen]
  simp [ReflectliteValue.elem, loadVar, isAgg, underlying, Tryd.underlying79, ha, Result.andThen, aElemOf, aMk]
theorem rls (v x : Value) : ReflectliteValue.set #[v, x] = (do
    let (some (dst, a, fl), some (src, b, _)) := (← ReflectliteValue.parts v, ← ReflectliteValue.parts x)
      | unsupported (.noEntry "extern/(internal/reflectlite.Value).Set.zeroValue")
    if fl / ReflectliteValue.flagAddr % 2 == 0 then unsupported (.noEntry "extern/(internal/reflectlite.Value).Set.unaddressable")
    let val ← loadVar src b
    if ← Rtype.directlyAssignable dst src then storeVar dst a val
    else if ← Rtype.implements dst src then
      if (← Rtype.kind src) == 20 then
        match val with
        | .nilIface => unsupported (.noEntry "extern/reflectlite: a nil value of one interface type handed on as a value of another")
        | _ => storeVar dst a val
      else storeVar dst a (.iface src val)
    else panicString ("reflectlite.Set: value of type " ++ (← Rtype.spelt src) ++ " is not assignable to type " ++ (← Rtype.spelt dst))
    pure (.tuple #[])) := rfl
theorem aDirect (w : World) : (Rtype.directlyAssignable 43 43).run Tryd.prog w = .ok true w := by kernel_rfl
theorem aSet (ta b e : Addr) (old : Value) (W : World) (hb : W.cell? b = some (.pointer (some e))) (ht : W.cell? ta = some old) (hf : W.frozen? ta = false) :
    (callFunc 80 #[valAt 43 ta 406, valAt 43 b 150]).run Tryd.prog W
      = .ok (.value (.tuple #[])) (W.setCell ta (.pointer (some e))) := by
  rw [@run_callFunc_extern Tryd.prog 80 _ ReflectliteValue.set Tryd.func80 (by kernel_rfl) (by kernel_rfl) (by kernel_rfl) (by kernel_rfl)]
  rw [rls]
  simp only [Sem.run_bind, aParts1a, aParts1, Result.andThen]
  simp [ReflectliteValue.flagAddr, loadVar, isAgg, underlying, Tryd.underlying43, hb, Result.andThen, aDirect, storeVar, Value.cells, storeCells, Addr.add]
  rw [run_store Tryd.prog W ta _ _ (by rfl)]
  simp [ht, hf]

/-- The listed variable errors.errorType, as the program lays it. -/
def ErrType (w : World) : Prop := w.cell? ⟨12, 0, none⟩ = some (typAt 26)

set_option maxRecDepth 1000000 in
set_option maxHeartbeats 4000000 in
/-- errors.As(e, &f), e a sentinel: false. -/
theorem as_miss (e t : Addr) (w : World) (hg : ErrType w) (hlt : 12 < w.heap.size) :
    Calls Tryd.prog 45 #[.iface 81 (.pointer (some e)), .iface 79 (.pointer (some t))] w fun ev w' => ev = .returned (.bool false) ∧ Below w.heap.size w w' := by
  have f6 := aValueOf
  have f7 := aType
  have mK := aMethodKind
  have mE := aMethodElem
  have mI := aMethodImplements
  have mA := aMethodAssignable
  have k2 := aKind2
  have k1 := aKind1
  have el := aElem
  have im := aImplements
  have tO := aTypeOfE
  have asg := aAssignE
  have n1 := eNoAsE
  have n2 := eNoUnwrapE
  have n3 := eNoUnwrapsE
  have n8 := aIsNil ⟨w.heap.size, 0, none⟩ t ((w.alloc (.cells #[.pointer (some t)] 79)).alloc (.cells #[.pointer (some ⟨19, 79, none⟩), .pointer (some ⟨w.heap.size, 0, none⟩), .int .u64 150] 105)) (by simp)
  have hg2 : ((w.alloc (.cells #[.pointer (some t)] 79)).alloc (.cells #[.pointer (some ⟨19, 79, none⟩), .pointer (some ⟨w.heap.size, 0, none⟩), .int .u64 150] 105)).cell? ⟨12, 0, none⟩ = some (typAt 26) := by
    rw [World.cell?_alloc_lt _ _ ⟨12, 0, none⟩ (by simp; omega), World.cell?_alloc_lt _ _ ⟨12, 0, none⟩ hlt]; exact hg
  go_enter Tryd.func45, Tryd.ntmps45
  go_wp2
  refine wp_loop_rounds 1 ?_
  rw [rounds_succ]
  go_wp2
  go_ret
  exact ⟨rfl, (((Below.refl _ _).alloc (Nat.le_refl _) _).alloc (by simp) _).alloc (by simp; omega) _⟩
end Go.Proofs.YtmmgbgekcpbelaaDoor
