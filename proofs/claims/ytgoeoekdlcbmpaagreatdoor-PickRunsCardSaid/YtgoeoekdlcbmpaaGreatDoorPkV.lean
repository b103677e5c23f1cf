/-
  errors.Is and errors.As by their contracts, at the errors that this program makes: a sentinel (a pointer to an errors.errorString) and a *api.Fault round one.
-/
import Derived.Test.YtgoeoekdlcbmpaaGreatDoorPkA
import Derived.Test.YtgoeoekdlcbmpaaGreatDoorChecked
import Derived.LaidEql
import Derived.Stop.Asserts
import Derived.RowKitTokens

namespace Go.Proofs.YtgoeoekdlcbmpaaGreatDoor
open Go Go.RowKit Go.Kf Go.Extern.Stop Go.Stop Go.Extern

/-! ### Closed facts: types and method sets. -/
theorem eTypeOf (v : Value) (w : World) : (Extern.ReflectliteType.typeOf #[.iface 319 v]).run Tryz.prog w = .ok (.iface 258 (.agg #[.pointer (some ⟨21, 319, none⟩)])) w := by kernel_rfl
theorem eComparable (w : World) : ((Extern.ReflectliteType.method fun t => do Extern.Rtype.noPackHeld "Comparable" t; (fun a => Value.bool a.comparable) <$> typeInfo t) #[.agg #[.pointer (some ⟨21, 319, none⟩)]]).run Tryz.prog w = .ok (.bool true) w := by kernel_rfl
theorem eMethodComparable (v : Value) (w : World) : (Go.method 451 258 v "Comparable").run Tryz.prog w = .ok (294, v) w := by kernel_rfl
theorem eComp : (Tryz.prog.info? 319).map (·.comparable) = some true := by kernel_rfl
theorem eSize : (Tryz.prog.info? 321).map (·.size) = some 1 := by kernel_rfl
theorem eNoIsE (v : Value) (xT : TypeId) (w : World) : (Instr.typeAssert (.iface 319 v) xT 269 true).run Tryz.prog w = .ok (.tuple #[.nilIface, .bool false]) w := run_typeAssert_lacksB Tryz.underlying269 (by kernel_rfl) (by kernel_rfl) v xT w
theorem eNoAsE (v : Value) (xT : TypeId) (w : World) : (Instr.typeAssert (.iface 319 v) xT 262 true).run Tryz.prog w = .ok (.tuple #[.nilIface, .bool false]) w := run_typeAssert_lacksB Tryz.underlying262 (by kernel_rfl) (by kernel_rfl) v xT w
theorem eNoUnwrapE (v : Value) (xT : TypeId) (w : World) : (Instr.typeAssert (.iface 319 v) xT 265 true).run Tryz.prog w = .ok (.tuple #[.nilIface, .bool false]) w := run_typeAssert_lacksB Tryz.underlying265 (by kernel_rfl) (by kernel_rfl) v xT w
theorem eNoUnwrapsE (v : Value) (xT : TypeId) (w : World) : (Instr.typeAssert (.iface 319 v) xT 267 true).run Tryz.prog w = .ok (.tuple #[.nilIface, .bool false]) w := run_typeAssert_lacksB Tryz.underlying267 (by kernel_rfl) (by kernel_rfl) v xT w
set_option maxRecDepth 1000000 in
/-- errors.Is(x, x). -/
theorem is_same (a : Addr) (w : World) :
    Calls Tryz.prog 119 #[.iface 319 (.pointer (some a)), .iface 319 (.pointer (some a))] w fun e w' => e = .returned (.bool true) ∧ w' = w := by
  obtain ⟨i, hi, hcmp⟩ := Option.map_eq_some_iff.1 eComp
  obtain ⟨j, hj, hjs⟩ := Option.map_eq_some_iff.1 eSize
  have h8 := @run_callFunc_extern Tryz.prog 167 _ Extern.ReflectliteType.typeOf Tryz.func167 (by kernel_rfl) (by kernel_rfl) (by kernel_rfl) (by kernel_rfl)
  have h32 := @run_callFunc_extern Tryz.prog 294 _ (Extern.ReflectliteType.method fun t => do Extern.Rtype.noPackHeld "Comparable" t; pure (.bool (← typeInfo t).comparable)) Tryz.func294 (by kernel_rfl) (by kernel_rfl) (by kernel_rfl) (by kernel_rfl)
  have tT := eTypeOf
  have cT := eComparable
  have mR := eMethodComparable
  have heq := run_eql_iface_ptr_same (P := Tryz.prog) w a Tryz.underlying37 Tryz.underlying319 hi hcmp hj
  go_enter Tryz.func119, Tryz.ntmps119
  go_wp2
  refine wp_loop_rounds 1 ?_
  rw [rounds_succ]
  go_wp2
  go_ret
  exact ⟨rfl, rfl⟩

set_option maxRecDepth 1000000 in
/-- errors.Is(x, y), two sentinels. -/
theorem is_other (a b : Addr) (ca cb : Array Value) (ta tb : TypeId) (w : World) (hne : a ≠ b) (ha : w.heap[a.block]? = some (.cells ca ta (0, 0))) (hb : w.heap[b.block]? = some (.cells cb tb (0, 0))) :
    Calls Tryz.prog 119 #[.iface 319 (.pointer (some a)), .iface 319 (.pointer (some b))] w fun e w' => e = .returned (.bool false) ∧ w' = w := by
  obtain ⟨i, hi, hcmp⟩ := Option.map_eq_some_iff.1 eComp
  obtain ⟨j, hj, hjs⟩ := Option.map_eq_some_iff.1 eSize
  have h8 := @run_callFunc_extern Tryz.prog 167 _ Extern.ReflectliteType.typeOf Tryz.func167 (by kernel_rfl) (by kernel_rfl) (by kernel_rfl) (by kernel_rfl)
  have h32 := @run_callFunc_extern Tryz.prog 294 _ (Extern.ReflectliteType.method fun t => do Extern.Rtype.noPackHeld "Comparable" t; pure (.bool (← typeInfo t).comparable)) Tryz.func294 (by kernel_rfl) (by kernel_rfl) (by kernel_rfl) (by kernel_rfl)
  have tT := eTypeOf
  have cT := eComparable
  have mR := eMethodComparable
  have nE := eNoIsE
  have uE := eNoUnwrapE
  have vE := eNoUnwrapsE
  have heq := run_eql_iface_ptr_other (P := Tryz.prog) w Tryz.underlying37 Tryz.underlying319 hi hcmp hj (by rw [hjs]; decide) hne ha hb
  go_enter Tryz.func119, Tryz.ntmps119
  go_wp2
  refine wp_loop_rounds 1 ?_
  rw [rounds_succ]
  go_wp2
  go_ret
  exact ⟨rfl, rfl⟩

end Go.Proofs.YtgoeoekdlcbmpaaGreatDoor

/-
  errors.As by its contracts, at a target that is the address of a *api.Fault variable: a sentinel misses it, a fault hits it.
-/
namespace Go.Proofs.YtgoeoekdlcbmpaaGreatDoor
open Go Go.RowKit Go.Kf Go.Extern.Stop Go.Stop Go.Extern

/-- The Value of a pointer that lies at an address of its own. -/
abbrev valAt (t : TypeId) (a : Addr) (n : Int) : Value := .agg #[.pointer (some ⟨21, t, none⟩), .pointer (some a), .int .u64 n]
abbrev typAt (t : TypeId) : Value := .iface 258 (.agg #[.pointer (some ⟨21, t, none⟩)])

theorem aValueOf (t : Addr) (w : World) : (callFunc 163 #[.iface 193 (.pointer (some t))]).run Tryz.prog w
    = .ok (.value (valAt 193 ⟨w.heap.size, 0, none⟩ 150)) (w.alloc (.cells #[.pointer (some t)] 193)) := by kernel_rfl
theorem aType (a : Addr) (w : World) : (callFunc 164 #[valAt 193 a 150]).run Tryz.prog w = .ok (.value (typAt 193)) w := by kernel_rfl
theorem aMethodKind (h : Value) (w : World) : (Go.method 451 258 (.agg #[h]) "Kind").run Tryz.prog w = .ok (280, h) w := by kernel_rfl
theorem aMethodElem (h : Value) (w : World) : (Go.method 451 258 (.agg #[h]) "Elem").run Tryz.prog w = .ok (295, .agg #[h]) w := by kernel_rfl
theorem aMethodImplements (h : Value) (w : World) : (Go.method 451 258 (.agg #[h]) "Implements").run Tryz.prog w = .ok (296, .agg #[h]) w := by kernel_rfl
theorem aMethodAssignable (h : Value) (w : World) : (Go.method 451 258 (.agg #[h]) "AssignableTo").run Tryz.prog w = .ok (293, .agg #[h]) w := by kernel_rfl
theorem aKind2 (w : World) : (callFunc 280 #[.pointer (some ⟨21, 193, none⟩)]).run Tryz.prog w = .ok (.value (.int .u8 22)) w := by kernel_rfl
theorem aKind1 (w : World) : (callFunc 280 #[.pointer (some ⟨21, 160, none⟩)]).run Tryz.prog w = .ok (.value (.int .u8 22)) w := by kernel_rfl
theorem aElem (w : World) : (callFunc 295 #[.agg #[.pointer (some ⟨21, 193, none⟩)]]).run Tryz.prog w = .ok (.value (typAt 160)) w := by kernel_rfl
theorem aImplements (w : World) : (callFunc 296 #[.agg #[.pointer (some ⟨21, 160, none⟩)], typAt 37]).run Tryz.prog w = .ok (.value (.bool true)) w := by kernel_rfl
theorem aTypeOfE (v : Value) (w : World) : (callFunc 167 #[.iface 319 v]).run Tryz.prog w = .ok (.value (typAt 319)) w := by kernel_rfl
theorem aAssignE (w : World) : (callFunc 293 #[.agg #[.pointer (some ⟨21, 319, none⟩)], typAt 160]).run Tryz.prog w = .ok (.value (.bool false)) w := by kernel_rfl
/-! ### The entries that read or write memory. -/
theorem aParts (t : TypeId) (a : Addr) (w : World) (h : t = 193) : (ReflectliteValue.parts (valAt t a 150)).run Tryz.prog w = .ok (some (t, a, 150)) w := by subst h; kernel_rfl
theorem rlm (z : Sem Value) (f : TypeId → Addr → Nat → Nat → Sem Value) (v : Value) :
    ReflectliteValue.method z f #[v] = (do match ← ReflectliteValue.parts v with | none => z | some (t, a, fl) => f t a fl (fl % 32)) := rfl
theorem aIsNil (a p : Addr) (W : World) (ha : W.cell? a = some (.pointer (some p))) :
    (callFunc 165 #[valAt 193 a 150]).run Tryz.prog W = .ok (.value (.bool false)) W := by
  rw [@run_callFunc_extern Tryz.prog 165 _ (ReflectliteValue.method (ReflectliteValue.valueError "reflectlite.Value.IsNil" 0) ReflectliteValue.isNil) Tryz.func165 (by kernel_rfl) (by kernel_rfl) (by kernel_rfl) (by kernel_rfl)]
  rw [rlm]
  simp only [Sem.run_bind, aParts _ _ _ rfl, Result.andThen]
  simp [ReflectliteValue.isNil, loadVar, isAgg, underlying, Tryz.underlying193, ha, Result.andThen]
/-- The listed variable errors.errorType, as the program lays it. -/
def ErrType (w : World) : Prop := w.cell? ⟨12, 0, none⟩ = some (typAt 37)

set_option maxRecDepth 1000000 in
set_option maxHeartbeats 4000000 in
/-- errors.As(e, &f), e a sentinel: false. -/
theorem as_miss (e t : Addr) (w : World) (hg : ErrType w) (hlt : 12 < w.heap.size) :
    Calls Tryz.prog 118 #[.iface 319 (.pointer (some e)), .iface 193 (.pointer (some t))] w fun ev w' => ev = .returned (.bool false) ∧ Below w.heap.size w w' := by
  have f6 := aValueOf
  have f7 := aType
  have mK := aMethodKind
  have mE := aMethodElem
  have mI := aMethodImplements
  have mA := aMethodAssignable
  have k2 := aKind2
  have k1 := aKind1
  have el := aElem
  have im := aImplements
  have tO := aTypeOfE
  have asg := aAssignE
  have n1 := eNoAsE
  have n2 := eNoUnwrapE
  have n3 := eNoUnwrapsE
  have n8 := aIsNil ⟨w.heap.size, 0, none⟩ t ((w.alloc (.cells #[.pointer (some t)] 193)).alloc (.cells #[.pointer (some ⟨21, 193, none⟩), .pointer (some ⟨w.heap.size, 0, none⟩), .int .u64 150] 225)) (by simp)
  have hg2 : ((w.alloc (.cells #[.pointer (some t)] 193)).alloc (.cells #[.pointer (some ⟨21, 193, none⟩), .pointer (some ⟨w.heap.size, 0, none⟩), .int .u64 150] 225)).cell? ⟨12, 0, none⟩ = some (typAt 37) := by
    rw [World.cell?_alloc_lt _ _ ⟨12, 0, none⟩ (by simp; omega), World.cell?_alloc_lt _ _ ⟨12, 0, none⟩ hlt]; exact hg
  go_enter Tryz.func118, Tryz.ntmps118
  go_wp2
  refine wp_loop_rounds 1 ?_
  rw [rounds_succ]
  go_wp2
  go_ret
  exact ⟨rfl, (((Below.refl _ _).alloc (Nat.le_refl _) _).alloc (by simp) _).alloc (by simp; omega) _⟩
end Go.Proofs.YtgoeoekdlcbmpaaGreatDoor
