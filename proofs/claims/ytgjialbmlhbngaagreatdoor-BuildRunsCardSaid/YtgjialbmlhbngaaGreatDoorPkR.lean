/-
  maps.Clone at a map of texts; tree.Copy. Package graph: Order at any rules. Package want: All.
-/
import Derived.Test.YtgjialbmlhbngaaGreatDoorPkL
import Derived.Laws.Externs
import Derived.MapKept
import Derived.Test.YtgjialbmlhbngaaGreatDoorPkN
import Derived.Test.YtgjialbmlhbngaaGreatDoorPkH
import Derived.Test.YtgjialbmlhbngaaGreatDoorPkO
import Derived.Test.YtgjialbmlhbngaaGreatDoorPkQ

set_option maxRecDepth 100000
namespace Go.Proofs.YtgjialbmlhbngaaGreatDoor
open Go Go.RowKit Go.Kf Go.Sort Go.Proofs
section
variable {P : Program} (w : World)
theorem eqMapNil (d : Nat) (t k e : TypeId) (p : Option Nat) (h : P.underlying t = some (.map k e)) : (Op.equalIn (d + 1) t (.map p) (.map none)).run P w = .ok p.isNone w := by
  cases p <;> simp [Op.equalIn, run_underlying h]
theorem run_eqMapNil (t k e : TypeId) (p : Option Nat) (h : P.underlying t = some (.map k e)) : (binOp .eql t (.map p) (.map none)).run P w = .ok (.bool p.isNone) w := by
  simp only [binOp]
  simp [show Op.equal t (.map p) (.map none) = Op.equalIn (9999 + 1) t (.map p) (.map none) from rfl, eqMapNil w 9999 t k e p h]
theorem run_asMap (t xT k e : TypeId) (v : Value) (h : P.underlying t = some (.map k e)) : (Instr.typeAssert (.iface t v) xT t false).run P w = .ok v w := by
  simp [Instr.typeAssert, run_underlying h, go_sem, Result.andThen]
theorem run_cloneMap {r : Nat} {es : Array MapEntry} {clock : Nat} (t : TypeId) (hb : w.heap[r]? = some (.map es clock)) :
    (Extern.MapsClone.clone #[.iface t (.map (some r))]).run P w = .ok (.iface t (.map (some w.heap.size))) (w.alloc (.map es clock)) := by
  have e : Extern.MapsClone.clone #[.iface t (.map (some r))] = (getObj r >>= fun o => match o with
      | .map entries clock => (newObj (.map entries clock) >>= fun n => pure (.iface t (.map (some n))))
      | _ => stuck "maps.clone: a map expected") := rfl
  rw [e]
  simp [MapKept.run_getObj_map hb, Result.andThen, go_sem]
end
theorem clone_any (b : Nat) (es : Array MapEntry) (clock : Nat) (w : World) (hb : w.heap[b]? = some (.map es clock)) :
    Calls Tryz.prog 153 #[.map (some b)] w fun e w' => e = .returned (.map (some w.heap.size)) ∧ w' = w.alloc (.map es clock) := by
  have hq := fun w => run_eqMapNil (P := Tryz.prog) w 123 _ _ (some b) Tryz.underlying123
  have hx : (callFunc 214 #[.iface 123 (.map (some b))]).run Tryz.prog w = .ok (.value (.iface 123 (.map (some w.heap.size)))) (w.alloc (.map es clock)) := by
    rw [run_callFunc_extern Tryz.func214 (by kernel_rfl) (by kernel_rfl) (by kernel_rfl) (e := Extern.MapsClone.clone) (by kernel_rfl), run_cloneMap w _ hb]
    rfl
  have hy := fun w => run_asMap (P := Tryz.prog) w 123 20 _ _ (.map (some b)) Tryz.underlying123
  have hy2 := fun n w => run_asMap (P := Tryz.prog) w 123 20 _ _ (.map (some n)) Tryz.underlying123
  clear hb
  go_enter Tryz.func153, Tryz.ntmps153
  go_wp2
  go_ret
  exact ⟨rfl, rfl⟩
theorem copy_tree (tb mb : Nat) (m : List Ent) (w : World) (h : TAt w tb mb m) :
    Calls Tryz.prog 85 #[.pointer (some ⟨tb, 0, none⟩)] w fun e w' => e = .returned (.pointer (some ⟨w.heap.size + 1, 0, none⟩)) ∧ TAt w' (w.heap.size + 1) w.heap.size m ∧ Below w.heap.size w w' ∧ w'.heap.size = w.heap.size + 2 := by
  have hc := h.cell
  obtain ⟨es, clock, hb, hm⟩ := h.map
  have HM := Hd hm
  have HK := Hd (clone_any mb es clock w hb)
  clear hb h hm
  go_enter Tryz.func85, Tryz.ntmps85
  go_wp2_with fail
  refine HK.out.mono ?_
  rintro e w1 ⟨rfl, rfl⟩
  go_wp2
  go_ret
  have h1 := heap_alloc_here (w.alloc (.map es clock)) (.cells #[.map (some w.heap.size)] 125)
  rw [show (w.alloc (.map es clock)).heap.size = w.heap.size + 1 by simp] at h1
  exact ⟨rfl, ⟨h1, es, clock, Kf.heap_alloc_old (heap_alloc_here w _) _, HM.out⟩, ((Below.refl _ w).alloc (Nat.le_refl _) _).alloc (by simp) _, by simp⟩
end Go.Proofs.YtgjialbmlhbngaaGreatDoor
