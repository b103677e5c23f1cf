/-
  maps.Clone at a map of texts; tree.Copy. Package graph: Order at any rules. Package want: All.
-/
import Derived.Test.YtgjialbmlhbngaaGreatDoorPkL
import Derived.Laws.Externs
import Derived.MapKept
import Derived.Test.YtgjialbmlhbngaaGreatDoorPkN
import Derived.Test.YtgjialbmlhbngaaGreatDoorPkH
import Derived.Test.YtgjialbmlhbngaaGreatDoorPkO
import Derived.Test.YtgjialbmlhbngaaGreatDoorPkQ

set_option maxRecDepth 100000
namespace Go.Proofs.YtgjialbmlhbngaaGreatDoor
open Go Go.RowKit Go.Kf Go.Sort Go.Proofs
section
variable {P : Program} (w : World)
theorem eqMapNil (d : Nat) (t k e : TypeId) (p : Option Nat) (h : P.underlying t = some (.map k e)) : (Op.equalIn (d + 1) t (.map p) (.map none)).run P w = .ok p.isNone w := by
  cases p <;> simp [Op.equalIn, run_underlying h]
theorem run_eqMapNil (t k e : TypeId) (p : Option Nat) (h : P.underlying t = some (.map k e)) : (binOp .eql t (.map p) (.map none)).run P w = .ok (.bool p.isNone) w := by
  simp only [binOp]
  simp [show Op.equal t (.map p) (.map none) = Op.equalIn (9999 + 1) t (.map p) (.map none) from rfl, eqMapNil w 9999 t k e p h]
theorem run_asMap (t xT k e : TypeId) (v : Value) (h : P.underlying t = some (.map k e)) : (Instr.typeAssert (.iface t v) xT t false).run P w = .ok v w := by
  simp [Instr.typeAssert, run_underlying h, go_sem, Result.andThen]
theorem run_cloneMap {r : Nat} {es : Array MapEntry} {clock : Nat} (t : TypeId) (hb : w.heap[r]? = some (.map es clock)) :
    (Extern.MapsClone.clone #[.iface t (.map (some r))]).run P w = .ok (.iface t (.map (some w.heap.size))) (w.alloc (.map es clock)) := by
  have e : Extern.MapsClone.clone #[.iface t (.map (some r))] = (getObj r >>= fun o => match o with
      | .map entries clock => (newObj (.map entries clock) >>= fun n => pure (.iface t (.map (some n))))
      | _ => stuck "maps.clone: a map expected") := rfl
  rw [e]
  simp [MapKept.run_getObj_map hb, Result.andThen, go_sem]
end
theorem clone_any (b : Nat) (es : Array MapEntry) (clock : Nat) (w : World) (hb : w.heap[b]? = some (.map es clock)) :
    Calls Tryz.prog 153 #[.map (some b)] w fun e w' => e = .returned (.map (some w.heap.size)) ∧ w' = w.alloc (.map es clock) := by
  have hq := fun w => run_eqMapNil (P := Tryz.prog) w 123 _ _ (some b) Tryz.underlying123
  have hx : (callFunc 214 #[.iface 123 (.map (some b))]).run Tryz.prog w = .ok (.value (.iface 123 (.map (some w.heap.size)))) (w.alloc (.map es clock)) := by
    rw [run_callFunc_extern Tryz.func214 (by kernel_rfl) (by kernel_rfl) (by kernel_rfl) (e := Extern.MapsClone.clone) (by kernel_rfl), run_cloneMap w _ hb]
    rfl
  have hy := fun w => run_asMap (P := Tryz.prog) w 123 20 _ _ (.map (some b)) Tryz.underlying123
  have hy2 := fun n w => run_asMap (P := Tryz.prog) w 123 20 _ _ (.map (some n)) Tryz.underlying123
  clear hb
  go_enter Tryz.func153, Tryz.ntmps153
  go_wp2
  go_ret
  exact ⟨rfl, rfl⟩
theorem copy_tree (tb mb : Nat) (m : List Ent) (w : World) (h : TAt w tb mb m) :
    Calls Tryz.prog 85 #[.pointer (some ⟨tb, 0, none⟩)] w fun e w' => e = .returned (.pointer (some ⟨w.heap.size + 1, 0, none⟩)) ∧ TAt w' (w.heap.size + 1) w.heap.size m ∧ Below w.heap.size w w' ∧ w'.heap.size = w.heap.size + 2 := by
  have hc := h.cell
  obtain ⟨es, clock, hb, hm⟩ := h.map
  have HM := Hd hm
  have HK := Hd (clone_any mb es clock w hb)
  clear hb h hm
  go_enter Tryz.func85, Tryz.ntmps85
  go_wp2_with fail
  refine HK.out.mono ?_
  rintro e w1 ⟨rfl, rfl⟩
  go_wp2
  go_ret
  have h1 := heap_alloc_here (w.alloc (.map es clock)) (.cells #[.map (some w.heap.size)] 125)
  rw [show (w.alloc (.map es clock)).heap.size = w.heap.size + 1 by simp] at h1
  exact ⟨rfl, ⟨h1, es, clock, Kf.heap_alloc_old (heap_alloc_here w _) _, HM.out⟩, ((Below.refl _ w).alloc (Nat.le_refl _) _).alloc (by simp) _, by simp⟩
def OrderAns (S : Nat → Addr) (l : List RuleL) (B : Nat) (e : Ending) (w' : World) : Prop :=
  (RightS l ∧ ((∃ o u, orderB (edgesB l) (fun _ => true) l.length = some o ∧ e = .returned (.tuple #[u, .nilIface]) ∧ w'.ownsRow B 3 1 u o.length ((intsB o).map (Value.int .i64))) ∨
    (orderB (edgesB l) (fun _ => true) l.length = none ∧ e = .returned (.tuple #[.slice none 0 0, errI (S 8)])))) ∨ ∃ T x, e = .returned (.tuple #[.slice none 0 0, .iface T x]) ∧ SheetBad S l B (.iface T x) w'
theorem gorder1_any (j : Nat) (w : World) : Calls Tryz.prog 137 #[intE j] w fun e w' => e = .returned (.bool true) ∧ w' = w := by
  go_enter Tryz.func137, Tryz.ntmps137
  go_wp2
  go_ret
  trivial
set_option maxHeartbeats 4000000 in
theorem gorder_any (R : List RV) (v : Value) (w : World) (S : Nat → Addr) (hR : RulesAt w v R) (hcap : Roomy v) (hm : Ml w) (hE : KErr w S) (hN : NErr w) (ht : Tab w)
    (hb : ∀ x ∈ R, x.1.out.length ≤ 1000000 ∧ x.1.word.length ≤ 100000 ∧ (∀ s ∈ x.1.ins, s.length ≤ 1000000) ∧ x.1.ins.length ≤ 1000) (hn : R.length ≤ 100000) :
    Calls Tryz.prog 67 #[v] w fun e w' => OrderAns S (R.map Prod.fst) w.heap.size e w' ∧ Below w.heap.size w w' := by
  obtain ⟨a, c, hv, -, -⟩ := id hR.1
  rw [List.length_map] at hv
  subst hv
  have KS := Hd (sheet_any R (.slice a R.length c) w S hR hcap hm hE hN ht hb hn)
  have HR := Hd hR
  have HE := Hd hE
  have HB := Hd hb
  have hml : (R.map Prod.fst).length = R.length := List.length_map _
  have HML := Hd hml
  clear hR hcap hm hE hN ht hb hml
  go_enter Tryz.func67, Tryz.ntmps67
  go_wp2_with fail
  refine KS.out.mono ?_
  rintro e w1 ⟨hs, hb1⟩
  rcases sheet_split hs with ⟨hrs, rfl⟩ | ⟨T, x, rfl, hbad⟩
  case inr =>
    have HB1 := Hd hb1
    have HBAD := Hd hbad
    clear hs hb1 hbad
    go_wp2
    go_ret2
    exact ⟨Or.inr ⟨T, x, rfl, HBAD.out⟩, HB1.out⟩
  case inl =>
    have HRS := Hd hrs
    have h40 : R.length ≤ 40 := by have := hrs.1; rw [HML.out] at this; exact this
    have HB1 := Hd hb1
    have KE := Hd (edges_any R (.slice a R.length c) w1 (HR.out.below0 hb1) hrs.2 (by omega) (fun x hx => (HB.out x hx).2.2.2))
    clear hs hb1 hrs KS
    go_wp2_with fail
    refine KE.out.mono ?_
    rintro e w2 ⟨ev, rfl, hea, hb2⟩
    have hev : EdgesV w2 ev R.length (edgesB (R.map Prod.fst)) := by
      have := hea.view (by rw [HML.out]; omega)
      rw [HML.out] at this
      exact this
    have HB2 := Hd (HB1.out.trans (hb2.mono HB1.out.size))
    have HZ := HB2.out.size
    have KO := Hd (order_any ev R.length (edgesB (R.map Prod.fst)) (fun _ => true) 137 #[] w2 hev (fun i k hk => by have h := edges_lt _ i k hk; rw [HML.out] at h; exact h)
      ⟨fun _ _ => rfl, fun W x _ _ => fnGives_drew (gorder1_any x W)⟩ (by omega))
    clear hea hb2 hev KE
    go_wp2_with fail
    refine KO.out.mono ?_
    rintro e w3 ⟨⟨o, u, ho, rfl, how⟩ | ⟨ho, rfl⟩, hb3⟩
    · have HO := Hd ho
      have HOW := Hd how
      have HB3 := Hd (HB2.out.trans (hb3.mono HZ))
      clear ho how hb3 KO
      go_wp2
      go_ret2
      exact ⟨Or.inl ⟨HRS.out, Or.inl ⟨o, u, by rw [HML.out]; exact HO.out, rfl, ownsRow_base HOW.out HZ⟩⟩, HB3.out⟩
    · have HO := Hd ho
      have HB3 := Hd (HB2.out.trans (hb3.mono HZ))
      have hcy := (HE.out.below HB3.out (Nat.le_refl _)).cycle
      clear ho hb3 KO
      go_wp2_with fail
      go_quiet (fail)
      go_wp2
      go_ret2
      exact ⟨Or.inl ⟨HRS.out, Or.inr ⟨by rw [HML.out]; exact HO.out, rfl⟩⟩, by first | exact HB3.out | exact HB3.out.drew | exact below_drewN HB3.out _⟩
end Go.Proofs.YtgjialbmlhbngaaGreatDoor
