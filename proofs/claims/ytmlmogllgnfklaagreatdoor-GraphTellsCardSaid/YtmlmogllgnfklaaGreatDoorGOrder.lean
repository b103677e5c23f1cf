/-
  Package graph: Order at any rules.
-/
import Derived.Test.YtmlmogllgnfklaaGreatDoorOrder
import Derived.Test.YtmlmogllgnfklaaGreatDoorGAid
namespace Go.Proofs.YtmlmogllgnfklaaGreatDoor
open Go Go.RowKit Go.Kf Go.Sort Go.Proofs

/-- What Order answers. -/
def OrderAns (S : Nat → Addr) (l : List RuleL) (B : Nat) (e : Ending) (w' : World) : Prop :=
  (RightS l ∧ ((∃ o u, orderB (edgesB l) (fun _ => true) l.length = some o ∧ e = .returned (.tuple #[u, .nilIface]) ∧ w'.ownsRow B 3 1 u o.length ((intsB o).map (Value.int .i64))) ∨
    (orderB (edgesB l) (fun _ => true) l.length = none ∧ e = .returned (.tuple #[.slice none 0 0, errI (S 8)])))) ∨ ∃ T x, e = .returned (.tuple #[.slice none 0 0, .iface T x]) ∧ SheetBad S l B (.iface T x) w'

theorem gorder1_any (j : Nat) (w : World) : Calls Tryz.prog 49 #[intE j] w fun e w' => e = .returned (.bool true) ∧ w' = w := by
  go_enter Tryz.func49, Tryz.ntmps49
  go_wp2
  go_ret
  trivial

set_option maxRecDepth 100000 in
set_option maxHeartbeats 4000000 in
theorem gorder_any (R : List RV) (v : Value) (w : World) (S : Nat → Addr) (hR : RulesAt w v R) (hcap : Roomy v) (hm : Ml w) (hE : KErr w S) (hN : NErr w) (ht : Tab w)
    (hb : ∀ x ∈ R, x.1.out.length ≤ 1000000 ∧ x.1.word.length ≤ 100000 ∧ (∀ s ∈ x.1.ins, s.length ≤ 1000000) ∧ x.1.ins.length ≤ 1000) (hn : R.length ≤ 100000) :
    Calls Tryz.prog 15 #[v] w fun e w' => OrderAns S (R.map Prod.fst) w.heap.size e w' ∧ Below w.heap.size w w' := by
  obtain ⟨a, c, hv, -, -⟩ := id hR.1
  rw [List.length_map] at hv
  subst hv
  have KS := Lib.hid (sheet_any R (.slice a R.length c) w S hR hcap hm hE hN ht hb hn)
  have HR := Lib.hid hR
  have HE := Lib.hid hE
  have HB := Lib.hid hb
  have hml : (R.map Prod.fst).length = R.length := List.length_map _
  have HML := Lib.hid hml
  clear hR hcap hm hE hN ht hb hml
  go_enter Tryz.func15, Tryz.ntmps15
  go_wp2_with fail
  refine KS.out.mono ?_
  rintro e w1 ⟨hs, hb1⟩
  rcases sheet_split hs with ⟨hrs, rfl⟩ | ⟨T, x, rfl, hbad⟩
  case inr =>
    have HB1 := Lib.hid hb1
    have HBAD := Lib.hid hbad
    clear hs hb1 hbad
    go_wp2
    go_ret2
    exact ⟨Or.inr ⟨T, x, rfl, HBAD.out⟩, HB1.out⟩
  case inl =>
    have HRS := Lib.hid hrs
    have h40 : R.length ≤ 40 := by have := hrs.1; rw [HML.out] at this; exact this
    have HB1 := Lib.hid hb1
    have KE := Lib.hid (edges_any R (.slice a R.length c) w1 (HR.out.below0 hb1) hrs.2 (by omega) (fun x hx => (HB.out x hx).2.2.2))
    clear hs hb1 hrs KS
    go_wp2_with fail
    refine KE.out.mono ?_
    rintro e w2 ⟨ev, rfl, hea, hb2⟩
    have hev : EdgesV w2 ev R.length (edgesB (R.map Prod.fst)) := by
      have := hea.view (by rw [HML.out]; omega)
      rw [HML.out] at this
      exact this
    have HB2 := Lib.hid (HB1.out.trans (hb2.mono HB1.out.size))
    have HZ := HB2.out.size
    have KO := Lib.hid (order_any ev R.length (edgesB (R.map Prod.fst)) (fun _ => true) 49 #[] w2 hev (fun i k hk => by have h := edges_lt _ i k hk; rw [HML.out] at h; exact h)
      ⟨fun _ _ => rfl, fun W x _ _ => fnGives_drew (gorder1_any x W)⟩ (by omega))
    clear hea hb2 hev KE
    go_wp2_with fail
    refine KO.out.mono ?_
    rintro e w3 ⟨⟨o, u, ho, rfl, how⟩ | ⟨ho, rfl⟩, hb3⟩
    · have HO := Lib.hid ho
      have HOW := Lib.hid how
      have HB3 := Lib.hid (HB2.out.trans (hb3.mono HZ))
      clear ho how hb3 KO
      go_wp2
      go_ret2
      exact ⟨Or.inl ⟨HRS.out, Or.inl ⟨o, u, by rw [HML.out]; exact HO.out, rfl, ownsRow_base HOW.out HZ⟩⟩, HB3.out⟩
    · have HO := Lib.hid ho
      have HB3 := Lib.hid (HB2.out.trans (hb3.mono HZ))
      have hcy := (HE.out.below HB3.out (Nat.le_refl _)).cycle
      clear ho hb3 KO
      go_wp2_with fail
      go_quiet (fail)
      go_wp2
      go_ret2
      exact ⟨Or.inl ⟨HRS.out, Or.inr ⟨by rw [HML.out]; exact HO.out, rfl⟩⟩, by first | exact HB3.out | exact HB3.out.drew | exact below_drewN HB3.out _⟩
end Go.Proofs.YtmlmogllgnfklaaGreatDoor
