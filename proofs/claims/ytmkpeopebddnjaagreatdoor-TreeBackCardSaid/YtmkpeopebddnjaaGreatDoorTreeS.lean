/-
  The trees between two steps of a law; treed.
-/
import Derived.Test.YtmkpeopebddnjaaGreatDoorTreePure
namespace Go.Proofs.YtmkpeopebddnjaaGreatDoor
open Go Go.RowKit Go.Kf Go.Sort

abbrev ActL := List UInt8 × List UInt8 × List UInt8
abbrev actRow (a : ActL) : List Value := [str a.1, str a.2.1, str a.2.2]

structure Tc (B : Nat) (w0 w : World) (tb mb rb : Nat) (lv : Value) (m L : List Ent) : Prop where
  t : TAt w tb mb m
  r : RTAt B w rb lv L
  f : B ≤ tb ∧ B ≤ mb ∧ B ≤ rb
  b : Below B w0 w
section
variable {B : Nat} {w0 w w' : World} {tb mb rb : Nat} {lv lv' : Value} {m m' L L' : List Ent}
theorem Tc.tr (h : Tc B w0 w tb mb rb lv m L) : tb ≠ rb := fun e => by
  have h1 := h.t.blk
  rw [e, h.r.blk] at h1
  cases h1
theorem Tc.mr (h : Tc B w0 w tb mb rb lv m L) : mb ≠ rb := fun e => by
  obtain ⟨es, clock, h1, -⟩ := h.t.map
  rw [e, h.r.blk] at h1
  cases h1
theorem Tc.own (h : Tc B w0 w tb mb rb lv m L) {k : Nat} (hk : lv.ownBlock = some k) : ∃ cur, w.heap[k]? = some (.cells cur 45 (0, 0)) := by
  rcases h.r.row.2 with ⟨rfl, -⟩ | ⟨g, cap, cur, rfl, -, hh, -⟩
  · cases hk
  · cases hk; exact ⟨_, hh⟩
theorem Tc.lt_ (h : Tc B w0 w tb mb rb lv m L) : ¬ lv.ownBlock = some tb := fun e => by
  obtain ⟨cur, h1⟩ := h.own e
  rw [h.t.blk] at h1
  cases h1
theorem Tc.lm (h : Tc B w0 w tb mb rb lv m L) : ¬ lv.ownBlock = some mb := fun e => by
  obtain ⟨cur, h1⟩ := h.own e
  obtain ⟨es, clock, h2, -⟩ := h.t.map
  rw [h2] at h1
  cases h1
theorem Tc.hB (h : Tc B w0 w tb mb rb lv m L) : B ≤ w.heap.size := Nat.le_trans h.f.1 (Nat.le_of_lt h.t.lt.1)
theorem Tc.below (h : Tc B w0 w tb mb rb lv m L) (hb : Below w.heap.size w w') : Tc B w0 w' tb mb rb lv m L :=
  ⟨h.t.below hb, h.r.below hb, h.f, h.b.trans (hb.mono h.hB)⟩
theorem Tc.tstep (h : Tc B w0 w tb mb rb lv m L) (hT : TAt w' tb mb m') (hF : Fr w.heap.size (fun k => k = mb) w w') : Tc B w0 w' tb mb rb lv m' L :=
  ⟨hT, h.r.of_fr hF (Nat.le_refl _) (fun e => h.mr e.symm) (fun k hk e => h.lm (by rw [← e]; exact hk)), h.f, h.b.trans ((hF.mono (S' := fun k => k = mb) h.hB (fun _ _ h => h)).below (fun k hk e => by have := h.f.2.1; omega))⟩
theorem Tc.rstep (h : Tc B w0 w tb mb rb lv m L) (hR : RTAt B w' rb lv' L') (hF : Fr w.heap.size (fun k => k = rb ∨ lv.ownBlock = some k) w w') : Tc B w0 w' tb mb rb lv' m L' :=
  ⟨h.t.of_fr hF h.t.lt (fun e => e.elim h.tr h.lt_) (fun e => e.elim h.mr h.lm), hR, h.f, h.b.trans ((hF.mono (S' := fun k => k = rb ∨ lv.ownBlock = some k) h.hB (fun _ _ h => h)).below (fun k hk e => by
    have := h.f.2.2
    rcases e with e | e
    · omega
    · have := owned_from h.r.row e; omega))⟩
/-- A block of the law's own stays as it was. -/
theorem Tc.keep_t (_ : Tc B w0 w tb mb rb lv m L) (hF : Fr w.heap.size (fun k => k = mb) w w') {k : Nat} {o : Obj} (hk : w.heap[k]? = some o) (hne : k ≠ mb) : w'.heap[k]? = some o := (hF.block k (lt_of_heap hk) hne).trans hk
theorem Tc.keep_r (_ : Tc B w0 w tb mb rb lv m L) (hF : Fr w.heap.size (fun k => k = rb ∨ lv.ownBlock = some k) w w') {k : Nat} {o : Obj} (hk : w.heap[k]? = some o) (h1 : k ≠ rb) (h2 : ¬ lv.ownBlock = some k) : w'.heap[k]? = some o := (hF.block k (lt_of_heap hk) (fun e => e.elim h1 h2)).trans hk
end

set_option maxRecDepth 100000 in
theorem treed_any (w : World) (S : Nat → Addr) (hm : Ml w) (hE : TErr w S) (ht : Tab w) : Calls Tryz.prog 9 #[] w fun e w' => e = .returned (.bool true) ∧ Below w.heap.size w w' := by
  have HM := Lib.hid hm
  have HE := Lib.hid hE
  have HT := Lib.hid ht
  clear hm hE ht
  go_enter Tryz.func9, Tryz.ntmps9
  go_wp2_with fail
  refine (new_tree w).mono ?_
  rintro e w1 ⟨tb, mb, rfl, h1, h2, hT, hb1⟩
  have K := put_tree tb mb [] [97] [120] w1 S hT (HM.out.below hb1 (Nat.le_refl _)) (HE.out.below hb1 (Nat.le_refl _)) (by decide) (by decide) (fun y hy => by cases hy)
  have e1 : putC [97] [120] [] = 0 := by decide +kernel
  have e2 : putM [97] [120] [] = [([97], [120])] := by unfold putM; rw [e1]; rfl
  rw [e1, e2, show codeV S 0 = .nilIface from rfl] at K
  have K1 := Lib.hid K
  have HB1 := Lib.hid hb1
  clear K hT hb1 e1 e2
  go_wp2_with fail
  refine K1.out.mono ?_
  rintro e w2 ⟨rfl, hT2, hF2⟩
  have hb2 : Below w.heap.size w w2 := HB1.out.trans ((hF2.mono (S' := fun k => k = mb) HB1.out.size (fun _ _ h => h)).below (fun k hk e => by omega))
  have K := text_tree tb mb [([97], [120])] w2 hT2 (tab_below HT.out hb2 (Nat.le_refl _)) (by decide) (by decide) (fun x hx => by simp at hx; subst hx; decide) (fun p => by
    unfold mget mlook
    by_cases hp : ([97] : List UInt8) = p
    · simp [hp]
    · simp [hp, mlook])
  have e1 : linesM [([97], [120])] (sortK [([97], [120])]) = [97, 32, 49, 10, 120, 10] := by
    have e : sortK [([97], [120])] = [[97]] := by simp [sortK]
    have e3 : Lib.decDigits 1 = [49] := by decide +kernel
    rw [e]
    simp [linesM, lineL, mget, mlook, e3]
  rw [e1] at K
  have K2 := Lib.hid K
  have HB2 := Lib.hid hb2
  clear K hT2 hF2 hb2 e1
  go_wp2_with fail
  refine K2.out.mono ?_
  rintro e w3 ⟨rfl, hb3⟩
  go_wp2
  go_ret
  exact ⟨rfl, HB2.out.trans (hb3.mono HB2.out.size)⟩
end Go.Proofs.YtmkpeopebddnjaaGreatDoor
