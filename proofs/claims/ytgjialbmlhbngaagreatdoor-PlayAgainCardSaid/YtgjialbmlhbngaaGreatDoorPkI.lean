/-
  The reference's order, in plain words. LongTexts at any texts. The laws' LongRules and OwnRules at any rules. What the laws of what is wanted stand on. What is wanted of files, by rules, in plain words.
-/
import Derived.Test.YtgjialbmlhbngaaGreatDoorPkH
import Derived.Test.YtgjialbmlhbngaaGreatDoorPkG
import Derived.Test.YtgjialbmlhbngaaGreatDoorPkC
import Derived.Test.YtgjialbmlhbngaaGreatDoorPkF
import Derived.Test.YtgjialbmlhbngaaGreatDoorPkE

namespace Go.Proofs.YtgjialbmlhbngaaGreatDoor
open Go Go.RowKit Go.Kf Go.Sort Go.Proofs

end Go.Proofs.YtgjialbmlhbngaaGreatDoor

/-
  The reference: AllOf, OrderOf; the laws' numbers.
-/
namespace Go.Proofs.YtgjialbmlhbngaaGreatDoor
open Go Go.RowKit Go.Kf Go.Sort Go.Proofs

end Go.Proofs.YtgjialbmlhbngaaGreatDoor

/-
  The reference: NeededOf.
-/
namespace Go.Proofs.YtgjialbmlhbngaaGreatDoor
open Go Go.RowKit Go.Kf Go.Sort Go.Proofs

theorem needL_nodup (n : Nat) (N : List Nat) : (needL n N).Nodup := List.Pairwise.filter _ List.nodup_range
end Go.Proofs.YtgjialbmlhbngaaGreatDoor

namespace Go.Proofs.YtgjialbmlhbngaaGreatDoor
open Go Go.RowKit Go.Kf

/-- What LongTexts lets pass. -/
def FewTexts (l : List (List UInt8)) (many most : Nat) : Prop := l.length ≤ many ∧ (∀ s ∈ l, s.length ≤ most) ∧ (l.map List.length).sum ≤ most
end Go.Proofs.YtgjialbmlhbngaaGreatDoor

namespace Go.Proofs.YtgjialbmlhbngaaGreatDoor
open Go Go.RowKit Go.Kf Go.Sort Go.Proofs

/-- A rule that is short. -/
def ShortR (r : RuleL) : Prop := r.out.length ≤ 100 ∧ r.kind.length ≤ 60 ∧ r.word.length ≤ 150 ∧ FewTexts r.ins 12 300
theorem ownsRow_roomy {w : World} {base : Nat} {e : TypeId} {s : Nat} {v : Value} {n : Nat} {xs : List Value} (h : w.ownsRow base e s v n xs) : Roomy v := by
  rcases h.2 with ⟨rfl, -⟩ | ⟨g, cap, cur, rfl, -, -, hcn, -⟩
  · intro a n c h
    cases h
    exact Nat.le_refl _
  · intro a n c h
    cases h
    exact hcn

theorem tyRules : SliceTyK Tryz.prog 22 35 (.agg #[str [], str [], str [], .slice none 0 0]) 4 72 := ⟨Tryz.underlying22, by kernel_rfl, rfl, by decide⟩
/-- The rules of the call's own: the row, and each one's inputs, in a block of their own. -/
def OwnAt (B : Nat) (w : World) (v : Value) (R : List RV) : Prop :=
  w.ownsRow B 35 4 v R.length (R.map rvRow).flatten ∧ ∀ x ∈ R, w.ownsRow B 9 1 x.2 x.1.ins.length (x.1.ins.map str) ∧ ∀ k, x.2.ownBlock = some k → v.ownBlock ≠ some k
theorem OwnAt.rules {B : Nat} {w : World} {v : Value} {R : List RV} (h : OwnAt B w v R) : RulesAt w v R ∧ Roomy v :=
  ⟨⟨ownsRow_readsK h.1 (List.length_map _) (fun r hr => by obtain ⟨x, -, rfl⟩ := List.mem_map.1 hr; rfl), fun x hx => ⟨ownsRow_reads (h.2 x hx).1, ownsRow_roomy (h.2 x hx).1⟩⟩, ownsRow_roomy h.1⟩
end Go.Proofs.YtgjialbmlhbngaaGreatDoor

/-
  The laws' OwnRules at any rules.
-/
namespace Go.Proofs.YtgjialbmlhbngaaGreatDoor
open Go Go.RowKit Go.Kf Go.Sort Go.Proofs

theorem OwnAt.fr {B : Nat} {w w' : World} {v : Value} {R : List RV} (h : OwnAt B w v R) (hb : Below w.heap.size w w') : OwnAt B w' v R :=
  ⟨ownsRow_fr (S := fun _ => False) h.1 (Fr.of_below hb) (fun k hk => ⟨(h.1.lt k hk).2, id⟩), fun x hx => ⟨ownsRow_fr (S := fun _ => False) (h.2 x hx).1 (Fr.of_below hb) (fun k hk => ⟨((h.2 x hx).1.lt k hk).2, id⟩), (h.2 x hx).2⟩⟩

end Go.Proofs.YtgjialbmlhbngaaGreatDoor

namespace Go.Proofs.YtgjialbmlhbngaaGreatDoor
open Go Go.RowKit Go.Kf Go.Sort Go.Proofs

theorem own_rulesT {w : World} {v : Value} {R : List RV} (h : ∃ B, OwnAt B w v R) : RulesAt w v R ∧ Roomy v := by
  obtain ⟨B, h⟩ := h
  exact h.rules
theorem reach_congr {E : Nat → List Nat} {a b : List Nat} (h : ∀ k, k ∈ a ↔ k ∈ b) (k : Nat) : Reach E a k ↔ Reach E b k := by
  constructor
  · intro hr
    induction hr with
    | base hk => exact .base ((h _).1 hk)
    | step _ hk ih => exact .step ih hk
  · intro hr
    induction hr with
    | base hk => exact .base ((h _).2 hk)
    | step _ hk ih => exact .step ih hk
/-- The places of outs are those that they are. -/
theorem places_same {l : List RuleL} {outs : List (List UInt8)} {a b : List Nat} (hr : Right l) (ha : PlacesAt l outs a) (hb : PlacesAt l outs b) (k : Nat) : k ∈ a ↔ k ∈ b := by
  constructor
  · intro hk
    have hkl := ha.1 k hk
    exact (hb.mem hr hkl).2 ((ha.mem hr hkl).1 hk)
  · intro hk
    have hkl := hb.1 k hk
    exact (ha.mem hr hkl).2 ((hb.mem hr hkl).1 hk)
end Go.Proofs.YtgjialbmlhbngaaGreatDoor

namespace Go.Proofs.YtgjialbmlhbngaaGreatDoor
open Go Go.RowKit Go.Kf Go.Sort Go.Proofs

/-- What is told: an error's number (0: none), bytes. -/
abbrev Told := Nat × List UInt8
abbrev Look := List UInt8 → Option (List UInt8)
/-- What a rule makes of what its inputs tell. -/
def toldOf (r : RuleL) (xs : List Told) : Told := match xs.find? (fun x => decide (x.1 ≠ 0)) with
  | some x => x
  | none => actOf r.kind r.word (xs.map Prod.snd)
def leafT (T : Look) (p : List UInt8) : Told := match T p with
  | some b => (0, b)
  | none => (6, [])
def wantF (l : List RuleL) (T : Look) : Nat → List UInt8 → Told
  | 0, _ => (0, [])
  | f + 1, p => match l.find? (fun r => r.out == p) with
    | some r => toldOf r (r.ins.map (wantF l T f))
    | none => leafT T p
def wantV (l : List RuleL) (T : Look) (p : List UInt8) : Told := wantF l T (l.length + 2) p

theorem find_out {l : List RuleL} (hr : Right l) {i : Nat} (hi : i < l.length) : l.find? (fun r => r.out == l[i].out) = some l[i] := by
  rw [List.find?_eq_some_iff_getElem]
  refine ⟨by simp, i, hi, rfl, fun j hj => ?_⟩
  have : l[j].out ≠ l[i].out := fun e => by
    have := hr.outs (by omega) hi e
    omega
  simpa using this
theorem find_noout {l : List RuleL} {p : List UInt8} (h : p ∉ l.map RuleL.out) : l.find? (fun r => r.out == p) = none := by
  rw [List.find?_eq_none]
  intro r hr e
  exact h (List.mem_map.2 ⟨r, hr, by simpa using e⟩)
theorem out_cases (l : List RuleL) (p : List UInt8) : (∃ i, ∃ h : i < l.length, l[i].out = p) ∨ p ∉ l.map RuleL.out := by
  by_cases h : p ∈ l.map RuleL.out
  · obtain ⟨r, hr, e⟩ := List.mem_map.1 h
    obtain ⟨i, hi, rfl⟩ := List.mem_iff_getElem.1 hr
    exact Or.inl ⟨i, hi, e⟩
  · exact Or.inr h
/-- Those of an order are all that are so. -/
theorem order_mem {E : Nat → List Nat} {isB : Nat → Bool} {n : Nat} {o : List Nat} (h : orderB E isB n = some o) : Outs E isB n o ∧ ∀ i, i < n → isB i = true → i ∈ o := by
  unfold orderB at h
  obtain ⟨h1, h2⟩ := (orderGo_outs (manyB isB n) [] (outs_nil E isB n)).1 o h
  refine ⟨h1, fun i hi hb => Classical.byContradiction (fun hm => ?_)⟩
  have hs := nodup_sub (i :: o) ((List.range n).filter isB) (List.nodup_cons.2 ⟨hm, h1.nd⟩) (fun k hk => by
    rcases List.mem_cons.1 hk with rfl | hk
    · exact List.mem_filter.2 ⟨List.mem_range.2 hi, hb⟩
    · have := h1.lt k hk
      exact List.mem_filter.2 ⟨List.mem_range.2 this.1, this.2⟩)
  have hm : ((List.range n).filter isB).length = manyB isB n := rfl
  simp only [List.length_cons, List.length_nil, Nat.zero_add] at hs h2
  omega
theorem wantF_leaf {l : List RuleL} {T : Look} {p : List UInt8} (h : p ∉ l.map RuleL.out) (f : Nat) : wantF l T (f + 1) p = leafT T p := by
  unfold wantF
  rw [find_noout h]
theorem wantF_rule {l : List RuleL} {T : Look} (hr : Right l) {i : Nat} (hi : i < l.length) (f : Nat) : wantF l T (f + 1) l[i].out = toldOf l[i] (l[i].ins.map (wantF l T f)) := by
  conv => lhs; unfold wantF
  rw [find_out hr hi]
theorem want_stable {l : List RuleL} {T : Look} {isB : Nat → Bool} {o : List Nat} (hr : Right l) (ho : Outs (edgesB l) isB l.length o) :
    ∀ (t : Nat) (ht : t < o.length) (hn : o[t] < l.length) (f f' : Nat), t + 2 ≤ f → t + 2 ≤ f' → wantF l T f l[o[t]].out = wantF l T f' l[o[t]].out := by
  intro t
  induction t using Nat.strongRecOn with
  | ind t ih =>
    intro ht hn f f' hf hf'
    obtain ⟨g, rfl⟩ : ∃ g, f = g + 1 := ⟨f - 1, by omega⟩
    obtain ⟨g', rfl⟩ : ∃ g, f' = g + 1 := ⟨f' - 1, by omega⟩
    rw [wantF_rule hr hn, wantF_rule hr hn]
    congr 1
    refine List.map_congr_left (fun s hs => ?_)
    rcases out_cases l s with ⟨j, hj, rfl⟩ | hno
    · have hje : j ∈ edgesB l o[t] := (mem_edges hn).2 ⟨hj, hs⟩
      obtain ⟨t', ht', e⟩ := List.mem_iff_getElem.1 (ho.back t ht j hje)
      rw [List.length_take] at ht'
      rw [List.getElem_take] at e
      subst e
      exact ih t' (by omega) (by omega) hj g g' (by omega) (by omega)
    · obtain ⟨k, rfl⟩ : ∃ k, g = k + 1 := ⟨g - 1, by omega⟩
      obtain ⟨k', rfl⟩ : ∃ k, g' = k + 1 := ⟨g' - 1, by omega⟩
      rw [wantF_leaf hno, wantF_leaf hno]
theorem wantV_leaf {l : List RuleL} {T : Look} {p : List UInt8} (h : p ∉ l.map RuleL.out) : wantV l T p = leafT T p := wantF_leaf h _
theorem outs_len {E : Nat → List Nat} {isB : Nat → Bool} {n : Nat} {o : List Nat} (h : Outs E isB n o) : o.length ≤ n := nodup_le n o h.nd (fun k hk => (h.lt k hk).1)
theorem wantV_rule {l : List RuleL} {T : Look} {isB : Nat → Bool} {o : List Nat} (hr : Right l) (ho : Outs (edgesB l) isB l.length o) {i : Nat} (hi : i < l.length) (hm : i ∈ o) : wantV l T l[i].out = toldOf l[i] (l[i].ins.map (wantV l T)) := by
  unfold wantV
  rw [wantF_rule hr hi]
  congr 1
  refine List.map_congr_left (fun s hs => ?_)
  rcases out_cases l s with ⟨j, hj, rfl⟩ | hno
  · obtain ⟨t, ht, e⟩ := List.mem_iff_getElem.1 hm
    subst e
    have hje : j ∈ edgesB l o[t] := (mem_edges hi).2 ⟨hj, hs⟩
    obtain ⟨t', ht', e⟩ := List.mem_iff_getElem.1 (ho.back t ht j hje)
    rw [List.length_take] at ht'
    rw [List.getElem_take] at e
    subst e
    have := outs_len ho
    exact want_stable hr ho t' (by omega) hj _ _ (by omega) (by omega)
  · rw [wantF_leaf hno, wantF_leaf hno]
theorem actOf_len (k w : List UInt8) (ins : List (List UInt8)) : (actOf k w ins).2.length ≤ 2000 := by
  unfold actOf
  split
  · split
    · simp
    · split
      · simp
      · rename_i h; exact Nat.le_of_not_lt h
  · simp
theorem actOf_err (k w : List UInt8) (ins : List (List UInt8)) : (actOf k w ins).1 ≠ 0 → (actOf k w ins).2 = [] := by
  unfold actOf
  split
  · split
    · intro h; exact absurd rfl h
    · split
      · intro _; rfl
      · intro h; exact absurd rfl h
  · intro _; rfl
theorem actErr_code (k w : List UInt8) (n : Nat) : actErr k w n = 0 ∨ actErr k w n = 3 ∨ actErr k w n = 5 ∨ actErr k w n = 10 := by
  unfold actErr
  split
  · omega
  · split
    · split <;> omega
    · omega
theorem actOf_code (k w : List UInt8) (ins : List (List UInt8)) : (actOf k w ins).1 = 0 ∨ (actOf k w ins).1 = 3 ∨ (actOf k w ins).1 = 5 ∨ (actOf k w ins).1 = 10 := by
  unfold actOf
  split
  · split
    · exact Or.inl rfl
    · split
      · exact Or.inr (Or.inr (Or.inr rfl))
      · exact Or.inl rfl
  · exact actErr_code _ _ _
/-- What is always so of what is told. -/
structure ToldOk (x : Told) : Prop where
  len : x.2.length ≤ 2000
  err : x.1 ≠ 0 → x.2 = []
  code : x.1 = 0 ∨ x.1 = 3 ∨ x.1 = 5 ∨ x.1 = 6 ∨ x.1 = 10
theorem toldOk_act (k w : List UInt8) (ins : List (List UInt8)) : ToldOk (actOf k w ins) := ⟨actOf_len _ _ _, actOf_err _ _ _, by have := actOf_code k w ins; omega⟩
theorem toldOk_of {r : RuleL} {xs : List Told} (h : ∀ x ∈ xs, ToldOk x) : ToldOk (toldOf r xs) := by
  unfold toldOf
  split
  · rename_i x hx
    exact h x (List.mem_of_find?_eq_some hx)
  · exact toldOk_act _ _ _
theorem toldOk_leaf {T : Look} (hT : ∀ p b, T p = some b → b.length ≤ 2000) (p : List UInt8) : ToldOk (leafT T p) := by
  unfold leafT
  split
  · rename_i b hb
    exact ⟨hT p b hb, fun h => absurd rfl h, Or.inl rfl⟩
  · exact ⟨by simp, fun _ => rfl, by simp⟩
theorem toldOk_wantF {l : List RuleL} {T : Look} (hT : ∀ p b, T p = some b → b.length ≤ 2000) : ∀ (f : Nat) (p : List UInt8), ToldOk (wantF l T f p)
  | 0, _ => ⟨by simp [wantF], fun h => absurd rfl h, Or.inl rfl⟩
  | f + 1, p => by
    unfold wantF
    split
    · exact toldOk_of (fun x hx => by
        obtain ⟨s, -, rfl⟩ := List.mem_map.1 hx
        exact toldOk_wantF hT f s)
    · exact toldOk_leaf hT p
theorem toldOk_want {l : List RuleL} {T : Look} (hT : ∀ p b, T p = some b → b.length ≤ 2000) (p : List UInt8) : ToldOk (wantV l T p) := toldOk_wantF hT _ p
/-- The first error among what is told. -/
theorem toldOf_bad {r : RuleL} {xs : List Told} {i : Nat} (hi : i < xs.length) (hb : xs[i].1 ≠ 0) (ho : ∀ j (hj : j < xs.length), j < i → xs[j].1 = 0) : toldOf r xs = xs[i] := by
  unfold toldOf
  have : xs.find? (fun x => decide (x.1 ≠ 0)) = some xs[i] := by
    rw [List.find?_eq_some_iff_getElem]
    exact ⟨by simpa using hb, i, hi, rfl, fun j hj => by simpa using ho j (by omega) hj⟩
  rw [this]
theorem toldOf_good {r : RuleL} {xs : List Told} (h : ∀ x ∈ xs, x.1 = 0) : toldOf r xs = actOf r.kind r.word (xs.map Prod.snd) := by
  unfold toldOf
  have : xs.find? (fun x => decide (x.1 ≠ 0)) = none := by
    rw [List.find?_eq_none]
    intro x hx
    simpa using h x hx
  rw [this]
end Go.Proofs.YtgjialbmlhbngaaGreatDoor
