/-
  The law CacheActs: what is held between two steps.
-/
import Derived.Test.YtmmgbgekcpbelaaDoorRefGet
import Derived.Test.YtmmgbgekcpbelaaDoorKeys
import Derived.Test.YtmmgbgekcpbelaaDoorCacheNew
import Derived.Test.YtmmgbgekcpbelaaDoorNames
namespace Go.Proofs.YtmmgbgekcpbelaaDoor
open Go Go.RowKit Go.Kf

theorem readsK_fr {s : Nat} {w w' : World} {v : Value} {xs : List (List Value)} {B : Nat} {S : Nat → Prop} (h : ReadsK s w v xs) (hf : Fr B S w w') (hv : ∀ k, v.ownBlock = some k → k < B ∧ ¬ S k) : ReadsK s w' v xs := by
  obtain ⟨a, cap, rfl, hle, h⟩ := h
  refine ⟨a, cap, rfl, hle, fun i row hi => ?_⟩
  obtain ⟨b, o, rfl, hcell⟩ := h i row hi
  exact ⟨b, o, rfl, fun j x hj => (hf.cell (p := ⟨b, o + i * s + j, none⟩) (hv b rfl).1 (hv b rfl).2).trans (hcell j x hj)⟩
theorem RefAt.of_fr {w w' : World} {rb : Nat} {rv : Value} {many : Nat} {es : List EntL} {B : Nat} {S : Nat → Prop} (h : RefAt w rb rv many es) (hf : Fr B S w w') (hB : rb < B) (hs : ¬ S rb) (hv : ∀ k, rv.ownBlock = some k → k < B ∧ ¬ S k) : RefAt w' rb rv many es :=
  ⟨(hf.block rb hB hs).trans h.blk, readsK_fr h.row hf hv⟩

structure Ac (B : Nat) (w0 w : World) (pb mb rb : Nat) (lv rv : Value) (many : Nat) (l : List (List UInt8)) (m : List (List UInt8 × List UInt8)) (es : List EntL) : Prop where
  c : CacheAt w pb mb lv many l m
  r : RefAt w rb rv many es
  ff : FootFrom B pb mb lv
  rb0 : B ≤ rb
  rv0 : ∀ k, rv.ownBlock = some k → B ≤ k ∧ k < w.heap.size ∧ ¬ foot pb mb lv k ∧ k ≠ rb
  rbf : ¬ foot pb mb lv rb
  b : Below B w0 w

section
variable {B : Nat} {w0 w w' : World} {pb mb rb : Nat} {lv lv' rv rv' : Value} {many : Nat} {l l' : List (List UInt8)} {m m' : List (List UInt8 × List UInt8)} {es es' : List EntL}
theorem Ac.hB (h : Ac B w0 w pb mb rb lv rv many l m es) : B ≤ w.heap.size := by
  have := lt_of_heap h.r.blk
  have := h.rb0
  omega
theorem Ac.below (h : Ac B w0 w pb mb rb lv rv many l m es) (hb : Below w.heap.size w w') : Ac B w0 w' pb mb rb lv rv many l m es :=
  ⟨h.c.of_fr (S := fun _ => False) (Fr.of_below hb) (fun _ _ => id), h.r.of_fr (S := fun _ => False) (Fr.of_below hb) (lt_of_heap h.r.blk) id (fun k hk => ⟨(h.rv0 k hk).2.1, id⟩), h.ff, h.rb0,
    fun k hk => ⟨(h.rv0 k hk).1, Nat.lt_of_lt_of_le (h.rv0 k hk).2.1 hb.size, (h.rv0 k hk).2.2⟩, h.rbf, h.b.trans (hb.mono h.hB)⟩
/-- A method of the cache has been called. -/
theorem Ac.cstep (h : Ac B w0 w pb mb rb lv rv many l m es) (hC : CacheAt w' pb mb lv' many l' m') (hF : Fr w.heap.size (foot pb mb lv) w w') (hl : ∀ k, lv'.ownBlock = some k → lv.ownBlock = some k ∨ w.heap.size ≤ k) :
    Ac B w0 w' pb mb rb lv' rv many l' m' es := by
  have hrb := lt_of_heap h.r.blk
  have key : ∀ k, k < w.heap.size → ¬ foot pb mb lv k → ¬ foot pb mb lv' k := by
    rintro k hk hn (rfl | rfl | h')
    · exact hn (Or.inl rfl)
    · exact hn (Or.inr (Or.inl rfl))
    · rcases hl k h' with h2 | h2
      · exact hn (Or.inr (Or.inr h2))
      · omega
  exact ⟨hC, h.r.of_fr hF hrb h.rbf (fun k hk => ⟨(h.rv0 k hk).2.1, (h.rv0 k hk).2.2.1⟩), h.ff.next h.hB hl, h.rb0,
    fun k hk => ⟨(h.rv0 k hk).1, Nat.lt_of_lt_of_le (h.rv0 k hk).2.1 hF.size, key k (h.rv0 k hk).2.1 (h.rv0 k hk).2.2.1, (h.rv0 k hk).2.2.2⟩, key rb hrb h.rbf, h.ff.below h.b h.hB hF⟩
/-- A method of the model has been called. -/
theorem Ac.rstep (h : Ac B w0 w pb mb rb lv rv many l m es) (hR : RefAt w' rb rv' many es') (hF : Fr w.heap.size (fun k => k = rb) w w') (hl : ∀ k, rv'.ownBlock = some k → rv.ownBlock = some k ∨ (w.heap.size ≤ k ∧ k < w'.heap.size)) :
    Ac B w0 w' pb mb rb lv rv' many l m es' := by
  have hft := h.c.foot_lt
  have hrb := lt_of_heap h.r.blk
  refine ⟨h.c.of_fr hF (fun k hk e => h.rbf (e ▸ hk)), hR, h.ff, h.rb0, fun k hk => ?_, h.rbf, h.b.trans ((hF.mono (S' := fun k => k = rb) h.hB (fun _ _ h => h)).below (fun k hk e => by have := h.rb0; omega))⟩
  rcases hl k hk with h' | ⟨h1, h2⟩
  · exact ⟨(h.rv0 k h').1, Nat.lt_of_lt_of_le (h.rv0 k h').2.1 hF.size, (h.rv0 k h').2.2⟩
  · exact ⟨Nat.le_trans h.hB h1, h2, fun hf => by have := hft k hf; omega, by omega⟩
/-- The step leaves a block of the law's own as it was. -/
theorem Ac.own_c (_ : Ac B w0 w pb mb rb lv rv many l m es) (hF : Fr w.heap.size (foot pb mb lv) w w') {k : Nat} {o : Obj} (hk : w.heap[k]? = some o) (hf : ¬ foot pb mb lv k) : w'.heap[k]? = some o :=
  (hF.block k (lt_of_heap hk) hf).trans hk
end
end Go.Proofs.YtmmgbgekcpbelaaDoor
