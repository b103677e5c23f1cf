/-
  The law CacheNew: its walk.
-/
import Derived.Test.YtmmgbgekcpbelaaDoorCachePure
import Derived.Test.YtmmgbgekcpbelaaDoorCached
namespace Go.Proofs.YtmmgbgekcpbelaaDoor
open Go Go.RowKit Go.Kf

/-- An ask: put (or get), the key, the bytes. -/
abbrev AskL := Bool × List UInt8 × List UInt8
def askRow (a : AskL) : List Value := [.bool a.1, str a.2.1, str a.2.2]

/-- What the law holds between two steps. -/
structure St (B : Nat) (w0 w : World) (pb mb : Nat) (lv lastv bytesv : Value) (many : Nat) (K : List (List UInt8)) (M : List (List UInt8 × List UInt8)) (L Bs : List (List UInt8)) : Prop where
  c : CacheAt w pb mb lv many K M
  last : w.ownsRow B 9 1 lastv L.length (L.map str)
  bytes : w.ownsRow B 9 1 bytesv Bs.length (Bs.map str)
  ff : FootFrom B pb mb lv
  s1 : ∀ k, lastv.ownBlock = some k → ¬ foot pb mb lv k
  s2 : ∀ k, bytesv.ownBlock = some k → ¬ foot pb mb lv k
  s3 : ∀ k, lastv.ownBlock = some k → bytesv.ownBlock ≠ some k
  b : Below B w0 w

section
variable {B : Nat} {w0 w w' : World} {pb mb : Nat} {lv lv' lastv bytesv : Value} {many : Nat} {K K' : List (List UInt8)} {M M' : List (List UInt8 × List UInt8)} {L Bs : List (List UInt8)}

theorem CacheAt.of_fr {S : Nat → Prop} (h : CacheAt w pb mb lv many K M) (hf : Fr w.heap.size S w w') (hs : ∀ k, foot pb mb lv k → ¬ S k) : CacheAt w' pb mb lv many K M :=
  ⟨(hf.block pb (lt_of_heap h.blk) (hs pb (Or.inl rfl))).trans h.blk, ownsRow_fr h.row hf (fun k hk => ⟨(h.row.lt k hk).2, hs k (Or.inr (Or.inr hk))⟩),
    h.map.of_block (hf.block mb h.map.lt (hs mb (Or.inr (Or.inl rfl))))⟩
theorem CacheAt.foot_lt (h : CacheAt w pb mb lv many K M) : ∀ k, foot pb mb lv k → k < w.heap.size := by
  rintro k (rfl | rfl | hk)
  · exact lt_of_heap h.blk
  · exact h.map.lt
  · exact (h.row.lt k hk).2
theorem St.alloc (h : St B w0 w pb mb lv lastv bytesv many K M L Bs) (hB : B ≤ w.heap.size) (o : Obj) : St B w0 (w.alloc o) pb mb lv lastv bytesv many K M L Bs :=
  ⟨h.c.of_fr ((Fr.refl _ (fun _ => False) w).alloc (Nat.le_refl _) o) (fun _ _ => id), h.last.alloc o, h.bytes.alloc o, h.ff, h.s1, h.s2, h.s3, h.b.alloc hB o⟩
/-- A method of the cache has been called. -/
theorem St.step (h : St B w0 w pb mb lv lastv bytesv many K M L Bs) (hB : B ≤ w.heap.size) (hC : CacheAt w' pb mb lv' many K' M') (hF : Fr w.heap.size (foot pb mb lv) w w') (hl : ∀ k, lv'.ownBlock = some k → lv.ownBlock = some k ∨ w.heap.size ≤ k) :
    St B w0 w' pb mb lv' lastv bytesv many K' M' L Bs := by
  have key : ∀ v : Value, (∀ k, v.ownBlock = some k → ¬ foot pb mb lv k) → (∀ k, v.ownBlock = some k → k < w.heap.size) → ∀ k, v.ownBlock = some k → ¬ foot pb mb lv' k := by
    rintro v hv hlt k hk (rfl | rfl | h')
    · exact hv _ hk (Or.inl rfl)
    · exact hv _ hk (Or.inr (Or.inl rfl))
    · rcases hl k h' with h2 | h2
      · exact hv _ hk (Or.inr (Or.inr h2))
      · have := hlt k hk; omega
  exact ⟨hC, ownsRow_fr h.last hF (fun k hk => ⟨(h.last.lt k hk).2, h.s1 k hk⟩), ownsRow_fr h.bytes hF (fun k hk => ⟨(h.bytes.lt k hk).2, h.s2 k hk⟩), h.ff.next hB hl,
    key lastv h.s1 (fun k hk => (h.last.lt k hk).2), key bytesv h.s2 (fun k hk => (h.bytes.lt k hk).2), h.s3, h.ff.below h.b hB hF⟩
/-- A key has been appended to the first list. -/
theorem St.app1 (h : St B w0 w pb mb lv lastv bytesv many K M L Bs) (hB : B ≤ w.heap.size) {v' : Value} {x : List UInt8} (ho : w'.ownsRow B 9 1 v' (L.length + 1) (L.map str ++ [str x])) (hg : w.grownBy w' lastv.ownBlock) (hloc : v'.ownBlock = lastv.ownBlock ∨ v'.ownBlock = some w.heap.size) :
    St B w0 w' pb mb lv v' bytesv many K M (L ++ [x]) Bs := by
  have hf := Fr.of_grown hg
  refine ⟨h.c.of_fr hf (fun k hk hs => h.s1 k hs hk), by simpa using ho, ownsRow_fr h.bytes hf (fun k hk => ⟨(h.bytes.lt k hk).2, fun e => h.s3 k e hk⟩), h.ff, fun k hk hfo => ?_, h.s2, fun k hk hbk => ?_, ?_⟩
  · rcases hloc with e | e
    · exact h.s1 k (e ▸ hk) hfo
    · rw [e] at hk; cases hk; exact Nat.lt_irrefl _ (h.c.foot_lt _ hfo)
  · rcases hloc with e | e
    · exact h.s3 k (e ▸ hk) hbk
    · rw [e] at hk; cases hk; exact Nat.lt_irrefl _ (h.bytes.lt _ hbk).2
  · exact h.b.grown hg hB (fun k hk => (h.last.lt k hk).1)
theorem St.app2 (h : St B w0 w pb mb lv lastv bytesv many K M L Bs) (hB : B ≤ w.heap.size) {v' : Value} {x : List UInt8} (ho : w'.ownsRow B 9 1 v' (Bs.length + 1) (Bs.map str ++ [str x])) (hg : w.grownBy w' bytesv.ownBlock) (hloc : v'.ownBlock = bytesv.ownBlock ∨ v'.ownBlock = some w.heap.size) :
    St B w0 w' pb mb lv lastv v' many K M L (Bs ++ [x]) := by
  have hf := Fr.of_grown hg
  refine ⟨h.c.of_fr hf (fun k hk hs => h.s2 k hs hk), ownsRow_fr h.last hf (fun k hk => ⟨(h.last.lt k hk).2, fun e => h.s3 k hk e⟩), by simpa using ho, h.ff, h.s1, fun k hk hfo => ?_, fun k hk hbk => ?_, ?_⟩
  · rcases hloc with e | e
    · exact h.s2 k (e ▸ hk) hfo
    · rw [e] at hk; cases hk; exact Nat.lt_irrefl _ (h.c.foot_lt _ hfo)
  · rcases hloc with e | e
    · exact h.s3 k hk (e ▸ hbk)
    · rw [e] at hbk; cases hbk; exact Nat.lt_irrefl _ (h.last.lt _ hk).2
  · exact h.b.grown hg hB (fun k hk => (h.bytes.lt k hk).1)
end
end Go.Proofs.YtmmgbgekcpbelaaDoor
