/-
  The closed fact 'cached' of the laws on caches.
-/
import Derived.Test.YtmmgbgekcpbelaaDoorCachePut
namespace Go.Proofs.YtmmgbgekcpbelaaDoor
open Go Go.RowKit Go.Kf

/-- The blocks of a cache are all from B on. -/
def FootFrom (B pb mb : Nat) (lv : Value) : Prop := B ≤ pb ∧ B ≤ mb ∧ ∀ k, lv.ownBlock = some k → B ≤ k
theorem FootFrom.apart {B pb mb : Nat} {lv : Value} (h : FootFrom B pb mb lv) : ∀ k, k < B → ¬ foot pb mb lv k := by
  rintro k hk (rfl | rfl | h')
  · have := h.1; omega
  · have := h.2.1; omega
  · have := h.2.2 k h'; omega
theorem FootFrom.next {B pb mb : Nat} {lv lv' : Value} {w : World} (h : FootFrom B pb mb lv) (hB : B ≤ w.heap.size) (hl : ∀ k, lv'.ownBlock = some k → lv.ownBlock = some k ∨ w.heap.size ≤ k) : FootFrom B pb mb lv' :=
  ⟨h.1, h.2.1, fun k hk => by rcases hl k hk with h' | h'; exact h.2.2 k h'; omega⟩
/-- What a method of a cache, all of whose blocks lie from B on, leaves below B. -/
theorem FootFrom.below {B pb mb : Nat} {lv : Value} {a w w' : World} (h : FootFrom B pb mb lv) (hb : Below B a w) (hB : B ≤ w.heap.size) (hf : Fr w.heap.size (foot pb mb lv) w w') : Below B a w' :=
  hb.trans ((hf.mono (S' := foot pb mb lv) hB (fun _ _ h => h)).below h.apart)

set_option maxRecDepth 100000 in
set_option maxHeartbeats 1000000 in
theorem cached_any (w : World) : Calls Tryd.prog 11 #[] w fun e w' => e = .returned (.bool true) ∧ Below w.heap.size w w' := by
  go_enter Tryd.func11, Tryd.ntmps11
  go_wp2_with fail
  refine (new_ok 1 w (by omega) (by omega)).mono ?_
  rintro e w1 ⟨pb, mb, rfl, hpb, hmb, hC1, hb1⟩
  have hff1 : FootFrom w.heap.size pb mb (.slice none 0 0) := ⟨hpb, hmb, fun k hk => by cases hk⟩
  go_wp2_with fail
  refine (put_any pb mb _ 1 [] [] [97] [120] w1 hC1 (by simp)).mono ?_
  rintro e w2 ⟨rfl, lv2, hC2, hF2, hl2⟩
  have hff2 := hff1.next hb1.size hl2
  have hb2 := hff1.below hb1 hb1.size hF2
  rw [show putKeys 1 [97] [] = [[97]] by decide, show putMapL 1 [97] [120] [] [] = [([97], [120])] by decide] at hC2
  clear hC1 hF2 hl2 hb1 hff1
  go_wp2_with fail
  refine (put_any pb mb _ 1 _ _ [98] [121] w2 hC2 (by simp)).mono ?_
  rintro e w3 ⟨rfl, lv3, hC3, hF3, hl3⟩
  have hff3 := hff2.next hb2.size hl3
  have hb3 := hff2.below hb2 hb2.size hF3
  rw [show putKeys 1 [98] [[97]] = [[98]] by decide, show putMapL 1 [98] [121] [[97]] [([97], [120])] = [([98], [121])] by decide] at hC3
  clear hC2 hF3 hl3 hb2 hff2
  go_wp2_with fail
  refine (get_any pb mb _ 1 _ _ [97] w3 hC3 (by simp)).mono ?_
  rintro e w4 ⟨rfl, lv4, hC4, hF4, hl4⟩
  have hff4 := hff3.next hb3.size hl4
  have hb4 := hff3.below hb3 hb3.size hF4
  rw [show mlook [97] [(([98] : List UInt8), ([121] : List UInt8))] = none by decide] at hC4 ⊢
  simp only [Option.isSome_none, Bool.false_eq_true, if_false, Option.getD_none] at hC4 ⊢
  clear hC3 hF4 hl4 hb3 hff3
  go_wp2_with fail
  refine (get_any pb mb _ 1 _ _ [98] w4 hC4 (by simp)).mono ?_
  rintro e w5 ⟨rfl, lv5, hC5, hF5, hl5⟩
  have hb5 := hff4.below hb4 hb4.size hF5
  rw [show mlook [98] [(([98] : List UInt8), ([121] : List UInt8))] = some [121] by decide] at hC5 ⊢
  simp only [Option.isSome_some, if_true, Option.getD_some] at hC5 ⊢
  rw [show without [98] [[98]] ++ [[98]] = [[98]] by decide] at hC5
  clear hC4 hF5 hl5 hb4 hff4
  go_wp2_with (go_at_call 15; refine (len_any pb mb _ 1 _ _ _ hC5).mono ?_; rintro e w' ⟨rfl, rfl⟩)
  go_ret
  exact ⟨rfl, hb5⟩
end Go.Proofs.YtmmgbgekcpbelaaDoor
