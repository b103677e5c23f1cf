/-
  The walk of the law PathMatches.
-/
import Derived.Test.YtmmgbgekcpbelaaDoorCoded
import Derived.Test.YtmmgbgekcpbelaaDoorPathLaw1
import Derived.Test.YtmmgbgekcpbelaaDoorMatchOf
namespace Go.Proofs.YtmmgbgekcpbelaaDoor
open Go Go.RowKit Go.Kf

theorem matchV_code (S : Nat → Addr) (p s : List UInt8) : matchV S p s = codeV S (matchN p s) := by
  unfold matchV matchN
  split <;> rfl
theorem matchN_le (p s : List UInt8) : matchN p s ≤ 12 := by
  unfold matchN
  split <;> decide

set_option maxRecDepth 100000 in
set_option maxHeartbeats 2000000 in
theorem pathMatches_all (a b : List UInt8) (w : World) (S : Nat → Addr) (hm : Ml w) (hE : ErrW w S) :
    Calls Tryd.prog 10 #[str a, str b] w fun e w' => e = .returned (.bool true) ∧ Below w.heap.size w w' := by
  have H0 := Lib.hid (pathed_any w S hm (pErr_of_errW hE))
  have HM := Lib.hid hm
  have HE := Lib.hid hE
  clear hm hE
  by_cases hl : a.length ≤ 100 ∧ b.length ≤ 100
  · obtain ⟨hla, hlb⟩ := hl
    have k1 := fun w1 (q : Below w.heap.size w w1) => match_any a b w1 S (HM.out.below q (Nat.le_refl _)) (pErr_of_errW (HE.out.below q (Nat.le_refl _))) (by omega) (by omega)
    have k2 := fun w1 => matchOf_any a b w1 (by omega) (by omega)
    have n1 := matchN_le a b
    simp only [matchV_code] at k1
    generalize matchN a b = n at *
    generalize matchB a b = m at *
    have C0 : ∀ w1, Below w.heap.size w w1 → Calls Tryd.prog 19 #[codeV S n, .int .i64 n] w1 fun e w' => e = .returned (.bool true) ∧ Below w.heap.size w w' := fun w1 q =>
      (coded_c n n1 (HE.out.below q (Nat.le_refl _))).mono fun e w' ⟨h1, h2⟩ => ⟨h1, q.trans (h2.mono q.size)⟩
    have C1 := Lib.hid C0
    clear C0
    have K1 := Lib.hid k1
    have K2 := Lib.hid k2
    clear k1 k2
    obtain ⟨v1, hv1⟩ : ∃ v, codeV S n = v := ⟨_, rfl⟩
    rw [hv1] at C1 K1
    clear hv1
    have hdec1 : ((100 : Int) < (a.length : Int)) = False := by simp; omega
    have hdec2 : ((100 : Int) < (b.length : Int)) = False := by simp; omega
    go_enter Tryd.func10, Tryd.ntmps10
    go_wp2_with fail
    refine H0.out.mono ?_
    rintro e w1 ⟨rfl, b1⟩
    go_wp2_with fail
    refine (K1.out w1 b1).mono ?_
    rintro e w2 ⟨rfl, hb2⟩
    have b2 := b1.trans (hb2.mono b1.size)
    clear hb2
    go_wp2_with fail
    refine (K2.out w2).mono ?_
    rintro e w3 ⟨rfl, hb3⟩
    have b3 := b2.trans (hb3.mono b2.size)
    clear hb3
    go_wp2_with fail
    refine (C1.out w3 b3).mono ?_
    rintro e w4 ⟨rfl, b4⟩
    go_wp2
    go_ret
    exact ⟨by simp, b4⟩
  · have hor : 100 < a.length ∨ 100 < b.length := by omega
    clear hl
    go_enter Tryd.func10, Tryd.ntmps10
    go_wp2_with fail
    refine H0.out.mono ?_
    rintro e w1 ⟨rfl, b1⟩
    by_cases ha : 100 < a.length
    · have hdec1 : ((100 : Int) < (a.length : Int)) = True := by simp; omega
      go_wp2
      go_ret
      exact ⟨rfl, b1⟩
    · have hdec1 : ((100 : Int) < (a.length : Int)) = False := by simp; omega
      have hdec2 : ((100 : Int) < (b.length : Int)) = True := by simp; omega
      go_wp2
      go_ret
      exact ⟨rfl, b1⟩
end Go.Proofs.YtmmgbgekcpbelaaDoor
