/-
  The walk of the law PathCleans.
-/
import Derived.Test.YtmmgbgekcpbelaaDoorCoded
import Derived.Test.YtmmgbgekcpbelaaDoorRefClean
import Derived.Test.YtmmgbgekcpbelaaDoorRefSplit
namespace Go.Proofs.YtmmgbgekcpbelaaDoor
open Go Go.RowKit Go.Kf

theorem checkV_code (S : Nat → Addr) (s : List UInt8) : checkV S s = codeV S (if isPathB s = true then 0 else 4) := by
  unfold checkV isPathB
  by_cases h : partsL s false = []
  · rw [if_pos h, h]; rfl
  · rw [if_neg h, if_pos (by simpa using h)]; rfl

set_option maxRecDepth 100000 in
set_option maxHeartbeats 2000000 in
theorem pathCleans_all (a b : List UInt8) (w : World) (S : Nat → Addr) (hm : Ml w) (hE : ErrW w S) :
    Calls Tryd.prog 9 #[str a, str b] w fun e w' => e = .returned (.bool true) ∧ Below w.heap.size w w' := by
  have H0 := Lib.hid (pathed_any w S hm (pErr_of_errW hE))
  have HM := Lib.hid hm
  have HE := Lib.hid hE
  clear hm hE
  by_cases hl : a.length ≤ 250 ∧ b.length ≤ 250
  · obtain ⟨hla, hlb⟩ := hl
    have k1 := fun w1 => isPath_any a w1 (by omega)
    have k2 := fun w1 (q : Below w.heap.size w w1) => clean_any a w1 S (HM.out.below q (Nat.le_refl _)) (pErr_of_errW (HE.out.below q (Nat.le_refl _))) (by omega)
    have k3 := fun w1 (q : Below w.heap.size w w1) => pjoin_any a b w1 S (HM.out.below q (Nat.le_refl _)) (pErr_of_errW (HE.out.below q (Nat.le_refl _))) (by omega) (by omega)
    have k4 := fun w1 => cleanOf_any a w1 (by omega)
    have k5 := fun w1 => cleanOf_any (a ++ [47] ++ b) w1 (by simp; omega)
    have k6 := fun w1 (q : Below w.heap.size w w1) => check_any a w1 S (HM.out.below q (Nat.le_refl _)) (pErr_of_errW (HE.out.below q (Nat.le_refl _))) (by omega)
    have k7 := fun w1 => splitOf_any a w1 (by omega)
    have k8 := fun w1 (q : Below w.heap.size w w1) => dir_any a w1 (HM.out.below q (Nat.le_refl _)) (by omega)
    have k9 := fun w1 (q : Below w.heap.size w w1) => last_part a w1 (HM.out.below q (Nat.le_refl _)) (by omega)
    have n1 := cleanR_code a
    have n2 := cleanR_code (a ++ [47] ++ b)
    have hse : (⟨a.toArray⟩ : ByteArray) ++ (⟨#[47]⟩ : ByteArray) ++ (⟨b.toArray⟩ : ByteArray) = ⟨(a ++ [47] ++ b).toArray⟩ := by
      rw [show (⟨#[47]⟩ : ByteArray) = ⟨([47] : List UInt8).toArray⟩ from rfl, str_app, str_app]
    simp only [checkV_code] at k6
    generalize cleanR (a ++ [47] ++ b) = r2 at *
    generalize cleanR a = r1 at *
    generalize dirL a = d at *
    generalize lastL a = l at *
    generalize a ++ [47] ++ b = ab at *
    obtain ⟨x1, c1⟩ := r1
    obtain ⟨x2, c2⟩ := r2
    dsimp only at k2 k3 k4 k5 n1 n2
    have C0 : ∀ c : Nat, c ≤ 12 → ∀ w1, Below w.heap.size w w1 → Calls Tryd.prog 19 #[codeV S c, .int .i64 c] w1 fun e w' => e = .returned (.bool true) ∧ Below w.heap.size w w' := fun c hc w1 q =>
      (coded_c c hc (HE.out.below q (Nat.le_refl _))).mono fun e w' ⟨h1, h2⟩ => ⟨h1, q.trans (h2.mono q.size)⟩
    have C1 := Lib.hid (C0 c1 n1)
    have C2 := Lib.hid (C0 c2 n2)
    have c4 := C0 4 (by decide)
    have c0 := C0 0 (by decide)
    rw [show ((4 : Nat) : Int) = 4 from rfl] at c4
    rw [show ((0 : Nat) : Int) = 0 from rfl] at c0
    have C4 := Lib.hid c4
    have C00 := Lib.hid c0
    have K1 := Lib.hid k1
    have K2 := Lib.hid k2
    have K3 := Lib.hid k3
    have K4 := Lib.hid k4
    have K5 := Lib.hid k5
    have K6 := Lib.hid k6
    have K7 := Lib.hid k7
    have K8 := Lib.hid k8
    have K9 := Lib.hid k9
    obtain ⟨v1, hv1⟩ : ∃ v, codeV S c1 = v := ⟨_, rfl⟩
    obtain ⟨v2, hv2⟩ : ∃ v, codeV S c2 = v := ⟨_, rfl⟩
    rw [hv1] at C1 K2
    rw [hv2] at C2 K3
    clear hv1 hv2 C0 c4 c0 k1 k2 k3 k4 k5 k6 k7 k8 k9
    have hdec1 : ((250 : Int) < (a.length : Int)) = False := by simp; omega
    have hdec2 : ((250 : Int) < (b.length : Int)) = False := by simp; omega
    obtain ⟨k, hk⟩ : ∃ k : Nat, (if isPathB a = true then 0 else 4 : Nat) = k := ⟨_, rfl⟩
    have CC : Hid (∀ w1, Below w.heap.size w w1 → Calls Tryd.prog 19 #[codeV S k, .int .i64 k] w1 fun e w' => e = .returned (.bool true) ∧ Below w.heap.size w w') := Lib.hid (by
      rw [← hk]
      split
      · exact C00.out
      · exact C4.out)
    rw [hk] at K6
    obtain ⟨v3, hv3⟩ : ∃ v, codeV S k = v := ⟨_, rfl⟩
    rw [hv3] at CC K6
    clear C00 C4 hv3
    cases hp : isPathB a
    all_goals
      rw [hp] at K1 hk
      simp only [if_true, if_false, Bool.false_eq_true] at hk
      subst hk
      first | rw [show ((0 : Nat) : Int) = 0 from rfl] at CC | rw [show ((4 : Nat) : Int) = 4 from rfl] at CC
      clear hp
      go_enter Tryd.func9, Tryd.ntmps9
      go_wp2_with fail
      refine H0.out.mono ?_
      rintro e w1 ⟨rfl, b1⟩
      go_wp2_with fail
      refine (K1.out w1).mono ?_
      rintro e w2 ⟨rfl, hb2⟩
      have b2 := b1.trans (hb2.mono b1.size)
      clear hb2
      go_wp2_with fail
      refine (K2.out w2 b2).mono ?_
      rintro e w3 ⟨rfl, hb3⟩
      have b3 := b2.trans (hb3.mono b2.size)
      clear hb3
      go_wp2_with fail
      refine (K3.out w3 b3).mono ?_
      rintro e w4 ⟨rfl, hb4⟩
      have b4 := b3.trans (hb4.mono b3.size)
      clear hb4
      go_wp2_with fail
      refine (K4.out w4).mono ?_
      rintro e w5 ⟨rfl, hb5⟩
      have b5 := b4.trans (hb5.mono b4.size)
      clear hb5
      go_wp2_with fail
      refine (K5.out w5).mono ?_
      rintro e w6 ⟨rfl, hb6⟩
      have b6 := b5.trans (hb6.mono b5.size)
      clear hb6
      go_wp2_with fail
      refine (K6.out w6 b6).mono ?_
      rintro e w7 ⟨rfl, hb7⟩
      have b7 := b6.trans (hb7.mono b6.size)
      clear hb7
      go_wp2_with fail
      refine (CC.out w7 b7).mono ?_
      rintro e w8 ⟨rfl, b8⟩
      go_wp2_with fail
      refine (C1.out w8 b8).mono ?_
      rintro e w9 ⟨rfl, b9⟩
      go_wp2_with fail
      refine (C2.out w9 b9).mono ?_
      rintro e w10 ⟨rfl, b10⟩
      go_wp2_with fail
      refine (K7.out w10).mono ?_
      rintro e w11 ⟨rfl, hb11⟩
      have b11 := b10.trans (hb11.mono b10.size)
      clear hb11
      go_wp2_with fail
      refine (K8.out w11 b11).mono ?_
      rintro e w12 ⟨rfl, hb12⟩
      have b12 := b11.trans (hb12.mono b11.size)
      clear hb12
      go_wp2_with fail
      refine (K9.out w12 b12).mono ?_
      rintro e w13 ⟨rfl, hb13⟩
      have b13 := b12.trans (hb13.mono b12.size)
      clear hb13
      go_wp2
      go_ret
      exact ⟨by simp, b13⟩
  · have hor : 250 < a.length ∨ 250 < b.length := by omega
    clear hl
    go_enter Tryd.func9, Tryd.ntmps9
    go_wp2_with fail
    refine H0.out.mono ?_
    rintro e w1 ⟨rfl, b1⟩
    by_cases ha : 250 < a.length
    · have hdec1 : ((250 : Int) < (a.length : Int)) = True := by simp; omega
      go_wp2
      go_ret
      exact ⟨rfl, b1⟩
    · have hdec1 : ((250 : Int) < (a.length : Int)) = False := by simp; omega
      have hdec2 : ((250 : Int) < (b.length : Int)) = True := by simp; omega
      go_wp2
      go_ret
      exact ⟨rfl, b1⟩
end Go.Proofs.YtmmgbgekcpbelaaDoor
