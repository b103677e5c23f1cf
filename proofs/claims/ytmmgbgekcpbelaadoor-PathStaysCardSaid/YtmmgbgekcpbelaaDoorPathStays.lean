/-
  The walk of the law PathStays.
-/
import Derived.Test.YtmmgbgekcpbelaaDoorPathLaw1
namespace Go.Proofs.YtmmgbgekcpbelaaDoor
open Go Go.RowKit Go.Kf

theorem cleanR_bad {s : List UInt8} (h : (cleanR s).2 ≠ 0) : (cleanR s).1 = [] := by
  unfold cleanR at *
  by_cases h2 : 200 < s.length
  · rw [if_pos h2]
  · rw [if_neg h2] at h ⊢
    cases hf : cleanFold (spl 47 s) with
    | none => rfl
    | some out =>
      rw [hf] at h
      cases out with
      | nil => rfl
      | cons x out =>
        simp only [finR] at h ⊢
        by_cases hp : partsL (Lib.join (x :: out) [47]) false = []
        · rw [if_pos hp]
        · rw [if_neg hp] at h
          exact absurd rfl h

set_option maxRecDepth 100000 in
set_option maxHeartbeats 1000000 in
theorem pathStays_all (a : List UInt8) (w : World) (S : Nat → Addr) (hm : Ml w) (hE : PErr w S) :
    Calls Tryd.prog 7 #[str a] w fun e w' => e = .returned (.bool true) ∧ Below w.heap.size w w' := by
  have H0 := Lib.hid (pathed_any w S hm hE)
  have HM := Lib.hid hm
  have HE := Lib.hid hE
  clear hm hE
  by_cases hl : a.length ≤ 250
  · have hd : ((250 : Int) < (a.length : Int)) = False := by simp; omega
    have hC := fun w1 (b : Below w.heap.size w w1) => clean_any a w1 S (HM.out.below b (Nat.le_refl _)) (HE.out.below b (Nat.le_refl _)) (by omega)
    by_cases hc : (cleanR a).2 = 0
    · obtain ⟨t, ht⟩ : ∃ t, cleanR a = (t, 0) := ⟨(cleanR a).1, by rw [← hc]⟩
      obtain ⟨out, hI⟩ := clean_is ht
      rw [ht] at hC
      have hts := hI.short
      have HC := Lib.hid hC
      have HI := Lib.hid hI
      clear hC hI ht hc hl
      have hcv : codeV S 0 = .nilIface := rfl
      go_enter Tryd.func7, Tryd.ntmps7
      go_wp2_with fail
      refine H0.out.mono ?_
      rintro e w1 ⟨rfl, b1⟩
      go_wp2_with fail
      refine (HC.out w1 b1).mono ?_
      rw [hcv]
      rintro e w2 ⟨rfl, hb2⟩
      have b2 := b1.trans (hb2.mono b1.size)
      have h3 := clean_any t w2 S (HM.out.below b2 (Nat.le_refl _)) (HE.out.below b2 (Nat.le_refl _)) (by omega)
      rw [HI.out.clean, hcv] at h3
      have H3 := Lib.hid h3
      clear hb2 h3
      go_wp2_with fail
      refine H3.out.mono ?_
      rintro e w3 ⟨rfl, hb3⟩
      have b3 := b2.trans (hb3.mono b2.size)
      have h4 := check_any t w3 S (HM.out.below b3 (Nat.le_refl _)) (HE.out.below b3 (Nat.le_refl _)) (by omega)
      have hck : checkV S t = .nilIface := by unfold checkV; rw [HI.out.parts, if_neg HI.out.ne]
      rw [hck] at h4
      have H4 := Lib.hid h4
      clear hb3 h4 hck H3
      go_wp2_with fail
      refine H4.out.mono ?_
      rintro e w4 ⟨rfl, hb4⟩
      have b4 := b3.trans (hb4.mono b3.size)
      have H5 := Lib.hid (dir_any t w4 (HM.out.below b4 (Nat.le_refl _)) (by omega))
      clear hb4 H4
      have h9 := fun w9 (b : Below w.heap.size w w9) => pjoin_any t [120, 47, 46, 46] w9 S (HM.out.below b (Nat.le_refl _)) (HE.out.below b (Nat.le_refl _)) (by omega) (by simp)
      rw [HI.out.up] at h9
      have H9 := Lib.hid h9
      clear h9
      go_wp2_with fail
      refine H5.out.mono ?_
      rintro e w5 ⟨rfl, hb5⟩
      have b5 := b4.trans (hb5.mono b4.size)
      clear hb5 H5
      by_cases hdn : dirL t = []
      · rw [hdn]
        go_wp2_with fail
        refine (H9.out w5 b5).mono ?_
        rw [hcv]
        rintro e w6 ⟨rfl, hb6⟩
        have b6 := b5.trans (hb6.mono b5.size)
        clear hb6
        go_wp2
        go_ret
        exact ⟨by simp, b6⟩
      · have H6 := Lib.hid (dir_any t w5 (HM.out.below b5 (Nat.le_refl _)) (by omega))
        have HS := Lib.hid (HI.out.split hdn)
        have hde : (dirL t).isEmpty = false := by simpa using hdn
        have hdl : (dirL t).length ≤ 100 := by
          have := congrArg List.length HS.out
          simp at this
          omega
        have hll : (lastL t).length ≤ 100 := by
          have := congrArg List.length HS.out
          simp at this
          omega
        go_wp2_with fail
        refine H6.out.mono ?_
        rintro e w6 ⟨rfl, hb6⟩
        have b6 := b5.trans (hb6.mono b5.size)
        have H7 := Lib.hid (last_part t w6 (HM.out.below b6 (Nat.le_refl _)) (by omega))
        clear hb6 H6
        go_wp2_with fail
        refine H7.out.mono ?_
        rintro e w7 ⟨rfl, hb7⟩
        have b7 := b6.trans (hb7.mono b6.size)
        have hse : (⟨(dirL t).toArray⟩ : ByteArray) ++ (⟨#[47]⟩ : ByteArray) ++ (⟨(lastL t).toArray⟩ : ByteArray) = ⟨t.toArray⟩ := by
          rw [show (⟨#[47]⟩ : ByteArray) = ⟨([47] : List UInt8).toArray⟩ from rfl, str_app, str_app, HS.out]
        clear hb7 H7
        go_wp2_with fail
        refine (H9.out w7 b7).mono ?_
        rw [hcv]
        rintro e w8 ⟨rfl, hb8⟩
        have b8 := b7.trans (hb8.mono b7.size)
        clear hb8
        go_wp2
        go_ret
        exact ⟨by simp, b8⟩
    · have hbad := cleanR_bad hc
      obtain ⟨c, hcc⟩ : ∃ c, (cleanR a).2 = c := ⟨_, rfl⟩
      have hcv : ∃ x, codeV S (cleanR a).2 = errI x := ⟨_, by unfold codeV; rw [if_neg hc]⟩
      obtain ⟨x, hcv⟩ := hcv
      rw [hbad, hcv] at hC
      have HC := Lib.hid hC
      clear hC hbad hc hcc hcv hl
      go_enter Tryd.func7, Tryd.ntmps7
      go_wp2_with fail
      refine H0.out.mono ?_
      rintro e w1 ⟨rfl, b1⟩
      go_wp2_with fail
      refine (HC.out w1 b1).mono ?_
      rintro e w2 ⟨rfl, hb2⟩
      have b2 := b1.trans (hb2.mono b1.size)
      clear hb2
      go_wp2
      go_ret
      exact ⟨rfl, b2⟩
  · have hd : ((250 : Int) < (a.length : Int)) = True := by simp; omega
    go_enter Tryd.func7, Tryd.ntmps7
    go_wp2_with fail
    refine H0.out.mono ?_
    rintro e w1 ⟨rfl, b1⟩
    go_wp2
    go_ret
    exact ⟨rfl, b1⟩
end Go.Proofs.YtmmgbgekcpbelaaDoor
