/-
  The walk of the law PathStars.
-/
import Derived.Test.YtmmgbgekcpbelaaDoorStarsPure
import Derived.Test.YtmmgbgekcpbelaaDoorCut
namespace Go.Proofs.YtmmgbgekcpbelaaDoor
open Go Go.RowKit Go.Kf

theorem hit_call {p s : List UInt8} (h : Hit p s) {w : World} {S : Nat → Addr} (hm : Ml w) (hE : PErr w S) (hp : p.length ≤ 1000) (hs : s.length ≤ 1000) :
    ∀ w1, Below w.heap.size w w1 → Calls Tryd.prog 37 #[str p, str s] w1 fun e w' => e = .returned (.tuple #[.bool true, .nilIface]) ∧ Below w.heap.size w w' := by
  intro w1 b
  have h1 := match_any p s w1 S (hm.below b (Nat.le_refl _)) (hE.below b (Nat.le_refl _)) hp hs
  have e2 : matchV S p s = .nilIface := by unfold matchV; rw [h.1]; rfl
  rw [h.2, e2] at h1
  refine h1.mono ?_
  rintro e w' ⟨rfl, hb⟩
  exact ⟨rfl, b.trans (hb.mono b.size)⟩

set_option maxRecDepth 100000 in
set_option maxHeartbeats 1000000 in
theorem pathStars_all (a : List UInt8) (w : World) (S : Nat → Addr) (hm : Ml w) (hE : PErr w S) :
    Calls Tryd.prog 8 #[str a] w fun e w' => e = .returned (.bool true) ∧ Below w.heap.size w w' := by
  have H0 := Lib.hid (pathed_any w S hm hE)
  have HM := Lib.hid hm
  have HE := Lib.hid hE
  clear hm hE
  by_cases hl : a.length ≤ 100
  · have hd : ((100 : Int) < (a.length : Int)) = False := by simp; omega
    have hC := fun w1 (b : Below w.heap.size w w1) => check_any a w1 S (HM.out.below b (Nat.le_refl _)) (HE.out.below b (Nat.le_refl _)) (by omega)
    by_cases hp : partsL a false = []
    · have hcv : checkV S a = errI (S 3) := by unfold checkV; rw [if_pos hp]
      rw [hcv] at hC
      have HC := Lib.hid hC
      clear hC hcv hp hl
      go_enter Tryd.func8, Tryd.ntmps8
      go_wp2_with fail
      refine H0.out.mono ?_
      rintro e w1 ⟨rfl, b1⟩
      go_wp2_with fail
      refine (HC.out w1 b1).mono ?_
      rintro e w2 ⟨rfl, hb2⟩
      have b2 := b1.trans (hb2.mono b1.size)
      clear hb2
      go_wp2
      go_ret
      exact ⟨rfl, b2⟩
    · have hcv : checkV S a = .nilIface := by unfold checkV; rw [if_neg hp]
      rw [hcv] at hC
      have HC := Lib.hid hC
      obtain ⟨hI, hpl⟩ := isP_of hp
      obtain ⟨out, ho⟩ : ∃ out, Kf.spl 47 a = out := ⟨_, rfl⟩
      rw [ho] at hI hpl
      rw [hpl] at hp
      have M1 := Lib.hid (hit_call (hit_self hI hpl hp) HM.out HE.out (by omega) (by omega))
      have M2 := Lib.hid (hit_call (hit_two hpl hp) HM.out HE.out (by simp) (by omega))
      have M3 := Lib.hid (fun h5 => hit_call (hit_ahead hI hpl hp h5) HM.out HE.out (by simp; omega) (by omega))
      have M4 := Lib.hid (fun h5 => hit_call (hit_behind hI hpl hp h5) HM.out HE.out (by simp; omega) (by omega))
      have M5 := Lib.hid (fun h5 => hit_call (hit_star hI hpl hp h5) HM.out HE.out (by simp; omega) (by omega))
      have HL := Lib.hid (fun w1 (b : Below w.heap.size w w1) => last_part a w1 (HM.out.below b (Nat.le_refl _)) (by omega))
      have hcut := fun w1 => cut_any a 47 w1 (by omega)
      rw [ho] at hcut
      have HCut := Lib.hid hcut
      have hol := hI.len
      obtain ⟨y, hy⟩ : ∃ y, lastL a = y := ⟨_, rfl⟩
      rw [hy] at HL M5
      clear hC hcv hp hI hpl ho hcut hy
      have e3 : (⟨#[42, 42, 47]⟩ : ByteArray) ++ (⟨a.toArray⟩ : ByteArray) = ⟨([42, 42, 47] ++ a).toArray⟩ := str_app [42, 42, 47] a
      have e4 : (⟨a.toArray⟩ : ByteArray) ++ (⟨#[47, 42, 42]⟩ : ByteArray) = ⟨(a ++ [47, 42, 42]).toArray⟩ := str_app a [47, 42, 42]
      have e5 : (⟨a.toArray⟩ : ByteArray) ++ (⟨#[42]⟩ : ByteArray) = ⟨(a ++ [42]).toArray⟩ := str_app a [42]
      go_enter Tryd.func8, Tryd.ntmps8
      go_wp2_with fail
      refine H0.out.mono ?_
      rintro e w1 ⟨rfl, b1⟩
      go_wp2_with fail
      refine (HC.out w1 b1).mono ?_
      rintro e w2 ⟨rfl, hb2⟩
      have b2 := b1.trans (hb2.mono b1.size)
      clear hb2
      go_wp2_with fail
      refine (M1.out w2 b2).mono ?_
      rintro e w3 ⟨rfl, b3⟩
      go_wp2_with fail
      refine (M2.out w3 b3).mono ?_
      rintro e w4 ⟨rfl, b4⟩
      go_wp2_with fail
      refine (HCut.out w4).mono ?_
      rintro e w5 ⟨v, rfl, hown, hb5⟩
      have b5 := b4.trans (hb5.mono b4.size)
      have hrd := ownsRow_reads hown
      obtain ⟨ad, cap, rfl, -, -⟩ := hrd
      clear hown hb5
      have hll : (out.map str).length = out.length := List.length_map _
      rw [hll]
      by_cases h5 : out.length < 5
      · go_wp2_with fail
        refine (M3.out h5 w5 b5).mono ?_
        rintro e w6 ⟨rfl, b6⟩
        go_wp2_with fail
        refine (M4.out h5 w6 b6).mono ?_
        rintro e w7 ⟨rfl, b7⟩
        go_wp2_with fail
        refine (HL.out w7 b7).mono ?_
        rintro e w8 ⟨rfl, hb8⟩
        have b8 := b7.trans (hb8.mono b7.size)
        clear hb8
        by_cases hy : y.length < 12
        · go_wp2_with fail
          refine (M5.out hy w8 b8).mono ?_
          rintro e w9 ⟨rfl, b9⟩
          go_wp2
          go_ret
          exact ⟨rfl, b9⟩
        · go_wp2
          go_ret
          exact ⟨rfl, b8⟩
      · go_wp2_with fail
        refine (HL.out w5 b5).mono ?_
        rintro e w8 ⟨rfl, hb8⟩
        have b8 := b5.trans (hb8.mono b5.size)
        clear hb8
        by_cases hy : y.length < 12
        · go_wp2_with fail
          refine (M5.out hy w8 b8).mono ?_
          rintro e w9 ⟨rfl, b9⟩
          go_wp2
          go_ret
          exact ⟨rfl, b9⟩
        · go_wp2
          go_ret
          exact ⟨rfl, b8⟩
  · have hd : ((100 : Int) < (a.length : Int)) = True := by simp; omega
    go_enter Tryd.func8, Tryd.ntmps8
    go_wp2_with fail
    refine H0.out.mono ?_
    rintro e w1 ⟨rfl, b1⟩
    go_wp2
    go_ret
    exact ⟨rfl, b1⟩
end Go.Proofs.YtmmgbgekcpbelaaDoor
