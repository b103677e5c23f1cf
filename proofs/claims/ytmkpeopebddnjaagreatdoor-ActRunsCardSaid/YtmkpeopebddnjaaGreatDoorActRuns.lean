/-
  The walk of the law ActRuns, at any command.
-/
import Derived.Test.YtmkpeopebddnjaaGreatDoorAof
import Derived.Test.YtmkpeopebddnjaaGreatDoorCoded
import Derived.Test.YtmkpeopebddnjaaGreatDoorLongT
namespace Go.Proofs.YtmkpeopebddnjaaGreatDoor
open Go Go.RowKit Go.Kf Go.Sort Go.Proofs

theorem aErr_of_errW {w : World} {S : Nat → Addr} (h : ErrW w S) : AErr w S := ⟨h.var 2 (by decide), h.var 4 (by decide), h.var 9 (by decide)⟩
theorem actErr_le (name word : List UInt8) (n : Nat) : actErr name word n ≤ 12 := by
  unfold actErr
  split
  · decide
  · split
    · split <;> decide
    · decide
theorem actOf_le (name word : List UInt8) (ins : List (List UInt8)) : (actOf name word ins).1 ≤ 12 := by
  unfold actOf
  split
  · split
    · decide
    · split <;> simp
  · exact actErr_le _ _ _

set_option maxRecDepth 100000 in
theorem own_textsR (v : Value) (l : List (List UInt8)) (w : World) (hr : Reads w v (l.map str)) (hn : NilOr v) (hl : l.length ≤ 1000) :
    Calls Tryz.prog 33 #[v] w fun e w' => ∃ v', e = .returned v' ∧ Roomy v' ∧ Reads w' v' (l.map str) ∧ Below w.heap.size w w' := by
  rcases hn with rfl | ⟨ad, n, c, rfl⟩
  · obtain ⟨i, hi, hz0, hz1, hz2⟩ := info_parts tyStrsK.info
    have HR := Lib.hid hr
    clear hr
    go_enter Tryz.func33, Tryz.ntmps33
    go_wp2_with (at_builtin; refine wpList_append_own_none rfl _ _ 39 rfl 0 9 i 1 tyStrsK.und hi _ 0 [] rfl (World.ownsRow_nil _ _ _ _) rfl ?_)
    go_ret
    refine ⟨_, rfl, fun a n c h => ?_, HR.out, Below.refl _ _⟩
    cases h
    exact Nat.le_refl _
  · obtain rfl := hr.len
    have HR := Lib.hid hr
    have hm : (l.map str).length = l.length := List.length_map _
    rw [hm]
    clear hr hm
    go_enter Tryz.func33, Tryz.ntmps33
    go_wp2_with (at_builtin; refine wpList_app _ rfl _ _ 39 rfl tyStrsK 0 _ 0 [] rfl (World.ownsRow_nil _ _ _ _) ad l.length c (l.map str) rfl (by simp) ?c1 ?c2 (by decide) (by omega) (Nat.zero_le _) ?_)
    case c1 =>
      intro j u hj
      obtain ⟨a', cap', e, -, hc⟩ := HR.out
      cases e
      obtain ⟨b, o, e, hcell⟩ := hc j u hj
      cases e
      rw [addr_add rfl]
      exact hcell
    case c2 =>
      intro u hu
      obtain ⟨t, -, rfl⟩ := List.mem_map.1 hu
      rfl
    intro v' w' hown hgrow hblk
    go_wp2
    go_ret
    refine ⟨_, rfl, ?_, ?_, (Below.refl _ _).grown hgrow (Nat.le_refl _) (fun k hk => by cases hk)⟩
    · rcases hown.2 with ⟨rfl, -⟩ | ⟨g, cap, cur, rfl, -, -, hcn, -⟩
      · intro a n c h
        cases h
        exact Nat.le_refl _
      · intro a n c h
        cases h
        exact hcn
    · have := ownsRow_reads hown
      simpa using this

set_option maxRecDepth 100000 in
set_option maxHeartbeats 1000000 in
theorem actRuns_main (name word : List UInt8) (v : Value) (ins : List (List UInt8)) (w : World) (S : Nat → Addr) (hr : Reads w v (ins.map str)) (hnil : NilOr v) (hm : Ml w) (hE : ErrW w S) (hN : NErr w) (ht : Tab w) (hnl : name.length ≤ 60) (hwl : word.length ≤ 150) :
    Calls Tryz.prog 8 #[str name, str word, v] w fun e w' => e = .returned (.bool true) ∧ Below w.heap.size w w' := by
  have K0 := Lib.hid (acted_any w)
  have KL := Lib.hid (fun w1 (h : Reads w1 v (ins.map str)) => longTexts_any v ins 12 3000 w1 h (by decide) (by decide))
  have HR := Lib.hid hr
  have HNI := Lib.hid hnil
  have HM := Lib.hid hm
  have HE := Lib.hid hE
  have HN := Lib.hid hN
  have HT := Lib.hid ht
  have hlen : ∃ a c, v = .slice a ins.length c := by
    obtain ⟨a, c, e, -, -⟩ := hr
    rw [List.length_map] at e
    exact ⟨a, c, e⟩
  obtain ⟨a, c, rfl⟩ := hlen
  have hle := hr.le
  simp only [List.length_map] at hle
  have dn : ((60 : Int) < (name.length : Int)) = False := eq_false (by omega)
  have dw : ((150 : Int) < (word.length : Int)) = False := eq_false (by omega)
  clear hr hnil hm hE hN ht
  go_enter Tryz.func8, Tryz.ntmps8
  go_wp2_with fail
  refine K0.out.mono ?_
  rintro e w1 ⟨rfl, hb1⟩
  have HB1 := Lib.hid hb1
  have KL1 := Lib.hid (KL.out w1 (HR.out.below0 hb1))
  clear hb1
  go_wp2_with fail
  refine KL1.out.mono ?_
  rintro e w2 ⟨rfl, rfl | ⟨rfl, hfew⟩⟩
  · go_wp2
    go_ret
    exact ⟨rfl, HB1.out⟩
  · obtain ⟨hmany, hshort, -⟩ := hfew
    have KO := Lib.hid (own_textsR _ ins w1 (HR.out.below0 HB1.out) HNI.out (by omega))
    have hx : ∀ s ∈ ins, s.length ≤ 10000 := fun s hs => by have := hshort s hs; omega
    have KF := Lib.hid (fun w3 (h : Reads w3 (.slice a ins.length c) (ins.map str)) => aof_any name word (.slice a ins.length c) ins w3 h (by omega) (by omega) hx)
    have KR := Lib.hid (fun v3 w3 (h1 : Reads w3 v3 (ins.map str)) (h2 : Roomy v3) (h3 : Below w.heap.size w w3) => arun_any name word v3 ins w3 S h1 h2 (HM.out.below h3 (Nat.le_refl _)) (aErr_of_errW (HE.out.below h3 (Nat.le_refl _))) (HN.out.below h3 (Nat.le_refl _)) (tab_below HT.out h3 (Nat.le_refl _)) (by omega) hx)
    have KC := Lib.hid (fun w3 (h3 : Below w.heap.size w w3) => acheck_any name word ins.length w3 S (aErr_of_errW (HE.out.below h3 (Nat.le_refl _))) (HN.out.below h3 (Nat.le_refl _)) (tab_below HT.out h3 (Nat.le_refl _)) (by omega))
    have KE := Lib.hid (fun w3 => rerr_any name word ins.length w3 (by omega) (by omega))
    have C1 := Lib.hid (fun w3 (h3 : Below w.heap.size w w3) => coded_c (actErr name word ins.length) (actErr_le _ _ _) (HE.out.below h3 (Nat.le_refl _)))
    have C2 := Lib.hid (fun w3 (h3 : Below w.heap.size w w3) => coded_c (actOf name word ins).1 (actOf_le _ _ _) (HE.out.below h3 (Nat.le_refl _)))
    have e1 : codeV S (actErr name word ins.length) = errN S (actErr name word ins.length) := rfl
    have e2 : codeV S (actOf name word ins).1 = errN S (actOf name word ins).1 := rfl
    rw [e1] at C1
    rw [e2] at C2
    clear e1 e2 hx hshort
    generalize (actOf name word ins).1 = c2 at *
    generalize (actOf name word ins).2 = out at *
    generalize actErr name word ins.length = c1 at *
    generalize errN S c1 = E1 at *
    generalize errN S c2 = E2 at *
    go_wp2_with fail
    refine KO.out.mono ?_
    rintro e w3 ⟨v3, rfl, hro, hr3, hb3⟩
    have HB3 := Lib.hid (HB1.out.trans (hb3.mono HB1.out.size))
    have KR1 := Lib.hid (KR.out v3 w3 hr3 hro HB3.out)
    clear hro hr3 hb3
    go_wp2_with fail
    refine KR1.out.mono ?_
    rintro e w4 ⟨rfl, hb4⟩
    have HB4 := Lib.hid (HB3.out.trans (hb4.mono HB3.out.size))
    have KF1 := Lib.hid (KF.out w4 (HR.out.below0 HB4.out))
    clear hb4
    go_wp2_with fail
    refine KF1.out.mono ?_
    rintro e w5 ⟨rfl, hb5⟩
    have HB5 := Lib.hid (HB4.out.trans (hb5.mono HB4.out.size))
    clear hb5
    go_wp2_with fail
    refine (KC.out w5 HB5.out).mono ?_
    rintro e w6 ⟨rfl, hb6⟩
    have HB6 := Lib.hid (HB5.out.trans (hb6.mono HB5.out.size))
    clear hb6
    go_wp2_with fail
    refine (KE.out w6).mono ?_
    rintro e w7 ⟨rfl, hb7⟩
    have HB7 := Lib.hid (HB6.out.trans (hb7.mono HB6.out.size))
    clear hb7
    go_wp2_with fail
    refine (C1.out w7 HB7.out).mono ?_
    rintro e w8 ⟨rfl, hb8⟩
    have HB8 := Lib.hid (HB7.out.trans (hb8.mono HB7.out.size))
    clear hb8
    go_wp2_with fail
    refine (C2.out w8 HB8.out).mono ?_
    rintro e w9 ⟨rfl, hb9⟩
    have HB9 := Lib.hid (HB8.out.trans (hb9.mono HB8.out.size))
    clear hb9
    go_wp2
    go_ret
    exact ⟨by simp, HB9.out⟩

set_option maxRecDepth 100000 in
theorem actRuns_all (name word : List UInt8) (v : Value) (ins : List (List UInt8)) (w : World) (S : Nat → Addr) (hr : Reads w v (ins.map str)) (hnil : NilOr v) (hm : Ml w) (hE : ErrW w S) (hN : NErr w) (ht : Tab w) :
    Calls Tryz.prog 8 #[str name, str word, v] w fun e w' => e = .returned (.bool true) ∧ Below w.heap.size w w' := by
  by_cases h1 : name.length ≤ 60
  · by_cases h2 : word.length ≤ 150
    · exact actRuns_main name word v ins w S hr hnil hm hE hN ht h1 h2
    · have K0 := Lib.hid (acted_any w)
      have dn : ((60 : Int) < (name.length : Int)) = False := eq_false (by omega)
      have dw : ((150 : Int) < (word.length : Int)) = True := eq_true (by omega)
      clear hr hnil hm hE hN ht
      go_enter Tryz.func8, Tryz.ntmps8
      go_wp2_with fail
      refine K0.out.mono ?_
      rintro e w1 ⟨rfl, hb1⟩
      go_wp2
      go_ret
      exact ⟨rfl, hb1⟩
  · have K0 := Lib.hid (acted_any w)
    have dn : ((60 : Int) < (name.length : Int)) = True := eq_true (by omega)
    clear hr hnil hm hE hN ht
    go_enter Tryz.func8, Tryz.ntmps8
    go_wp2_with fail
    refine K0.out.mono ?_
    rintro e w1 ⟨rfl, hb1⟩
    go_wp2
    go_ret
    exact ⟨rfl, hb1⟩
end Go.Proofs.YtmkpeopebddnjaaGreatDoor
