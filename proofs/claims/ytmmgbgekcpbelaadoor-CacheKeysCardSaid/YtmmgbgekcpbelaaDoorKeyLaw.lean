/-
  The walk of the law CacheKeys: KeyOf, LongTexts, and the law.
-/
import Derived.Test.YtmmgbgekcpbelaaDoorKeyW
import Derived.Test.YtmmgbgekcpbelaaDoorCached
import Derived.Deep.RegionHeld3
namespace Go.Proofs.YtmmgbgekcpbelaaDoor
open Go Go.RowKit Go.Kf

theorem keep_cell {w w' : World} {b o : Nat} {v : Value} (hb : Below w.heap.size w w') (h : w.cell? ⟨b, o, none⟩ = some v) : w'.cell? ⟨b, o, none⟩ = some v :=
  (hb.cell (p := ⟨b, o, none⟩) (lt_of_cell h)).trans h

set_option maxHeartbeats 1000000 in
set_option maxRecDepth 100000 in
theorem refKey_any (kd wd : List UInt8) (v : Value) (l : List (List UInt8)) (w : World) (hr : Reads w v (l.map str))
    (hk : kd.length ≤ 1000) (hw : wd.length ≤ 1000) (hl : ∀ s ∈ l, s.length ≤ 1000) (hn : l.length ≤ 1000) :
    Calls Tryd.prog 30 #[str kd, str wd, v] w fun e w' => e = .returned (str (keyL kd wd l)) ∧ Below w.heap.size w w' := by
  obtain ⟨a, cap, rfl, -, -⟩ := id hr
  simp only [List.length_map] at *
  have HR := Lib.hid hr
  have HL := Lib.hid hl
  have hck := digits_short hk
  have hcw := digits_short hw
  clear hr hl
  go_enter Tryd.func30, Tryd.ntmps30
  go_wp2_with fail
  refine (decimal_any kd.length _ (by omega)).mono ?_
  rintro e w1 ⟨rfl, b1⟩
  go_wp2_with fail
  refine (decimal_any wd.length _ (by omega)).mono ?_
  rintro e w2 ⟨rfl, hb2⟩
  have b2 := b1.trans (hb2.mono b1.size)
  clear hb2 b1
  go_wp2_with fail
  go_loopw [7, 8] (fun t i wl => ∃ j : Nat, j ≤ l.length ∧ i = .int .i64 j ∧ t = str (keyL kd wd (l.take j)) ∧ Below w.heap.size w wl) (fun _ i _ => l.length - (intOf i).toNat)
  case atStart => exact ⟨0, by omega, rfl, by simp [str_app, keyL, cnt], b2⟩
  case round =>
    obtain ⟨j, hj, rfl, rfl, hbj⟩ := hrel
    have hsj : (keyL kd wd (l.take j)).length ≤ 2000000 := keyL_short hk hw (fun s hs => HL.out s (List.mem_of_mem_take hs)) (by simp; omega)
    by_cases hlt : j < l.length
    · obtain ⟨b, o, hix, hce⟩ := (HR.out.below0 hbj).at (P := Tryd.prog) Tryd.underlying29 (by kernel_rfl) j (by simpa using hlt)
      simp only [List.getElem_map] at hce
      have hcj := digits_short (HL.out l[j] (List.getElem_mem hlt))
      have hsl := HL.out l[j] (List.getElem_mem hlt)
      have HE := Lib.hid (show keyL kd wd (l.take (j + 1)) = keyL kd wd (l.take j) ++ cnt l[j] by rw [List.take_succ_eq_append_getElem hlt, keyL_snoc])
      generalize keyL kd wd (l.take j) = key at *
      generalize l[j] = s at *
      have hz1 : ¬ 9223372036854775807 < key.length + (Lib.decDigits s.length).length := by omega
      have hz2 : ¬ 9223372036854775807 < key.length + (Lib.decDigits s.length).length + 1 := by omega
      have hz3 : ¬ 9223372036854775807 < key.length + (Lib.decDigits s.length).length + 1 + s.length := by omega
      go_wp2_with fail
      go_region_held3 (fun w' => w'.cell? ⟨b, o, none⟩ = some (str s) ∧ Below w.heap.size w w')
        (first | exact ⟨keep_cell hb3 hce, (Below.drew hbj).trans (hb3.mono hbj.size)⟩ | exact ⟨hce, Below.drew hbj⟩)
        (first | (go_at_call 52; refine (decimal_any s.length _ (by omega)).mono ?_; rintro e w3 ⟨rfl, hb3⟩))
      rename_i hheld
      have HW := Lib.hid hheld.2
      clear hheld hb3 hbj
      go_wp2
      go_roundw
      case rel => exact ⟨j + 1, by omega, by go_num, by rw [HE.out]; simp [str_app, cnt], HW.out⟩
      case measure => simp [intOf]; omega
    · obtain rfl : j = l.length := by omega
      rw [List.take_length]
      go_wp2
      go_ret
      exact ⟨rfl, hbj⟩

/-- What LongTexts lets pass. -/
def FewTexts (l : List (List UInt8)) (many most : Nat) : Prop := l.length ≤ many ∧ (∀ s ∈ l, s.length ≤ most) ∧ (l.map List.length).sum ≤ most
def LongPost (l : List (List UInt8)) (many most : Nat) (w : World) (e : Ending) (w' : World) : Prop := w = w' ∧ ((e = .returned (.int .i64 1)) ∨ (e = .returned (.int .i64 0) ∧ FewTexts l many most))
theorem sum_take_succ {l : List (List UInt8)} {j : Nat} (h : j < l.length) : ((l.take (j + 1)).map List.length).sum = ((l.take j).map List.length).sum + l[j].length := by
  rw [List.take_succ_eq_append_getElem h]
  simp only [List.map_append, List.map_cons, List.map_nil, List.sum_append, List.sum_cons, List.sum_nil, Nat.add_zero]

set_option maxRecDepth 100000 in
theorem longTexts_any (v : Value) (l : List (List UInt8)) (many most : Nat) (w : World) (hr : Reads w v (l.map str)) (hm : many ≤ 1000) (hM : most ≤ 1000000) :
    Calls Tryd.prog 27 #[v, .int .i64 many, .int .i64 most] w (LongPost l many most w) := by
  have hle := hr.le
  obtain ⟨a, cap, rfl, -, -⟩ := id hr
  simp only [List.length_map] at *
  have HR := Lib.hid hr
  clear hr
  by_cases hlm : many < l.length
  · go_enter Tryd.func27, Tryd.ntmps27
    go_wp2
    go_ret
    exact ⟨rfl, Or.inl rfl⟩
  · go_enter Tryd.func27, Tryd.ntmps27
    go_wp2
    go_loop [7, 8] (fun n i => ∃ j : Nat, j ≤ l.length ∧ i = .int .i64 j ∧ n = .int .i64 ((l.take j).map List.length).sum ∧ (∀ s ∈ l.take j, s.length ≤ most) ∧ ((l.take j).map List.length).sum ≤ most) (fun _ i => l.length - (intOf i).toNat)
    case atStart => exact ⟨0, by omega, rfl, rfl, by simp, by simp⟩
    case round =>
      obtain ⟨j, hj, rfl, rfl, hall, hsum⟩ := hrel
      have HA := Lib.hid hall
      clear hall
      by_cases hlt : j < l.length
      · obtain ⟨b, o, hix, hce⟩ := HR.out.at (P := Tryd.prog) Tryd.underlying29 (by kernel_rfl) j (by simpa using hlt)
        simp only [List.getElem_map] at hce
        have HS := Lib.hid (sum_take_succ hlt)
        have hmem : ∀ s ∈ l.take (j + 1), s ∈ l.take j ∨ s = l[j] := by
          intro s hs
          rw [List.take_succ_eq_append_getElem hlt] at hs
          simpa only [List.mem_append, List.mem_singleton] using hs
        have HM := Lib.hid hmem
        clear hmem
        generalize ((l.take j).map List.length).sum = n at *
        generalize l[j] = s at *
        by_cases hs : s.length ≤ most
        · by_cases hs2 : n + s.length ≤ most
          · go_wp2
            go_round
            case rel =>
              refine ⟨j + 1, by omega, by go_num, by rw [HS.out]; go_num, fun t ht => ?_, by rw [HS.out]; omega⟩
              rcases HM.out t ht with h | rfl
              · exact HA.out t h
              · exact hs
            case measure => simp [intOf]; omega
          · go_wp2
            go_ret
            exact ⟨rfl, Or.inl rfl⟩
        · go_wp2
          go_ret
          exact ⟨rfl, Or.inl rfl⟩
      · obtain rfl : j = l.length := by omega
        rw [List.take_length] at hsum HA
        go_wp2
        go_ret
        exact ⟨rfl, Or.inr ⟨rfl, by omega, HA.out, hsum⟩⟩

/-- CacheKeys, whatever it is given. -/
theorem cacheKeys_all (k1 w1 k2 w2 : List UInt8) (v1 v2 : Value) (l1 l2 : List (List UInt8)) (w : World) (ht : Tab w) (hr1 : Reads w v1 (l1.map str)) (hr2 : Reads w v2 (l2.map str)) (hn1 : NilOr v1) (hn2 : NilOr v2) :
    Calls Tryd.prog 6 #[str k1, str w1, v1, str k2, str w2, v2] w fun e w' => e = .returned (.bool true) ∧ Below w.heap.size w w' := by
  have HR1 := Lib.hid hr1
  have HR2 := Lib.hid hr2
  have HT := Lib.hid ht
  clear hr1 hr2 ht
  by_cases hs : k1.length ≤ 100 ∧ w1.length ≤ 100 ∧ k2.length ≤ 100 ∧ w2.length ≤ 100
  · obtain ⟨h1, h2, h3, h4⟩ := hs
    have d1 : ((100 : Int) < k1.length) = False := by simp; omega
    have d2 : ((100 : Int) < w1.length) = False := by simp; omega
    have d3 : ((100 : Int) < k2.length) = False := by simp; omega
    have d4 : ((100 : Int) < w2.length) = False := by simp; omega
    go_enter Tryd.func6, Tryd.ntmps6
    go_wp2_with fail
    refine (cached_any w).mono ?_
    rintro e w3 ⟨rfl, hb3⟩
    have HB3 := Lib.hid hb3
    go_wp2_with fail
    refine (longTexts_any v1 l1 10 300 w3 (HR1.out.below0 hb3) (by omega) (by omega)).mono ?_
    clear hb3
    rintro e w' ⟨rfl, rfl | ⟨rfl, hf1⟩⟩
    · go_wp2_with fail
      refine (longTexts_any v2 l2 10 300 w3 (HR2.out.below0 HB3.out) (by omega) (by omega)).mono ?_
      rintro e w' ⟨rfl, rfl | ⟨rfl, -⟩⟩
      all_goals
        go_wp2
        go_ret
        exact ⟨rfl, HB3.out⟩
    · obtain ⟨m1, a1, -⟩ := hf1
      have A1 := Lib.hid a1
      clear a1
      go_wp2_with fail
      refine (longTexts_any v2 l2 10 300 w3 (HR2.out.below0 HB3.out) (by omega) (by omega)).mono ?_
      rintro e w' ⟨rfl, rfl | ⟨rfl, hf2⟩⟩
      · go_wp2
        go_ret
        exact ⟨rfl, HB3.out⟩
      obtain ⟨m2, a2, -⟩ := hf2
      have A2 := Lib.hid a2
      clear a2
      go_wp2_with fail
      refine (own_texts v1 l1 w3 (HR1.out.below0 HB3.out) hn1 (by omega) ).mono ?_
      rintro e w4 ⟨v3, rfl, -, hr3, hb4⟩
      have b4 := HB3.out.trans (hb4.mono HB3.out.size)
      have HR3 := Lib.hid hr3
      clear hb4 hr3
      go_wp2_with fail
      refine (key_any k1 w1 v3 l1 w4 (tab_below HT.out b4 (Nat.le_refl _)) HR3.out (by omega) (by omega) (fun s hs => by have := A1.out s hs; omega) (by omega)).mono ?_
      rintro e w5 ⟨rfl, hb5⟩
      have b5 := b4.trans (hb5.mono b4.size)
      clear hb5 HR3 b4
      go_wp2_with fail
      refine (own_texts v2 l2 w5 (HR2.out.below0 b5) hn2 (by omega) ).mono ?_
      rintro e w6 ⟨v4, rfl, -, hr4, hb6⟩
      have b6 := b5.trans (hb6.mono b5.size)
      have HR4 := Lib.hid hr4
      clear hb6 hr4 b5
      go_wp2_with fail
      refine (key_any k2 w2 v4 l2 w6 (tab_below HT.out b6 (Nat.le_refl _)) HR4.out (by omega) (by omega) (fun s hs => by have := A2.out s hs; omega) (by omega)).mono ?_
      rintro e w7 ⟨rfl, hb7⟩
      have b7 := b6.trans (hb7.mono b6.size)
      clear hb7 HR4 b6
      have hkb := keyL_beq k1 w1 k2 w2 l1 l2
      have HB7 := Lib.hid b7
      by_cases e1 : k1 = k2 ∧ w1 = w2
      · have q1 : (k1 == k2) = true := by simpa using e1.1
        have q2 : (w1 == w2) = true := by simpa using e1.2
        rw [q1, q2, Bool.true_and, Bool.true_and] at hkb
        clear e1
        go_wp2_with fail
        refine (sameTexts0 v1 v2 l1 l2 w7 (HR1.out.below0 b7) (HR2.out.below0 b7)).mono ?_
        rintro e w8 ⟨rfl, hb8⟩
        have b8 := b7.trans (hb8.mono b7.size)
        clear hb8 b7
        go_wp2_with fail
        refine (refKey_any k1 w1 v1 l1 w8 (HR1.out.below0 b8) (by omega) (by omega) (fun s hs => by have := A1.out s hs; omega) (by omega)).mono ?_
        rintro e w9 ⟨rfl, hb9⟩
        have b9 := b8.trans (hb9.mono b8.size)
        clear hb9 b8
        go_wp2
        go_ret
        exact ⟨by simp, b9⟩
      · have hkf : (keyL k1 w1 l1 == keyL k2 w2 l2) = false := by
          rw [hkb]
          by_cases e2 : k1 = k2
          · have : ¬ w1 = w2 := fun e => e1 ⟨e2, e⟩
            simp [this]
          · simp [e2]
        clear hkb
        have q1 : (k1 == k2) = false ∨ ((k1 == k2) = true ∧ (w1 == w2) = false) := by
          by_cases e2 : k1 = k2
          · have : ¬ w1 = w2 := fun e => e1 ⟨e2, e⟩
            exact Or.inr ⟨by simpa using e2, by simpa using this⟩
          · exact Or.inl (by simpa using e2)
        clear e1
        rcases q1 with q1 | ⟨q1, q2⟩
        all_goals
          go_wp2_with fail
          refine (refKey_any k1 w1 v1 l1 w7 (HR1.out.below0 HB7.out) (by omega) (by omega) (fun s hs => by have := A1.out s hs; omega) (by omega)).mono ?_
          rintro e w9 ⟨rfl, hb9⟩
          have b9 := HB7.out.trans (hb9.mono HB7.out.size)
          clear hb9
          go_wp2
          go_ret
          exact ⟨by simp, b9⟩
  · have hor : 100 < k1.length ∨ (k1.length ≤ 100 ∧ 100 < w1.length) ∨ (k1.length ≤ 100 ∧ w1.length ≤ 100 ∧ 100 < k2.length) ∨ (k1.length ≤ 100 ∧ w1.length ≤ 100 ∧ k2.length ≤ 100 ∧ 100 < w2.length) := by omega
    clear hs
    rcases hor with h1 | ⟨h1, h2⟩ | ⟨h1, h2, h3⟩ | ⟨h1, h2, h3, h4⟩
    all_goals
      go_enter Tryd.func6, Tryd.ntmps6
      go_wp2_with fail
      refine (cached_any w).mono ?_
      rintro e w3 ⟨rfl, hb3⟩
      go_wp2
      go_ret
      exact ⟨rfl, hb3⟩
end Go.Proofs.YtmmgbgekcpbelaaDoor
