/-
  The walks of SameInts and SameTexts: they tell whether two lists are one.
-/
import Derived.Test.YtmlmogllgnfklaaGreatDoorBase
import Derived.Test.YtmlmogllgnfklaaGreatDoorChecked
namespace Go.Proofs.YtmlmogllgnfklaaGreatDoor
open Go Go.RowKit Go.Kf

theorem below_drewN {B : Nat} {a w : World} (h : Below B a w) (n : Nat) : Below B a (w.drewN n) := ⟨h.os, h.tape, h.output, h.size, h.block⟩
abbrev num (n : Int) : Value := .int .i64 n

theorem take_succ_eq {α : Type} {a b : List α} {j : Nat} (h : a.take j = b.take j) (ha : j < a.length) (hb : j < b.length) (he : a[j] = b[j]) : a.take (j + 1) = b.take (j + 1) := by
  rw [List.take_succ_eq_append_getElem ha, List.take_succ_eq_append_getElem hb, h, he]
theorem beq_of_take {α : Type} [BEq α] [LawfulBEq α] {a b : List α} (hl : a.length = b.length) (h : a.take a.length = b.take a.length) : (a == b) = true := by
  rw [List.take_of_length_le (Nat.le_refl _), List.take_of_length_le (by omega)] at h
  simp [h]
theorem beq_of_ne {α : Type} [BEq α] [LawfulBEq α] {a b : List α} {j : Nat} (ha : j < a.length) (hb : j < b.length) (he : (a[j] == b[j]) = false) : (a == b) = false := by
  cases h : a == b with
  | false => rfl
  | true =>
    have := eq_of_beq h
    subst this
    simp at he

set_option maxRecDepth 100000 in
theorem sameTexts (va vb : Value) (a b : List (List UInt8)) (w : World) (ha : Reads w va (a.map str)) (hb : Reads w vb (b.map str)) (hva : ∀ k, va.ownBlock = some k → k < w.heap.size) (hvb : ∀ k, vb.ownBlock = some k → k < w.heap.size) :
    Calls Tryz.prog 34 #[va, vb] w fun e w' => e = .returned (.bool (a == b)) ∧ Below w.heap.size w w' := by
  have hla := ha.le
  have hlb := hb.le
  have ha' := ha
  have hb' := hb
  obtain ⟨aa, ca, rfl, -, -⟩ := ha'
  obtain ⟨ab, cb, rfl, -, -⟩ := hb'
  simp only [List.length_map] at *
  have HA := Lib.hid ha
  have HB := Lib.hid hb
  clear ha hb
  by_cases hl : a.length = b.length
  · go_enter Tryz.func34, Tryz.ntmps34
    go_wp2
    go_loopw [5] (fun i wl => ∃ j : Nat, i = .int .i64 j ∧ j ≤ a.length ∧ a.take j = b.take j ∧ Below w.heap.size w wl) (fun i _ => a.length - (intOf i).toNat)
    case atStart => exact ⟨0, rfl, by omega, by simp, Below.refl _ _⟩
    case round =>
      obtain ⟨j, rfl, hj, htk, hbl⟩ := hrel
      have HT := Lib.hid htk
      have HW := Lib.hid hbl
      by_cases hlt : j < a.length
      · have ra := HA.out.below hbl hva
        have rb := HB.out.below hbl hvb
        obtain ⟨ba, oa, hixa, hca⟩ := ra.at (P := Tryz.prog) Tryz.underlying25 (by kernel_rfl) j (by simpa using hlt)
        obtain ⟨bb, ob, hixb, hcb⟩ := rb.at (P := Tryz.prog) Tryz.underlying25 (by kernel_rfl) j (by simpa using (by omega : j < b.length))
        simp only [List.getElem_map] at hca hcb
        rw [hl] at hixa
        clear ra rb hbl htk
        by_cases he : a[j] = b[j]
        · have hd : (a[j] == b[j]) = true := by simpa using he
          have HE := Lib.hid he
          clear he
          go_wp2
          go_quiet (fail)
          go_wp2
          go_roundw
          case rel => exact ⟨j + 1, by go_num, by omega, take_succ_eq HT.out _ _ HE.out, below_drewN HW.out _⟩
          case measure => simp [intOf]; omega
        · have hd : (a[j] == b[j]) = false := by simpa using he
          have HE := Lib.hid he
          clear he
          go_wp2
          go_quiet (fail)
          go_wp2
          go_ret
          exact ⟨by rw [beq_of_ne hlt (by omega) hd]; rfl, below_drewN HW.out _⟩
      · go_wp2
        go_ret
        obtain rfl : j = a.length := by omega
        exact ⟨by rw [beq_of_take hl HT.out]; rfl, HW.out⟩
  · have hd : (a == b) = false := by
      cases h : a == b with
      | false => rfl
      | true => exact absurd (by rw [eq_of_beq h]) hl
    go_enter Tryz.func34, Tryz.ntmps34
    go_wp2
    go_ret
    exact ⟨by rw [hd]; rfl, Below.refl _ _⟩

set_option maxRecDepth 100000 in
theorem sameInts (va vb : Value) (a b : List Int) (w : World) (ha : Reads w va (a.map num)) (hb : Reads w vb (b.map num)) (hva : ∀ k, va.ownBlock = some k → k < w.heap.size) (hvb : ∀ k, vb.ownBlock = some k → k < w.heap.size) :
    Calls Tryz.prog 32 #[va, vb] w fun e w' => e = .returned (.bool (a == b)) ∧ Below w.heap.size w w' := by
  have hla := ha.le
  have hlb := hb.le
  have ha' := ha
  have hb' := hb
  obtain ⟨aa, ca, rfl, -, -⟩ := ha'
  obtain ⟨ab, cb, rfl, -, -⟩ := hb'
  simp only [List.length_map] at *
  have HA := Lib.hid ha
  have HB := Lib.hid hb
  clear ha hb
  by_cases hl : a.length = b.length
  · go_enter Tryz.func32, Tryz.ntmps32
    go_wp2
    go_loopw [5] (fun i wl => ∃ j : Nat, i = .int .i64 j ∧ j ≤ a.length ∧ a.take j = b.take j ∧ Below w.heap.size w wl) (fun i _ => a.length - (intOf i).toNat)
    case atStart => exact ⟨0, rfl, by omega, by simp, Below.refl _ _⟩
    case round =>
      obtain ⟨j, rfl, hj, htk, hbl⟩ := hrel
      have HT := Lib.hid htk
      have HW := Lib.hid hbl
      by_cases hlt : j < a.length
      · have ra := HA.out.below hbl hva
        have rb := HB.out.below hbl hvb
        obtain ⟨ba, oa, hixa, hca⟩ := ra.at (P := Tryz.prog) Tryz.underlying28 (by kernel_rfl) j (by simpa using hlt)
        obtain ⟨bb, ob, hixb, hcb⟩ := rb.at (P := Tryz.prog) Tryz.underlying28 (by kernel_rfl) j (by simpa using (by omega : j < b.length))
        simp only [List.getElem_map] at hca hcb
        rw [hl] at hixa
        clear ra rb hbl htk
        by_cases he : a[j] = b[j]
        · have hd : (a[j] == b[j]) = true := by simpa using he
          have HE := Lib.hid he
          clear he
          go_wp2
          go_quiet (fail)
          go_wp2
          go_roundw
          case rel => exact ⟨j + 1, by go_num, by omega, take_succ_eq HT.out _ _ HE.out, below_drewN HW.out _⟩
          case measure => simp [intOf]; omega
        · have hd : (a[j] == b[j]) = false := by simpa using he
          have HE := Lib.hid he
          clear he
          go_wp2
          go_quiet (fail)
          go_wp2
          go_ret
          exact ⟨by rw [beq_of_ne hlt (by omega) hd]; rfl, below_drewN HW.out _⟩
      · go_wp2
        go_ret
        obtain rfl : j = a.length := by omega
        exact ⟨by rw [beq_of_take hl HT.out]; rfl, HW.out⟩
  · have hd : (a == b) = false := by
      cases h : a == b with
      | false => rfl
      | true => exact absurd (by rw [eq_of_beq h]) hl
    go_enter Tryz.func32, Tryz.ntmps32
    go_wp2
    go_ret
    exact ⟨by rw [hd]; rfl, Below.refl _ _⟩
end Go.Proofs.YtmlmogllgnfklaaGreatDoor

/-
  SameTexts on whatever two lists of texts; and a list of texts that goes on reading so.
-/
namespace Go.Kf
open Go Go.RowKit
/-- What reads as a list reads so behind a call that makes memory alone. -/
theorem Reads.below0 {w w' : World} {v : Value} {xs : List Value} (h : Reads w v xs) (hb : Below w.heap.size w w') : Reads w' v xs :=
  h.frame fun _ _ _ hu => (hb.cell (lt_of_cell hu)).trans hu
theorem Reads.below1 {B : Nat} {w w' : World} {v : Value} {xs : List Value} (h : Reads w v xs) (hb : Below B w w') (hB : w.heap.size ≤ B) : Reads w' v xs :=
  h.below0 (hb.mono hB)
end Go.Kf
namespace Go.Proofs.YtmlmogllgnfklaaGreatDoor
open Go Go.RowKit Go.Kf

set_option maxRecDepth 100000 in
theorem sameTexts0 (va vb : Value) (a b : List (List UInt8)) (w : World) (ha : Reads w va (a.map str)) (hb : Reads w vb (b.map str)) :
    Calls Tryz.prog 34 #[va, vb] w fun e w' => e = .returned (.bool (a == b)) ∧ Below w.heap.size w w' := by
  have hla := ha.le
  have hlb := hb.le
  have ha' := ha
  have hb' := hb
  obtain ⟨aa, ca, rfl, -, -⟩ := ha'
  obtain ⟨ab, cb, rfl, -, -⟩ := hb'
  simp only [List.length_map] at *
  have HA := Lib.hid ha
  have HB := Lib.hid hb
  clear ha hb
  by_cases hl : a.length = b.length
  · go_enter Tryz.func34, Tryz.ntmps34
    go_wp2
    go_loopw [5] (fun i wl => ∃ j : Nat, i = .int .i64 j ∧ j ≤ a.length ∧ a.take j = b.take j ∧ Below w.heap.size w wl) (fun i _ => a.length - (intOf i).toNat)
    case atStart => exact ⟨0, rfl, by omega, by simp, Below.refl _ _⟩
    case round =>
      obtain ⟨j, rfl, hj, htk, hbl⟩ := hrel
      have HT := Lib.hid htk
      have HW := Lib.hid hbl
      by_cases hlt : j < a.length
      · have ra := HA.out.below0 hbl
        have rb := HB.out.below0 hbl
        obtain ⟨ba, oa, hixa, hca⟩ := ra.at (P := Tryz.prog) Tryz.underlying25 (by kernel_rfl) j (by simpa using hlt)
        obtain ⟨bb, ob, hixb, hcb⟩ := rb.at (P := Tryz.prog) Tryz.underlying25 (by kernel_rfl) j (by simpa using (by omega : j < b.length))
        simp only [List.getElem_map] at hca hcb
        rw [hl] at hixa
        clear ra rb hbl htk
        by_cases he : a[j] = b[j]
        · have hd : (a[j] == b[j]) = true := by simpa using he
          have HE := Lib.hid he
          clear he
          go_wp2
          go_quiet (fail)
          go_wp2
          go_roundw
          case rel => exact ⟨j + 1, by go_num, by omega, take_succ_eq HT.out _ _ HE.out, below_drewN HW.out _⟩
          case measure => simp [intOf]; omega
        · have hd : (a[j] == b[j]) = false := by simpa using he
          have HE := Lib.hid he
          clear he
          go_wp2
          go_quiet (fail)
          go_wp2
          go_ret
          exact ⟨by rw [beq_of_ne hlt (by omega) hd]; rfl, below_drewN HW.out _⟩
      · go_wp2
        go_ret
        obtain rfl : j = a.length := by omega
        exact ⟨by rw [beq_of_take hl HT.out]; rfl, HW.out⟩
  · have hd : (a == b) = false := by
      cases h : a == b with
      | false => rfl
      | true => exact absurd (by rw [eq_of_beq h]) hl
    go_enter Tryz.func34, Tryz.ntmps34
    go_wp2
    go_ret
    exact ⟨by rw [hd]; rfl, Below.refl _ _⟩

end Go.Proofs.YtmlmogllgnfklaaGreatDoor
