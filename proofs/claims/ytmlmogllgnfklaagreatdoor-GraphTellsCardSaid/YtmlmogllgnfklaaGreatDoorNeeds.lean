/-
  The reference's Index and NeedsRule.
-/
import Derived.Test.YtmlmogllgnfklaaGreatDoorRules
namespace Go.Proofs.YtmlmogllgnfklaaGreatDoor
open Go Go.RowKit Go.Kf Go.Sort Go.Proofs

/-- The first place of a text (-1: none). -/
def idxL (s : List UInt8) (l : List (List UInt8)) : Int := if l.findIdx (· == s) < l.length then (l.findIdx (· == s) : Nat) else -1
theorem idxL_hit {s : List UInt8} {l : List (List UInt8)} {i : Nat} (hi : i < l.length) (hp : l[i] = s) (hn : ∀ j (hj : j < l.length), j < i → l[j] ≠ s) : idxL s l = i := by
  have h : l.findIdx (· == s) = i := (List.findIdx_eq hi).2 ⟨by simpa using hp, fun j hj => by simpa using hn j (by omega) hj⟩
  unfold idxL
  rw [h, if_pos hi]
theorem idxL_miss {s : List UInt8} {l : List (List UInt8)} (hn : ∀ j (hj : j < l.length), l[j] ≠ s) : idxL s l = -1 := by
  have h : l.findIdx (· == s) = l.length := List.findIdx_eq_length.2 (fun x hx => by
    obtain ⟨j, hj, rfl⟩ := List.mem_iff_getElem.1 hx
    simpa using hn j hj)
  unfold idxL
  rw [h, if_neg (by omega)]
theorem idxL_mem (s : List UInt8) (l : List (List UInt8)) : decide (0 ≤ idxL s l) = decide (s ∈ l) := by
  unfold idxL
  by_cases h : l.findIdx (· == s) < l.length
  · rw [if_pos h, decide_eq_true (by omega)]
    obtain ⟨x, hx, he⟩ := List.findIdx_lt_length.1 h
    have : x = s := by simpa using he
    exact (decide_eq_true (this ▸ hx)).symm
  · rw [if_neg h, decide_eq_false (by decide)]
    exact (decide_eq_false (fun hm => h (List.findIdx_lt_length.2 ⟨s, hm, by simp⟩))).symm

set_option maxRecDepth 100000 in
theorem rindex_any (s : List UInt8) (l : List (List UInt8)) (v : Value) (w : World) (hr : Reads w v (l.map str)) :
    Calls Tryz.prog 13 #[v, str s] w fun e w' => e = .returned (.int .i64 (idxL s l)) ∧ w = w' := by
  have hle := hr.le
  obtain ⟨a, c, rfl, -, -⟩ := id hr
  simp only [List.length_map] at *
  have HR := Lib.hid hr
  clear hr
  go_enter Tryz.func13, Tryz.ntmps13
  go_wp2_with fail
  go_loopw [5] (fun iv wl => ∃ i : Nat, i ≤ l.length ∧ iv = .int .i64 i ∧ (∀ j (hj : j < l.length), j < i → l[j] ≠ s) ∧ wl = w) (fun iv _ => l.length - (intOf iv).toNat)
  case atStart => exact ⟨0, by omega, rfl, fun j hj h => by omega, rfl⟩
  case round =>
    obtain ⟨i, hi, rfl, hno, rfl⟩ := hrel
    have HNO := Lib.hid hno
    clear hno
    by_cases hlt : i < l.length
    · have hlc : ((i : Int) < (l.length : Int)) = True := eq_true (by omega)
      obtain ⟨b, o, hix, hce⟩ := HR.out.at (P := Tryz.prog) Tryz.underlying25 (by kernel_rfl) i (by simpa using hlt)
      simp only [List.getElem_map] at hce
      by_cases he : l[i] = s
      · have HF : Hid (idxL s l = (i : Int)) := Lib.hid (idxL_hit hlt he HNO.out)
        have hd : (l[i] == s) = true := by simpa using he
        clear he
        generalize l[i] = x at *
        go_wp2
        go_ret
        exact ⟨by rw [HF.out]; rfl, rfl⟩
      · have HN : Hid (∀ j (hj : j < l.length), j < i + 1 → l[j] ≠ s) := Lib.hid (fun j hj h => by
          by_cases hji : j = i
          · subst hji; exact he
          · exact HNO.out j hj (by omega))
        have hd : (l[i] == s) = false := by simpa using he
        clear he
        generalize l[i] = x at *
        go_wp2
        go_roundw
        case rel => exact ⟨i + 1, by omega, by go_num, HN.out, by first | rfl | trivial⟩
        case measure => simp [intOf]; omega
    · obtain rfl : i = l.length := by omega
      have hlc : ((l.length : Int) < (l.length : Int)) = False := eq_false (by omega)
      have HF : Hid (idxL s l = -1) := Lib.hid (idxL_miss (fun j hj => HNO.out j hj hj))
      go_wp2
      go_ret
      exact ⟨by rw [HF.out]; rfl, rfl⟩

/-- Does rule i need rule k? -/
def needB (l : List RuleL) (i k : Nat) : Bool := decide ((l.getD k ⟨[], [], [], []⟩).out ∈ (l.getD i ⟨[], [], [], []⟩).ins)
theorem needB_at {R : List RV} {i k : Nat} (hi : i < R.length) (hk : k < R.length) : needB (R.map Prod.fst) i k = decide (R[k].1.out ∈ R[i].1.ins) := by
  unfold needB
  rw [List.getD_eq_getElem?_getD, List.getD_eq_getElem?_getD, List.getElem?_map, List.getElem?_map, List.getElem?_eq_getElem hi, List.getElem?_eq_getElem hk]
  rfl

set_option maxRecDepth 100000 in
theorem needs_any (R : List RV) (v : Value) (i k : Nat) (w : World) (hr : ReadsK 4 w v (R.map rvRow)) (hx : ∀ x ∈ R, Reads w x.2 (x.1.ins.map str)) (hi : i < R.length) (hk : k < R.length) :
    Calls Tryz.prog 11 #[v, .int .i64 (i : Int), .int .i64 (k : Int)] w fun e w' => e = .returned (.bool (needB (R.map Prod.fst) i k)) ∧ Below w.heap.size w w' := by
  rw [needB_at hi hk]
  obtain ⟨a, c, hv, -, -⟩ := id hr
  rw [List.length_map] at hv
  subst hv
  obtain ⟨b, o, hix, -, hce⟩ := hr.at (P := Tryz.prog) Tryz.underlying22 (by kernel_rfl) i (by simpa using hi)
  obtain ⟨b2, o2, hix2, -, hce2⟩ := hr.at (P := Tryz.prog) Tryz.underlying22 (by kernel_rfl) k (by simpa using hk)
  simp only [List.getElem_map] at hce hce2
  have hc3 := hce 3 _ rfl
  have hd0 := hce2 0 _ rfl
  simp only [Nat.add_zero] at hd0
  have hrx := hx _ (List.getElem_mem hi)
  have hil : ((i : Int) < (R.length : Int)) = True := eq_true (by omega)
  have hkl : ((k : Int) < (R.length : Int)) = True := eq_true (by omega)
  have K : ∀ n, Calls Tryz.prog 13 #[R[i].2, str R[k].1.out] (w.drewN n) fun e w' => e = .returned (.int .i64 (idxL R[k].1.out R[i].1.ins)) ∧ w' = w.drewN n := fun n =>
    (rindex_any R[k].1.out R[i].1.ins R[i].2 (w.drewN n) (hrx.below0 (below_drewN (Below.refl _ _) n))).mono fun _ _ ⟨h1, h2⟩ => ⟨h1, h2.symm⟩
  rw [← idxL_mem]
  have KH := Lib.hid K
  clear hce hce2 hrx K hr hx
  generalize idxL R[k].1.out R[i].1.ins = z at *
  generalize R[i] = x at *
  generalize R[k] = y at *
  obtain ⟨⟨x0, x1, x2, x4⟩, x3⟩ := x
  obtain ⟨⟨y0, y1, y2, y4⟩, y3⟩ := y
  simp only at hc3 hd0 KH
  go_enter Tryz.func11, Tryz.ntmps11
  go_wp2_with fail
  go_quiet ((go_at_call 13; exact Calls.quiet_of_same (KH.out _)))
  go_wp2
  go_ret
  exact ⟨by simp, by first | exact Below.refl _ _ | exact below_drewN (Below.refl _ _) _⟩
end Go.Proofs.YtmlmogllgnfklaaGreatDoor
