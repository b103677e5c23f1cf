/-
  The walk of the reference's SplitOf.
-/
import Derived.Test.YtmmgbgekcpbelaaDoorRefP
import Derived.Test.YtmmgbgekcpbelaaDoorPathLaw1
import Derived.BigQuiet
namespace Go.Proofs.YtmmgbgekcpbelaaDoor
open Go Go.RowKit Go.Kf

/-- The place of the last '/' among the first k letters (-1: none). -/
def LastAt (s : List UInt8) (k : Nat) (at_ : Int) : Prop :=
  (at_ = -1 ∧ 47 ∉ s.take k) ∨ ∃ m : Nat, at_ = (m : Int) ∧ m < k ∧ (∃ h : m < s.length, s[m] = 47) ∧ 47 ∉ (s.drop (m + 1)).take (k - (m + 1))

theorem join_spl : ∀ s : List UInt8, Lib.join (spl 47 s) [47] = s
  | [] => by simp [spl, Lib.join_one]
  | x :: s => by
    have ih := join_spl s
    have hne := spl_ne 47 s
    simp only [spl]
    cases hs : spl 47 s with
    | nil => exact absurd hs hne
    | cons y r =>
      rw [hs] at ih
      by_cases hx : x = 47
      · rw [if_pos hx]
        have e : Lib.join ([] :: y :: r) [47] = 47 :: Lib.join (y :: r) [47] := by
          rw [Lib.join_cons, Lib.join_cons]
          simp [Lib.joinTail]
        rw [e, ih, hx]
      · rw [if_neg hx]
        have e : Lib.join ((x :: y) :: r) [47] = x :: Lib.join (y :: r) [47] := by
          rw [Lib.join_cons, Lib.join_cons]
          simp
        show Lib.join ((x :: y) :: r) [47] = x :: s
        rw [e, ih]

theorem partsL_spl {s : List UInt8} (h : isPathB s = true) : partsL s false = spl 47 s := by
  unfold isPathB partsL at *
  split
  · rfl
  · rename_i hc
    rw [if_neg hc] at h
    cases h
theorem lastAt_no {s : List UInt8} (hp : isPathB s = true) (h : 47 ∉ s) : dirL s = [] ∧ lastL s = s := by
  have e := partsL_spl hp
  rw [spl_miss h] at e
  unfold dirL lastL
  rw [e]
  exact ⟨by simp [Lib.join_nil], rfl⟩
theorem lastAt_yes {s : List UInt8} (hp : isPathB s = true) {m : Nat} (hm : m < s.length) (hc : s[m] = 47) (h : 47 ∉ s.drop (m + 1)) : dirL s = s.take m ∧ lastL s = s.drop (m + 1) := by
  have e := partsL_spl hp
  have hs : s = s.take m ++ 47 :: s.drop (m + 1) := by
    conv => lhs; rw [← List.take_append_drop m s]
    rw [List.drop_eq_getElem_cons hm, hc]
  have e2 : spl 47 s = spl 47 (s.take m) ++ [s.drop (m + 1)] := by
    conv => lhs; rw [hs]
    rw [spl_app, spl_miss h]
  rw [e2] at e
  unfold dirL lastL
  rw [e]
  exact ⟨by rw [List.dropLast_concat, join_spl], by simp⟩

set_option maxRecDepth 100000 in
set_option maxHeartbeats 2000000 in
theorem splitOf_any (s : List UInt8) (w : World) (hs : s.length ≤ 1000000) :
    Calls Tryd.prog 41 #[str s] w fun e w' => e = .returned (.tuple #[str (dirL s), str (lastL s)]) ∧ Below w.heap.size w w' := by
  have hip := isPath_any s w hs
  cases hp : isPathB s with
  | false =>
    rw [hp] at hip
    have HIP := Lib.hid hip
    have hpl : partsL s false = [] := by unfold isPathB at hp; simpa using hp
    have hd : dirL s = [] := by unfold dirL; rw [hpl]; simp [Lib.join_nil]
    have hl : lastL s = [] := by unfold lastL; rw [hpl]; rfl
    rw [hd, hl]
    clear hip hp hpl hd hl
    go_enter Tryd.func41, Tryd.ntmps41
    go_wp2_with fail
    refine HIP.out.mono ?_
    rintro e w1 ⟨rfl, hb1⟩
    go_wp2
    go_ret2
    exact ⟨rfl, hb1⟩
  | true =>
    rw [hp] at hip
    have HIP := Lib.hid hip
    have HP := Lib.hid hp
    clear hip hp
    go_enter Tryd.func41, Tryd.ntmps41
    go_wp2_with fail
    refine HIP.out.mono ?_
    rintro e w1 ⟨rfl, hb1⟩
    go_wp2_with fail
    go_loop [5, 6] (fun v i => ∃ (k : Nat) (at_ : Int), v = .int .i64 at_ ∧ i = .int .i64 k ∧ k ≤ s.length ∧ LastAt s k at_) (fun _ i => s.length - (intOf i).toNat)
    case atStart => exact ⟨0, -1, rfl, rfl, by omega, Or.inl ⟨rfl, by simp⟩⟩
    case round =>
      obtain ⟨k, at_, rfl, rfl, hk, hla⟩ := hrel
      have HL := Lib.hid hla
      clear hla
      by_cases hlt : k < s.length
      · obtain ⟨x, hx⟩ : ∃ x, s[k] = x := ⟨_, rfl⟩
        have hidx : ∀ h, (⟨s.toArray⟩ : ByteArray)[k]'h = x := fun _ => hx
        have HX := Lib.hid hx
        clear hx
        by_cases hc : x = 47
        · have hd : ((x.toNat : Int) == 47) = true := by rw [hc]; rfl
          have HI : Hid (LastAt s (k + 1) (k : Int)) := Lib.hid (Or.inr ⟨k, rfl, by omega, ⟨hlt, HX.out.trans hc⟩, by simp⟩)
          clear hc
          go_wp2
          go_round
          case rel => exact ⟨k + 1, k, rfl, by go_num, by omega, HI.out⟩
          case measure => simp [intOf]; omega
        · have hd : ((x.toNat : Int) == 47) = false := by
            have := Kf.u8_eq x 47
            rw [show ((47 : UInt8).toNat : Int) = 47 from rfl] at this
            rw [this]; simpa using hc
          have HI : Hid (LastAt s (k + 1) at_) := Lib.hid (by
            rcases HL.out with ⟨h1, h2⟩ | ⟨m, h1, h2, h3, h4⟩
            · refine Or.inl ⟨h1, ?_⟩
              rw [List.take_succ_eq_append_getElem hlt, HX.out]
              simp only [List.mem_append, List.mem_singleton, not_or]
              exact ⟨h2, fun e => hc e.symm⟩
            · refine Or.inr ⟨m, h1, by omega, h3, ?_⟩
              rw [pre_snoc (by omega) hlt, HX.out]
              simp only [List.mem_append, List.mem_singleton, not_or]
              exact ⟨h4, fun e => hc e.symm⟩)
          clear hc
          go_wp2
          go_round
          case rel => exact ⟨k + 1, at_, rfl, by go_num, by omega, HI.out⟩
          case measure => simp [intOf]; omega
      · obtain rfl : k = s.length := by omega
        rcases HL.out with ⟨rfl, h2⟩ | ⟨m, rfl, h2, ⟨h3, h3'⟩, h4⟩
        · rw [List.take_length] at h2
          obtain ⟨e1, e2⟩ := lastAt_no HP.out h2
          have E1 := Lib.hid e1
          have E2 := Lib.hid e2
          clear e1 e2 h2
          go_wp2
          go_ret2
          rw [E1.out, E2.out]
          exact ⟨rfl, hb1⟩
        · rw [List.take_of_length_le (by simp)] at h4
          obtain ⟨e1, e2⟩ := lastAt_yes HP.out h3 h3' h4
          have hx1 : (⟨s.toArray⟩ : ByteArray).extract 0 m = ⟨(s.take m).toArray⟩ := by rw [extract_list]; simp
          have hx2 : (⟨s.toArray⟩ : ByteArray).extract (m + 1) s.length = ⟨(s.drop (m + 1)).toArray⟩ := by rw [extract_list]; congr 2; exact List.take_of_length_le (by simp)
          have E1 := Lib.hid e1
          have E2 := Lib.hid e2
          clear e1 e2 h4
          go_wp2_with fail
          go_quiet (fail)
          go_wp2
          go_ret2
          rw [E1.out, E2.out]
          exact ⟨rfl, below_drewN hb1 _⟩
end Go.Proofs.YtmmgbgekcpbelaaDoor
