/-
  The walks of the reference: partsOf, IsPath.
-/
import Derived.Test.YtmlmogllgnfklaaGreatDoorCut
namespace Go.Proofs.YtmlmogllgnfklaaGreatDoor
open Go Go.RowKit Go.Kf

/-- What partsOf hands back. -/
def RefParts (s : List UInt8) (stars : Bool) (w : World) (e : Ending) (w' : World) : Prop :=
  ∃ v, e = .returned v ∧ (∃ a n c, v = .slice a n c) ∧ Reads w' v ((partsL s stars).map str) ∧ Below w.heap.size w w'

set_option maxRecDepth 100000 in
set_option maxHeartbeats 1000000 in
theorem partsOf_any (s : List UInt8) (stars : Bool) (w : World) (hs : s.length ≤ 1000000) : Calls Tryz.prog 88 #[str s, .bool stars] w (RefParts s stars w) := by
  have hlen := spl_length_le 47 s
  have nilR : ∀ w' : World, Reads w' (.slice none 0 0) (([] : List (List UInt8)).map str) := fun w' => ⟨none, 0, rfl, by simp, fun i u hi => by simp at hi⟩
  have NR := Lib.hid nilR
  clear nilR
  by_cases h5 : (spl 47 s).length ≤ 5
  · go_enter Tryz.func88, Tryz.ntmps88
    go_wp2_with fail
    refine (cut_any s 47 w hs).mono ?_
    rintro e w1 ⟨v, rfl, hown, hb1⟩
    have hrd := ownsRow_reads hown
    obtain ⟨a, cap, rfl, -, -⟩ := id hrd
    have HR := Lib.hid hrd
    clear hrd hown
    rw [List.length_map] at HR
    have hll : (((spl 47 s).map str).length) = (spl 47 s).length := List.length_map _
    rw [hll]
    clear hll
    go_wp2_with fail
    go_loop [6] (fun i => ∃ k : Nat, k ≤ (spl 47 s).length ∧ namesB stars ((spl 47 s).take k) = true ∧ i = .int .i64 k) (fun i => (spl 47 s).length - (intOf i).toNat)
    case atStart => exact ⟨0, by omega, by simp [namesB], rfl⟩
    case round =>
      obtain ⟨k, hk, hok, rfl⟩ := hrel
      have HK := Lib.hid hok
      clear hok
      by_cases hlt : k < (spl 47 s).length
      · obtain ⟨b, o, hix, hce⟩ := HR.out.at (P := Tryz.prog) Tryz.underlying25 (by kernel_rfl) k (by simpa using hlt)
        simp only [List.getElem_map] at hce
        have HC := Lib.hid (show (spl 47 s).take (k + 1) = (spl 47 s).take k ++ [(spl 47 s)[k]] from List.take_succ_eq_append_getElem hlt)
        have HM := Lib.hid (List.getElem_mem hlt)
        obtain ⟨x, hx⟩ : ∃ x, (spl 47 s)[k] = x := ⟨_, rfl⟩
        rw [hx] at hce HC HM
        clear hx
        cases hn : nameB x stars with
        | true =>
          have hcall := isName_any x stars w1
          rw [hn] at hcall
          have HL := Lib.hid hcall
          have HNN := Lib.hid hn
          clear hcall hn
          go_wp2_with (go_at_call 135; refine HL.out.mono ?_; rintro e w' ⟨rfl, rfl⟩)
          go_round
          case rel => exact ⟨k + 1, by omega, namesB_take HC.out HK.out HNN.out, by go_num⟩
          case measure => simp [intOf]; omega
        | false =>
          have hcall := isName_any x stars w1
          rw [hn] at hcall
          have HL := Lib.hid hcall
          have HNN := Lib.hid hn
          clear hcall hn
          go_wp2_with (go_at_call 135; refine HL.out.mono ?_; rintro e w' ⟨rfl, rfl⟩)
          go_ret
          have hpl : partsL s stars = [] := by unfold partsL; rw [if_neg (fun h => by rw [namesB_not HM.out HNN.out] at h; cases h.2)]
          exact ⟨_, rfl, ⟨_, _, _, rfl⟩, by rw [hpl]; exact NR.out _, hb1⟩
      · obtain rfl : k = (spl 47 s).length := by omega
        rw [List.take_length] at HK
        go_wp2
        go_ret
        have hpl : partsL s stars = spl 47 s := by unfold partsL; rw [if_pos ⟨h5, HK.out⟩]
        exact ⟨_, rfl, ⟨_, _, _, rfl⟩, by rw [hpl]; exact HR.out, hb1⟩
  · have hpl : partsL s stars = [] := by unfold partsL; rw [if_neg (fun h => h5 h.1)]
    have HPL := Lib.hid hpl
    clear hpl
    go_enter Tryz.func88, Tryz.ntmps88
    go_wp2_with fail
    refine (cut_any s 47 w hs).mono ?_
    rintro e w1 ⟨v, rfl, hown, hb1⟩
    have hrd := ownsRow_reads hown
    obtain ⟨a, cap, rfl, -, -⟩ := id hrd
    clear hrd hown
    have hll : (((spl 47 s).map str).length) = (spl 47 s).length := List.length_map _
    rw [hll]
    clear hll
    go_wp2
    go_ret
    exact ⟨_, rfl, ⟨_, _, _, rfl⟩, by rw [HPL.out]; exact NR.out _, hb1⟩

/-- Is a text a path? -/
def isPathB (s : List UInt8) : Bool := !(partsL s false).isEmpty
theorem isPath_any (s : List UInt8) (w : World) (hs : s.length ≤ 1000000) : Calls Tryz.prog 65 #[str s] w fun e w' => e = .returned (.bool (isPathB s)) ∧ Below w.heap.size w w' := by
  have H := Lib.hid (partsOf_any s false w hs)
  unfold isPathB
  go_enter Tryz.func65, Tryz.ntmps65
  go_wp2_with fail
  refine H.out.mono ?_
  rintro e w1 ⟨v, rfl, ⟨a, n, c, rfl⟩, hr, hb⟩
  obtain rfl := hr.len
  clear hr
  have hll : (((partsL s false).map str).length) = (partsL s false).length := List.length_map _
  rw [hll]
  clear hll
  go_wp2
  go_ret
  refine ⟨congrArg (fun b => Ending.returned (Value.bool b)) ?_, hb⟩
  cases partsL s false with
  | nil => rfl
  | cons x l => simp
end Go.Proofs.YtmlmogllgnfklaaGreatDoor
