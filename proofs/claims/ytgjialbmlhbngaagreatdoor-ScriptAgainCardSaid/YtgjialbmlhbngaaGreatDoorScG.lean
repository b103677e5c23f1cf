/-
  The reference's Index of a text in a list. The closed fact of scripts; the first word of a line; the text of an error.
-/
import Derived.Test.YtgjialbmlhbngaaGreatDoorPkZ
import Derived.Test.YtgjialbmlhbngaaGreatDoorPkA
import Derived.Test.YtgjialbmlhbngaaGreatDoorScF
import Derived.Test.YtgjialbmlhbngaaGreatDoorPkC

set_option maxRecDepth 100000
namespace Go.Proofs.YtgjialbmlhbngaaGreatDoor
open Go Go.RowKit Go.Kf Go.Proofs
def rIdx (l : List (List UInt8)) (s : List UInt8) : Int := if s ∈ l then (l.idxOf s : Int) else -1
theorem ridx_lt {l : List (List UInt8)} {s : List UInt8} (h : s ∉ l) : rIdx l s = -1 := if_neg h
theorem ridxOf_at {s : List UInt8} : ∀ {l : List (List UInt8)} {k : Nat} (h : k < l.length), l[k] = s → s ∉ l.take k → l.idxOf s = k
  | x :: l, 0, _, he, _ => by
    have he' : x = s := he
    subst he'
    simp [List.idxOf, List.findIdx_cons]
  | x :: l, k + 1, h, he, hno => by
    have he' : l[k]'(by simpa using h) = s := he
    rw [List.take_succ_cons, List.mem_cons, not_or] at hno
    have hx : ¬ x = s := fun e => hno.1 e.symm
    have hb : (x == s) = false := by simpa using hx
    rw [List.idxOf_cons, ridxOf_at (by simpa using h) he' hno.2, hb]
    rfl
theorem ridx_at {s : List UInt8} {l : List (List UInt8)} {k : Nat} (h : k < l.length) (he : l[k] = s) (hno : s ∉ l.take k) : rIdx l s = k := by
  rw [rIdx, if_pos (by rw [← he]; exact List.getElem_mem h), ridxOf_at h he hno]
theorem rIndexT_any (v : Value) (l : List (List UInt8)) (s : List UInt8) (w : World) (hr : Reads w v (l.map str)) :
    Calls Tryz.prog 64 #[v, str s] w fun e w' => e = .returned (.int .i64 (rIdx l s)) ∧ w = w' := by
  have hle := hr.le
  have hr' := hr
  obtain ⟨a, cap, rfl, -, -⟩ := hr'
  simp only [List.length_map] at *
  go_enter Tryz.func64, Tryz.ntmps64
  go_wp2
  go_loop [5] (fun i => ∃ k : Nat, k ≤ l.length ∧ s ∉ l.take k ∧ i = .int .i64 k) (fun i => l.length - (intOf i).toNat)
  case atStart => exact ⟨0, by omega, by simp, rfl⟩
  case round =>
    obtain ⟨k, hkl, hno, rfl⟩ := hrel
    by_cases hlt : k < l.length
    · obtain ⟨b, o, hix, hce⟩ := hr.at Tryz.underlying33 (by kernel_rfl) k (by simpa using hlt)
      simp only [List.getElem_map] at hce
      have hno' := Hd hno
      clear hr hno
      by_cases he : l[k] = s
      · have hd : (l[k] == s) = true := by simpa using he
        have HE := Hd he
        clear he
        go_wp2
        go_ret
        exact ⟨by show Ending.returned (.int .i64 (k : Int)) = _; rw [ridx_at hlt HE.out hno'.out], rfl⟩
      · have hd : (l[k] == s) = false := by simpa using he
        have HE := Hd he
        clear he
        go_wp2
        go_round
        case rel => exact ⟨k + 1, by omega, not_mem_take hlt hno'.out HE.out, by go_num⟩
        case measure => simp [intOf]; omega
    · clear hr
      go_wp2
      go_ret
      rw [List.take_of_length_le (by omega)] at hno
      exact ⟨by rw [ridx_lt hno]; rfl, rfl⟩
open Go.Sort
set_option maxHeartbeats 1000000 in
theorem hello_any {S : Nat → Addr} (w : World) (hE : SEnv S w) : Calls Tryz.prog 57 #[] w fun e w' => e = .returned (.bool true) ∧ Below w.heap.size w w' := by
  obtain ⟨W1, hW1⟩ : ∃ W, w.alloc (.cells (hLines.map str).toArray 9) = W := ⟨_, rfl⟩
  have hb1 : Below w.heap.size w W1 := hW1 ▸ (Below.refl _ w).alloc (Nat.le_refl _) _
  have hrow : W1.ownsRow w.heap.size 9 1 (.slice (some ⟨w.heap.size, 0, none⟩) 4 4) 4 (hLines.map str) := row_laid (hW1 ▸ heap_alloc_here w _) rfl (by omega) (Nat.le_refl _)
  have KR := Hd (srun_any (S := S) hLines (.slice (some ⟨w.heap.size, 0, none⟩) 4 4) W1 (ownsRow_reads hrow) (by decide) (hE.below hb1))
  have HB1 := Hd hb1
  replace hW1 : w.alloc (.cells #[str [112, 117, 116, 32, 97, 32, 120, 59, 121], str [114, 117, 108, 101, 32, 98, 32, 61, 32, 117, 112, 112, 101, 114, 32, 97], str [109, 97, 107, 101], str [115, 104, 111, 119, 32, 98]] 9) = W1 := hW1
  have HW1 := Hd hW1
  clear hW1 hb1 hrow hE
  go_enter Tryz.func57, Tryz.ntmps57
  go_wp2_with fail
  rw [HW1.out]
  refine KR.out.mono ?_
  rintro e w2 (⟨h, -⟩ | ⟨-, u, r, b, rfl, hscr, hown, hb2⟩)
  · exact absurd h (by decide)
  have hr := hello_plain hscr
  subst hr
  have HB2 := Hd (HB1.out.trans (hb2.mono HB1.out.size))
  obtain ⟨W3, hW3⟩ : ∃ W, w2.alloc (.cells (([okT, okT, [49, 32, 48, 32, 48, 32, 48], [88, 59, 89]] : List (List UInt8)).map str).toArray 9) = W := ⟨_, rfl⟩
  have hA3 : Below w2.heap.size w2 W3 := hW3 ▸ (Below.refl _ w2).alloc (Nat.le_refl _) _
  have hrow3 : W3.ownsRow w2.heap.size 9 1 (.slice (some ⟨w2.heap.size, 0, none⟩) 4 4) 4 (([okT, okT, [49, 32, 48, 32, 48, 32, 48], [88, 59, 89]] : List (List UInt8)).map str) := row_laid (hW3 ▸ heap_alloc_here w2 _) rfl (by omega) (Nat.le_refl _)
  have hown3 := row_below hown hA3
  have KS := sameTexts u (.slice (some ⟨w2.heap.size, 0, none⟩) 4 4) [okT, okT, [49, 32, 48, 32, 48, 32, 48], [88, 59, 89]] [okT, okT, [49, 32, 48, 32, 48, 32, 48], [88, 59, 89]] W3 (ownsRow_reads hown3) (ownsRow_reads hrow3) (own_lt hown3) (own_lt hrow3)
  rw [beq_self_eq_true] at KS
  have KS := Hd KS
  replace hW3 : w2.alloc (.cells #[str [111, 107], str [111, 107], str [49, 32, 48, 32, 48, 32, 48], str [88, 59, 89]] 9) = W3 := hW3
  have HW3 := Hd hW3
  have HB3 := Hd (HB2.out.trans (hA3.mono HB2.out.size))
  obtain ⟨au, cu, hu, -, -⟩ := id (ownsRow_reads hown)
  subst hu
  clear hscr hown hb2 hW3 hA3 hrow3 hown3 KR
  go_wp2_with fail
  rw [HW3.out]
  refine KS.out.mono ?_
  rintro e w4 ⟨rfl, hb4⟩
  have HB4 := Hd (HB3.out.trans (hb4.mono HB3.out.size))
  clear hb4
  go_wp2
  go_ret
  exact ⟨rfl, HB4.out⟩
theorem wordOf_any (s : List UInt8) (w : World) (hs : s.length ≤ 1000000) : Calls Tryz.prog 63 #[str s] w fun e w' => ∃ h l, spl 32 s = h :: l ∧ e = .returned (str h) ∧ Below w.heap.size w w' := by
  have K := Hd (cut_any s 32 w hs)
  obtain ⟨h, l, hsp⟩ : ∃ h l, spl 32 s = h :: l := by
    cases hx : spl 32 s with
    | nil => exact absurd hx (spl_ne 32 s)
    | cons h l => exact ⟨h, l, rfl⟩
  have HSP := Hd hsp
  clear hsp
  go_enter Tryz.func63, Tryz.ntmps63
  go_wp2_with fail
  refine K.out.mono ?_
  rintro e w2 ⟨v, rfl, hown, hb2⟩
  rw [HSP.out] at hown
  have HB2 := Hd hb2
  obtain ⟨av, cv, hv, -, -⟩ := id (ownsRow_reads hown)
  rw [List.length_map, List.length_cons] at hv
  subst hv
  have hrd := ownsRow_reads hown
  obtain ⟨b, o, hix, hce⟩ := hrd.at (P := Tryz.prog) Tryz.underlying33 (by kernel_rfl) 0 (by simp)
  simp only [List.map_cons, List.getElem_cons_zero] at hce
  replace hix : ∀ w', (Instr.indexAt 33 (.slice av (l.length + 1) cv) (.int .i64 0)).run Tryz.prog w' = .ok (.pointer (some ⟨b, o, none⟩)) w' := hix
  clear hown hrd hb2 K
  go_wp2
  go_ret
  exact ⟨h, l, HSP.out, rfl, HB2.out⟩
theorem errorText1_any (w : World) : Calls Tryz.prog 65 #[.int .i64 1] w fun e w' => e = .returned (str (errTx 1)) ∧ Below w.heap.size w w' := by
  go_enter Tryz.func65, Tryz.ntmps65
  go_wp2
  go_ret
  exact ⟨rfl, (Below.refl _ w).alloc (Nat.le_refl _) _⟩
end Go.Proofs.YtgjialbmlhbngaaGreatDoor
