/-
  Package act: digits, head.
-/
import Derived.Test.YtmkpeopebddnjaaGreatDoorActC
import Derived.Test.YtmkpeopebddnjaaGreatDoorNumB
namespace Go.Proofs.YtmkpeopebddnjaaGreatDoor
open Go Go.RowKit Go.Kf Go.Sort

/-- A number of three digits at most, as it is written. -/
def IsN3 (s : List UInt8) (n : Nat) : Prop := n ≤ 999 ∧ s = Lib.decDigits n
def num3 (s : List UInt8) : Option Nat := (List.range 1000).find? (fun n => s == Lib.decDigits n)
theorem IsN3.one {s : List UInt8} {n m : Nat} (h : IsN3 s n) (h' : IsN3 s m) : n = m := dec_inj (by have := h.1; omega) (by have := h'.1; omega) (h.2.symm.trans h'.2)
theorem num3_is {s : List UInt8} {n : Nat} (h : IsN3 s n) : num3 s = some n := by
  cases hq : num3 s with
  | none =>
    have := List.find?_eq_none.1 hq n (List.mem_range.2 (by have := h.1; omega))
    exact absurd (beq_iff_eq.2 h.2) this
  | some m =>
    have h1 := List.find?_some hq
    have h2 := List.mem_range.1 (List.mem_of_find?_eq_some hq)
    have hm : IsN3 s m := ⟨by omega, by simpa using h1⟩
    rw [h.one hm]
theorem num3_of {s : List UInt8} {n : Nat} (hq : num3 s = some n) : IsN3 s n := by
  have h1 := List.find?_some hq
  have h2 := List.mem_range.1 (List.mem_of_find?_eq_some hq)
  exact ⟨by omega, by simpa using h1⟩
theorem num3_no {s : List UInt8} (h : num3 s = none) (n : Nat) : ¬ IsN3 s n := fun hn => by rw [num3_is hn] at h; cases h
theorem num3_len {s : List UInt8} {n : Nat} (h : IsN3 s n) : s.length ≤ 3 := by
  rw [h.2]
  exact digits_le 2 n (by have := h.1; omega)
theorem dec_le3 {n : Nat} (h : (Lib.decDigits n).length ≤ 3) : n ≤ 999 := by
  rw [Lib.decDigits_length] at h
  have := nDigits_lt 2 n h
  omega

/-- strconv.Atoi of such a number. -/
theorem atoi_n3 (s : List UInt8) (n : Nat) (h : IsN3 s n) (w : World) : Calls Tryz.prog 103 #[str s] w fun e w' => e = .returned (.tuple #[.int .i64 n, .nilIface]) ∧ Below w.heap.size w w' := by
  have hl := num3_len h
  obtain ⟨h9, rfl⟩ := h
  refine (Tryz.strconv_Atoi_ok ⟨(Lib.decDigits n).toArray⟩ (by simp [ByteArray.size]; omega) n (atoiAll_dec (by omega)) w).mono ?_
  rintro e w' ⟨rfl, h⟩
  refine ⟨rfl, ?_⟩
  rcases h with rfl | ⟨t, rfl⟩
  · exact Below.refl _ _
  · exact Lib.bytesWorld_below w _ t

set_option maxRecDepth 100000 in
set_option maxHeartbeats 1000000 in
theorem digits_any (ds : List UInt8) (w : World) (hN : NErr w) (ht : Tab w) (hl : ds.length ≤ 100000) :
    Calls Tryz.prog 80 #[str ds] w fun e w' => e = .returned (.bool (num3 ds).isSome) ∧ Below w.heap.size w w' := by
  cases hq : num3 ds with
  | some n =>
    have hn := num3_of hq
    have h3 := num3_len hn
    have K1 := Lib.hid (atoi_n3 ds n hn w)
    have h9 := hn.1
    have K2 : Hid (∀ w1, Tab w1 → Calls Tryz.prog 46 #[.int .i64 (n : Int)] w1 fun e w' => e = .returned (str ds) ∧ Below w1.heap.size w1 w') := Lib.hid (fun w1 t1 => by
      refine (Tryz.strconv_Itoa (n : Int) (by omega) (by omega) w1 t1).mono ?_
      rintro e w' ⟨rfl, kk, os, hw2⟩
      refine ⟨?_, by rw [hw2]; exact Lib.below_grow _ w1 (Nat.le_refl _) kk os⟩
      have : Lib.itoa (n : Int) = Lib.decDigits n := by unfold Lib.itoa; rw [if_neg (by omega)]; rfl
      rw [this, hn.2])
    have HT := Lib.hid ht
    have hz1 : (0 : Int) ≤ (n : Int) := by omega
    have hz3 : ((ds.length : Int) ≤ 3) = True := eq_true (by omega)
    clear hq hn hN ht
    go_enter Tryz.func80, Tryz.ntmps80
    go_wp2_with fail
    refine K1.out.mono ?_
    rintro e w1 ⟨rfl, hb1⟩
    have HB1 := Lib.hid hb1
    clear hb1
    go_wp2_with fail
    refine (K2.out w1 (tab_below HT.out HB1.out (Nat.le_refl _))).mono ?_
    rintro e w2 ⟨rfl, hb2⟩
    have HB2 := Lib.hid hb2
    clear hb2
    go_wp2
    go_ret
    exact ⟨rfl, HB1.out.trans (HB2.out.mono HB1.out.size)⟩
  | none =>
    have hno := num3_no hq
    have HNO := Lib.hid hno
    have K1 := Lib.hid (atoi_any ds w hN hl)
    have HT := Lib.hid ht
    clear hno hN ht hq
    go_enter Tryz.func80, Tryz.ntmps80
    go_wp2_with fail
    refine K1.out.mono ?_
    rintro e w1 ⟨hb1, ⟨v, hv, rfl⟩ | ⟨-, z, t, p, rfl⟩⟩
    · have HB1 := Lib.hid hb1
      have HV := Lib.hid hv
      clear hb1 hv
      by_cases h4 : ds.length ≤ 3
      · by_cases h0 : 0 ≤ v
        · have hv9 : v ≤ 9223372036854775807 := by
            have hh := HV.out
            rw [Lib.atoiAll_short _ (by omega)] at hh
            cases hq : Lib.atoi ds with
            | none => rw [hq] at hh; cases hh
            | some u =>
              rw [hq] at hh
              obtain rfl : u = v := by injection hh
              exact atoi_small (by omega) hq
          have hne : (Lib.itoa v == ds) = false := by
            rw [beq_eq_false_iff_ne]
            intro e
            have : Lib.itoa v = Lib.decDigits v.toNat := by unfold Lib.itoa; rw [if_neg (by omega)]
            rw [this] at e
            exact HNO.out v.toNat ⟨dec_le3 (by rw [e]; exact h4), e.symm⟩
          have K2 := Lib.hid (Tryz.strconv_Itoa v (by omega) hv9 w1 (tab_below HT.out HB1.out (Nat.le_refl _)))
          obtain ⟨dd, hdd⟩ : ∃ d, Lib.itoa v = d := ⟨_, rfl⟩
          rw [hdd] at K2 hne
          clear hdd
          have hlt0 : (0 ≤ v) = True := by simpa using h0
          have hlt4 : ((ds.length : Int) ≤ 3) = True := eq_true (by omega)
          go_wp2_with fail
          refine K2.out.mono ?_
          rintro e w2 ⟨rfl, kk, os, hw2⟩
          have HB2 : Hid (Below w1.heap.size w1 w2) := Lib.hid (by rw [hw2]; exact Lib.below_grow _ w1 (Nat.le_refl _) kk os)
          clear hw2
          go_wp2
          go_ret
          exact ⟨rfl, HB1.out.trans (HB2.out.mono HB1.out.size)⟩
        · have hlt0 : (0 ≤ v) = False := by simpa using h0
          go_wp2
          go_ret
          exact ⟨rfl, HB1.out⟩
      · have hlt4 : ((ds.length : Int) ≤ 3) = False := by simp; omega
        by_cases h0 : 0 ≤ v
        · have hlt0 : (0 ≤ v) = True := by simpa using h0
          go_wp2
          go_ret
          exact ⟨rfl, HB1.out⟩
        · have hlt0 : (0 ≤ v) = False := by simpa using h0
          go_wp2
          go_ret
          exact ⟨rfl, HB1.out⟩
    · have HB1 := Lib.hid hb1
      clear hb1
      go_wp2
      go_ret
      exact ⟨rfl, HB1.out⟩

def headB (n : Nat) (s : List UInt8) : List UInt8 := endedL ((linesB s).take n)

set_option maxRecDepth 100000 in
theorem lines_own (s : List UInt8) (w : World) (hm : Ml w) (hs : s.length ≤ 1000000) : Calls Tryz.prog 107 #[str s] w fun e w' =>
    ∃ c, e = .returned (.slice (some ⟨w.heap.size, 0, none⟩) (linesB s).length c) ∧ (linesB s).length ≤ c ∧ c ≤ 1000001 ∧ w'.ownsRow w.heap.size 9 1 (.slice (some ⟨w.heap.size, 0, none⟩) (linesB s).length c) (linesB s).length ((linesB s).map str) ∧ Below w.heap.size w w' := by
  have K := split_nl s w hm hs
  have hlb := spl_length_le 10 s
  obtain ⟨k, hk, t, ht, he⟩ := linesB_eq s
  rw [he]
  clear he
  generalize spl 10 s = l at *
  have hbw : Below w.heap.size w (w.alloc (.cells (l.map str).toArray 9)) := (Below.refl _ _).alloc (Nat.le_refl _) _
  have full : (w.alloc (.cells (l.map str).toArray 9)).ownsRow w.heap.size 9 1 (.slice (some ⟨w.heap.size, 0, none⟩) l.length l.length) l.length (l.map str) :=
    ⟨by simp, Or.inr ⟨w.heap.size, l.length, _, rfl, Nat.le_refl _, heap_alloc_here w _, Nat.le_refl _, by unfold maxLen; omega, by simp, by rw [Nat.mul_one]; exact List.take_of_length_le (by simp)⟩⟩
  have part := own_take full k (by omega)
  have hkk : (l.take k).length = k := by rw [List.length_take]; omega
  rw [← List.map_take] at part
  have hrd := ownsRow_reads full
  obtain ⟨b, o, hix, hc⟩ := hrd.at (P := Tryz.prog) Tryz.underlying39 (by kernel_rfl) k (by simp; omega)
  have hlk : l[k] = t := by
    rw [List.getElem?_eq_getElem (by omega)] at ht
    exact Option.some.inj ht
  simp only [List.getElem_map, hlk] at hc
  have FULL := Lib.hid full
  have PART := Lib.hid part
  have HB := Lib.hid hbw
  rw [hk] at K hix FULL PART
  have K1 := Lib.hid K
  have hw1 : IntKind.i64.wrap ((k : Int) + 1 - 1) = (k : Int) := by rw [show (k : Int) + 1 - 1 = (k : Int) by omega]; exact IntWalk.i64_in _ (by omega)
  have hw2 : IntKind.i64.wrap (k : Int) = (k : Int) := IntWalk.i64_in _ (by omega)
  obtain ⟨W1, hW1⟩ : ∃ W, w.alloc (.cells (l.map str).toArray 9) = W := ⟨_, rfl⟩
  rw [hW1] at K1 PART FULL HB hc
  clear K hrd hbw hm ht hlk hW1 full part
  by_cases h0 : t = []
  · have hd : (t == []) = true := by simpa using h0
    rw [if_pos h0, hkk]
    clear h0
    go_enter Tryz.func107, Tryz.ntmps107
    go_wp2_with fail
    refine K1.out.mono ?_
    rintro e w' ⟨rfl, rfl⟩
    go_wp2
    go_ret
    exact ⟨k + 1, rfl, by omega, by omega, PART.out, HB.out⟩
  · have hd : (t == []) = false := by simpa using h0
    rw [if_neg h0, hk]
    clear h0
    go_enter Tryz.func107, Tryz.ntmps107
    go_wp2_with fail
    refine K1.out.mono ?_
    rintro e w' ⟨rfl, rfl⟩
    go_wp2
    go_ret
    exact ⟨k + 1, rfl, by omega, by omega, FULL.out, HB.out⟩

set_option maxRecDepth 100000 in
theorem head_any (word s : List UInt8) (n : Nat) (v : Value) (w : World) (hr : Reads w v ([s].map str)) (hm : Ml w) (hn : IsN3 word n) (hl : s.length ≤ 10000) :
    Calls Tryz.prog 81 #[str word, v] w fun e w' => e = .returned (str (headB n s)) ∧ Below w.heap.size w w' := by
  have K1 := Lib.hid (atoi_n3 word n hn w)
  have h9 := hn.1
  have hle := hr.le
  obtain ⟨a, cap, rfl, -, -⟩ := id hr
  simp only [List.length_map, List.length_cons, List.length_nil] at *
  obtain ⟨b, o, hix, hce⟩ := hr.at (P := Tryz.prog) Tryz.underlying39 (by kernel_rfl) 0 (by simp)
  have hce0 : w.cell? ⟨b, o, none⟩ = some (str s) := hce
  have hix0 : ∀ w', (Instr.indexAt 39 (.slice a 1 cap) (.int .i64 0)).run Tryz.prog w' = .ok (.pointer (some ⟨b, o, none⟩)) w' := hix
  have HCE := Lib.hid hce0
  have HM := Lib.hid hm
  have hll := linesB_len s
  have KL := Lib.hid (fun w1 (h : Ml w1) => lines_own s w1 h (by omega))
  have KE : Hid (∀ (v1 : Value) (w1 : World), Reads w1 v1 (((linesB s).take n).map str) → Calls Tryz.prog 105 #[v1] w1 fun e w' => e = .returned (str (headB n s)) ∧ Below w1.heap.size w1 w') :=
    Lib.hid (fun v1 w1 h1 => ended_any v1 _ w1 h1 (Nat.le_trans (endedL_take _ _) (Nat.le_trans (ended_lines s) (by omega))))
  clear hm hr hn hce hix hce0
  go_enter Tryz.func81, Tryz.ntmps81
  go_wp2_with fail
  refine K1.out.mono ?_
  rintro e w1 ⟨rfl, hb1⟩
  have HB1 := Lib.hid hb1
  have hcc := (hb1.cell (p := ⟨b, o, none⟩) (lt_of_cell HCE.out)).trans HCE.out
  clear hb1
  go_wp2_with fail
  refine (KL.out w1 (HM.out.below HB1.out (Nat.le_refl _))).mono ?_
  rintro e w2 ⟨c2, rfl, hc2, hc3, hown, hb2⟩
  have HB2 := Lib.hid (HB1.out.trans (hb2.mono HB1.out.size))
  have OWN := Lib.hid hown
  clear hb2 hown
  obtain ⟨L, hL⟩ : ∃ L, linesB s = L := ⟨_, rfl⟩
  rw [hL] at OWN KE hll hc2 ⊢
  clear hL
  have hmin : (min (n : Int) (L.length : Int)).toNat = min n L.length := by omega
  have htk : L.take (min n L.length) = L.take n := by
    rcases Nat.le_total n L.length with h | h
    · rw [Nat.min_eq_left h]
    · rw [Nat.min_eq_right h, List.take_length, List.take_of_length_le h]
  have R0 := own_take OWN.out (min n L.length) (Nat.min_le_right _ _)
  rw [← List.map_take, htk] at R0
  have KE1 := Lib.hid (KE.out _ w2 (ownsRow_reads R0))
  clear R0 htk
  go_wp2_with fail
  refine KE1.out.mono ?_
  rintro e w3 ⟨rfl, hb3⟩
  have HB3 := Lib.hid (HB2.out.trans (hb3.mono HB2.out.size))
  clear hb3
  go_wp2
  go_ret
  exact ⟨rfl, HB3.out⟩
end Go.Proofs.YtmkpeopebddnjaaGreatDoor
