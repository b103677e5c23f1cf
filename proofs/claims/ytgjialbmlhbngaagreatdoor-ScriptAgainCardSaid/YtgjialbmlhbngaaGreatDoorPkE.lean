/-
  Plain laws of texts: the first place of a piece, whether a text has it, and one piece put for another all along. Package act: digits, head.
-/
import Derived.Lib.Replace
import Derived.Lib.CountLaws
import Derived.Lib.IndexMore
import Derived.Lib.SplitLaws
import Derived.Test.YtgjialbmlhbngaaGreatDoorPkD

set_option maxRecDepth 100000
namespace Go.Proofs.YtgjialbmlhbngaaGreatDoor
open Go Go.Lib
def hasB (s : List UInt8) (i : Nat) (p : List UInt8) : Bool := p.isPrefixOf (s.drop i)
theorem hasB_take (s p : List UInt8) (i : Nat) : hasB s i p = (decide (i + p.length ≤ s.length ∨ p = []) && ((s.drop i).take p.length == p)) := by
  rw [Bool.eq_iff_iff]
  unfold hasB
  rw [List.isPrefixOf_iff_prefix, Bool.and_eq_true, decide_eq_true_eq, beq_iff_eq]
  constructor
  · rintro ⟨r, hr⟩
    have hl := congrArg List.length hr
    rw [List.length_append, List.length_drop] at hl
    refine ⟨?_, by rw [← hr, List.take_left]⟩
    by_cases hp : p = []
    · exact Or.inr hp
    · left
      have : 0 < p.length := List.length_pos_iff.2 hp
      omega
  · rintro ⟨-, h⟩
    exact ⟨(s.drop i).drop p.length, by conv => lhs; lhs; rw [← h]
                                        exact List.take_append_drop _ _⟩
theorem hasB_room {s p : List UInt8} {i : Nat} (h : hasB s i p = true) (hi : i ≤ s.length) : i + p.length ≤ s.length := by
  rw [hasB_take, Bool.and_eq_true, decide_eq_true_eq] at h
  rcases h.1 with h | h
  · exact h
  · subst h; simpa using hi
theorem contains_iff (s p : List UInt8) : contains s p = true ↔ ∃ i, i ≤ s.length ∧ hasB s i p = true := by
  unfold contains
  rw [decide_eq_true_eq]
  constructor
  · intro h
    refine Classical.byContradiction fun hn => ?_
    have : index s p = -1 := index_none (fun j hj => by
      cases ho : occAt s p j with
      | false => rfl
      | true => exact absurd ⟨j, hj, ho⟩ hn)
    omega
  · rintro ⟨i, hi, h⟩
    refine Classical.byContradiction fun hn => ?_
    have hge := index_ge s p
    have h1 : index s p = -1 := by omega
    have key : ∀ (s : List UInt8) (i : Nat), i ≤ s.length → occAt s p i = true → index s p ≠ -1 := by
      intro s
      induction s with
      | nil =>
        intro i hi ho
        have : i = 0 := by simpa using hi
        subst this
        cases p with
        | nil => decide
        | cons a t => simp [occAt] at ho
      | cons b l ih =>
        intro i hi ho
        unfold index
        by_cases hp : p.isPrefixOf (b :: l) = true
        · rw [if_pos hp]; decide
        · rw [if_neg hp]
          cases i with
          | zero => exact absurd (by simpa [occAt] using ho) hp
          | succ i =>
            have := ih i (by simpa using hi) (by simpa [occAt] using ho)
            have hne : ¬ (index l p == -1) = true := by simpa using this
            rw [if_neg hne]
            have := index_ge l p
            omega
    exact key s i hi h h1
def swapF (old new : List UInt8) : Nat → List UInt8 → List UInt8
  | 0, s => s
  | _ + 1, [] => []
  | f + 1, b :: s => if old.isPrefixOf (b :: s) then new ++ swapF old new f ((b :: s).drop old.length) else b :: swapF old new f s
def swapG (old new s : List UInt8) : List UInt8 := swapF old new s.length s
theorem swapF_fuel {old new : List UInt8} (ho : old ≠ []) : ∀ (f : Nat) (s : List UInt8), s.length ≤ f → swapF old new f s = swapF old new s.length s := by
  have hp : 0 < old.length := List.length_pos_iff.2 ho
  intro f
  induction f using Nat.strongRecOn with
  | ind f ih =>
    intro s hs
    cases s with
    | nil => cases f <;> rfl
    | cons b s =>
      cases f with
      | zero => simp at hs
      | succ f =>
        simp only [List.length_cons] at hs ⊢
        unfold swapF
        have hd : ((b :: s).drop old.length).length ≤ s.length := by
          rw [List.length_drop, List.length_cons]
          omega
        rw [ih f (by omega) _ (by omega), ih f (by omega) s (by omega), ih s.length (by omega) _ hd]
theorem swapG_nil (old new : List UInt8) : swapG old new [] = [] := rfl
theorem swapG_hit {old new s : List UInt8} (ho : old ≠ []) (h : old.isPrefixOf s = true) : swapG old new s = new ++ swapG old new (s.drop old.length) := by
  have hp : 0 < old.length := List.length_pos_iff.2 ho
  cases s with
  | nil => cases old with
    | nil => exact absurd rfl ho
    | cons a t => simp at h
  | cons b s =>
    unfold swapG
    rw [List.length_cons]
    conv => lhs; unfold swapF
    rw [if_pos h, swapF_fuel ho s.length]
    rw [List.length_drop, List.length_cons]
    omega
theorem swapG_miss {old new s : List UInt8} {b : UInt8} (_ho : old ≠ []) (h : old.isPrefixOf (b :: s) = false) : swapG old new (b :: s) = b :: swapG old new s := by
  unfold swapG
  rw [List.length_cons]
  conv => lhs; unfold swapF
  rw [h]
  simp
theorem swapG_skip {old new : List UInt8} (ho : old ≠ []) : ∀ (i : Nat) (s : List UInt8), i ≤ s.length → (∀ j, j < i → old.isPrefixOf (s.drop j) = false) → swapG old new s = s.take i ++ swapG old new (s.drop i)
  | 0, s, _, _ => by simp
  | i + 1, [], h, _ => by simp at h
  | i + 1, b :: s, h, hn => by
    have h0 := hn 0 (by omega)
    rw [List.drop_zero] at h0
    rw [swapG_miss ho h0, swapG_skip ho i s (by simpa using h) (fun j hj => by simpa using hn (j + 1) (by omega))]
    rfl
theorem swapG_same {old : List UInt8} (ho : old ≠ []) : ∀ (k : Nat) (s : List UInt8), s.length ≤ k → swapG old old s = s := by
  have hp : 0 < old.length := List.length_pos_iff.2 ho
  intro k
  induction k with
  | zero =>
    intro s hs
    obtain rfl : s = [] := List.length_eq_zero_iff.1 (by omega)
    rfl
  | succ k ih =>
    intro s hs
    cases s with
    | nil => rfl
    | cons b s =>
      cases h : old.isPrefixOf (b :: s) with
      | true =>
        rw [swapG_hit ho h, ih _ (by rw [List.length_drop, List.length_cons]; simp at hs; omega)]
        obtain ⟨r, hr⟩ := List.isPrefixOf_iff_prefix.1 h
        rw [← hr, List.drop_left]
      | false => rw [swapG_miss ho h, ih s (by simpa using hs)]
theorem index_hit' {s old : List UInt8} {i : Nat} (h : index s old = i) : i ≤ s.length ∧ occAt s old i = true ∧ ∀ j, j < i → occAt s old j = false := by
  induction s generalizing i with
  | nil =>
    unfold index at h
    split at h
    · rename_i he
      obtain rfl : i = 0 := by omega
      refine ⟨Nat.le_refl _, ?_, fun j hj => by omega⟩
      cases old with
      | nil => rfl
      | cons a t => simp at he
    · omega
  | cons b l ih =>
    unfold index at h
    split at h
    · rename_i he
      obtain rfl : i = 0 := by omega
      exact ⟨by omega, by simpa [occAt] using he, fun j hj => by omega⟩
    · rename_i he
      split at h
      · omega
      · rename_i hm
        have hge := index_ge l old
        have hne : index l old ≠ -1 := by simpa using hm
        obtain ⟨h1, h2, h3⟩ := ih (i := i - 1) (by omega)
        obtain ⟨k, rfl⟩ : ∃ k, i = k + 1 := ⟨i - 1, by omega⟩
        simp only [Nat.add_sub_cancel] at h1 h2 h3
        refine ⟨by simpa using h1, by simpa [occAt] using h2, fun j hj => ?_⟩
        cases j with
        | zero => exact Bool.eq_false_iff.2 (by unfold occAt; rw [List.drop_zero]; exact he)
        | succ j => simpa [occAt] using h3 j (by omega)
theorem replaceK_swap {old new : List UInt8} (ho : old ≠ []) : ∀ (k : Nat) (s : List UInt8), s.length ≤ k → replaceK old new (count s old) s = swapG old new s := by
  have hp : 0 < old.length := List.length_pos_iff.2 ho
  intro k
  induction k using Nat.strongRecOn with
  | ind k ih =>
    intro s hs
    by_cases hm : index s old = -1
    · rw [count_miss hm]
      show s = _
      have hno : ∀ j, j < s.length → old.isPrefixOf (s.drop j) = false := fun j hj => by
        cases hq : old.isPrefixOf (s.drop j) with
        | false => rfl
        | true =>
          have := (contains_iff s old).2 ⟨j, by omega, hq⟩
          unfold contains at this
          rw [decide_eq_true_eq] at this
          omega
      rw [swapG_skip ho s.length s (Nat.le_refl _) hno, List.take_length, List.drop_length, swapG_nil, List.append_nil]
    · have hge := index_ge s old
      obtain ⟨i, hi⟩ : ∃ i : Nat, index s old = i := ⟨(index s old).toNat, by omega⟩
      obtain ⟨h1, h2, h3⟩ := index_hit' hi
      have hroom := hasB_room (s := s) (p := old) (i := i) h2 h1
      rw [count_hit ho hi, Nat.add_comm 1, replaceK_hit _ _ _ _ i hi, swapG_skip ho i s h1 h3, swapG_hit ho h2, List.drop_drop, ih (s.drop (i + old.length)).length (by rw [List.length_drop]; omega) _ (Nat.le_refl _), List.append_assoc]
theorem replaceAll_swap {old new : List UInt8} (ho : old ≠ []) (s : List UInt8) : replaceAll s old new = swapG old new s := by
  unfold replaceAll replace
  by_cases h : old = new
  · subst h
    rw [if_pos (by simp), swapG_same ho s.length s (Nat.le_refl _)]
  · rw [if_neg (by simpa using h)]
    unfold replaceNum
    rw [if_pos (Or.inl (by decide)), replaceK_swap ho s.length s (Nat.le_refl _)]
end Go.Proofs.YtgjialbmlhbngaaGreatDoor

namespace Go.Proofs.YtgjialbmlhbngaaGreatDoor
open Go Go.RowKit Go.Kf Go.Sort
def IsN3 (s : List UInt8) (n : Nat) : Prop := n ≤ 999 ∧ s = Lib.decDigits n
def num3 (s : List UInt8) : Option Nat := (List.range 1000).find? (fun n => s == Lib.decDigits n)
theorem IsN3.one {s : List UInt8} {n m : Nat} (h : IsN3 s n) (h' : IsN3 s m) : n = m := dec_inj (by have := h.1; omega) (by have := h'.1; omega) (h.2.symm.trans h'.2)
theorem num3_is {s : List UInt8} {n : Nat} (h : IsN3 s n) : num3 s = some n := by
  cases hq : num3 s with
  | none =>
    have := List.find?_eq_none.1 hq n (List.mem_range.2 (by have := h.1; omega))
    exact absurd (beq_iff_eq.2 h.2) this
  | some m =>
    have h1 := List.find?_some hq
    have h2 := List.mem_range.1 (List.mem_of_find?_eq_some hq)
    have hm : IsN3 s m := ⟨by omega, by simpa using h1⟩
    rw [h.one hm]
theorem num3_of {s : List UInt8} {n : Nat} (hq : num3 s = some n) : IsN3 s n := by
  have h1 := List.find?_some hq
  have h2 := List.mem_range.1 (List.mem_of_find?_eq_some hq)
  exact ⟨by omega, by simpa using h1⟩
theorem num3_no {s : List UInt8} (h : num3 s = none) (n : Nat) : ¬ IsN3 s n := fun hn => by rw [num3_is hn] at h; cases h
theorem num3_len {s : List UInt8} {n : Nat} (h : IsN3 s n) : s.length ≤ 3 := by
  rw [h.2]
  exact digits_le 2 n (by have := h.1; omega)
theorem dec_le3 {n : Nat} (h : (Lib.decDigits n).length ≤ 3) : n ≤ 999 := by
  rw [Lib.decDigits_length] at h
  have := nDigits_lt 2 n h
  omega
theorem atoi_n3 (s : List UInt8) (n : Nat) (h : IsN3 s n) (w : World) : Calls Tryz.prog 276 #[str s] w fun e w' => e = .returned (.tuple #[.int .i64 n, .nilIface]) ∧ Below w.heap.size w w' := by
  have hl := num3_len h
  obtain ⟨h9, rfl⟩ := h
  refine (Tryz.strconv_Atoi_ok ⟨(Lib.decDigits n).toArray⟩ (by simp [ByteArray.size]; omega) n (atoiAll_dec (by omega)) w).mono ?_
  rintro e w' ⟨rfl, h⟩
  refine ⟨rfl, ?_⟩
  rcases h with rfl | ⟨t, rfl⟩
  · exact Below.refl _ _
  · exact Lib.bytesWorld_below w _ t
set_option maxHeartbeats 1000000 in
theorem digits_any (ds : List UInt8) (w : World) (hN : NErr w) (ht : Tab w) (hl : ds.length ≤ 100000) :
    Calls Tryz.prog 235 #[str ds] w fun e w' => e = .returned (.bool (num3 ds).isSome) ∧ Below w.heap.size w w' := by
  cases hq : num3 ds with
  | some n =>
    have hn := num3_of hq
    have h3 := num3_len hn
    have K1 := Hd (atoi_n3 ds n hn w)
    have h9 := hn.1
    have K2 : Hid (∀ w1, Tab w1 → Calls Tryz.prog 80 #[.int .i64 (n : Int)] w1 fun e w' => e = .returned (str ds) ∧ Below w1.heap.size w1 w') := Hd (fun w1 t1 => by
      refine (Tryz.strconv_Itoa (n : Int) (by omega) (by omega) w1 t1).mono ?_
      rintro e w' ⟨rfl, kk, os, hw2⟩
      refine ⟨?_, by rw [hw2]; exact Lib.below_grow _ w1 (Nat.le_refl _) kk os⟩
      have : Lib.itoa (n : Int) = Lib.decDigits n := by unfold Lib.itoa; rw [if_neg (by omega)]; rfl
      rw [this, hn.2])
    have HT := Hd ht
    have hz1 : (0 : Int) ≤ (n : Int) := by omega
    have hz3 : ((ds.length : Int) ≤ 3) = True := eq_true (by omega)
    clear hq hn hN ht
    go_enter Tryz.func235, Tryz.ntmps235
    go_wp2_with fail
    refine K1.out.mono ?_
    rintro e w1 ⟨rfl, hb1⟩
    have HB1 := Hd hb1
    clear hb1
    go_wp2_with fail
    refine (K2.out w1 (tab_below HT.out HB1.out (Nat.le_refl _))).mono ?_
    rintro e w2 ⟨rfl, hb2⟩
    have HB2 := Hd hb2
    clear hb2
    go_wp2
    go_ret
    exact ⟨rfl, HB1.out.trans (HB2.out.mono HB1.out.size)⟩
  | none =>
    have hno := num3_no hq
    have HNO := Hd hno
    have K1 := Hd (atoi_any ds w hN hl)
    have HT := Hd ht
    clear hno hN ht hq
    go_enter Tryz.func235, Tryz.ntmps235
    go_wp2_with fail
    refine K1.out.mono ?_
    rintro e w1 ⟨hb1, ⟨v, hv, rfl⟩ | ⟨-, z, t, p, rfl⟩⟩
    · have HB1 := Hd hb1
      have HV := Hd hv
      clear hb1 hv
      by_cases h4 : ds.length ≤ 3
      · by_cases h0 : 0 ≤ v
        · have hv9 : v ≤ 9223372036854775807 := by
            have hh := HV.out
            rw [Lib.atoiAll_short _ (by omega)] at hh
            cases hq : Lib.atoi ds with
            | none => rw [hq] at hh; cases hh
            | some u =>
              rw [hq] at hh
              obtain rfl : u = v := by injection hh
              exact atoi_small (by omega) hq
          have hne : (Lib.itoa v == ds) = false := by
            rw [beq_eq_false_iff_ne]
            intro e
            have : Lib.itoa v = Lib.decDigits v.toNat := by unfold Lib.itoa; rw [if_neg (by omega)]
            rw [this] at e
            exact HNO.out v.toNat ⟨dec_le3 (by rw [e]; exact h4), e.symm⟩
          have K2 := Hd (Tryz.strconv_Itoa v (by omega) hv9 w1 (tab_below HT.out HB1.out (Nat.le_refl _)))
          obtain ⟨dd, hdd⟩ : ∃ d, Lib.itoa v = d := ⟨_, rfl⟩
          rw [hdd] at K2 hne
          clear hdd
          have hlt0 : (0 ≤ v) = True := by simpa using h0
          have hlt4 : ((ds.length : Int) ≤ 3) = True := eq_true (by omega)
          go_wp2_with fail
          refine K2.out.mono ?_
          rintro e w2 ⟨rfl, kk, os, hw2⟩
          have HB2 : Hid (Below w1.heap.size w1 w2) := Hd (by rw [hw2]; exact Lib.below_grow _ w1 (Nat.le_refl _) kk os)
          clear hw2
          go_wp2
          go_ret
          exact ⟨rfl, HB1.out.trans (HB2.out.mono HB1.out.size)⟩
        · have hlt0 : (0 ≤ v) = False := by simpa using h0
          go_wp2
          go_ret
          exact ⟨rfl, HB1.out⟩
      · have hlt4 : ((ds.length : Int) ≤ 3) = False := by simp; omega
        by_cases h0 : 0 ≤ v
        · have hlt0 : (0 ≤ v) = True := by simpa using h0
          go_wp2
          go_ret
          exact ⟨rfl, HB1.out⟩
        · have hlt0 : (0 ≤ v) = False := by simpa using h0
          go_wp2
          go_ret
          exact ⟨rfl, HB1.out⟩
    · have HB1 := Hd hb1
      clear hb1
      go_wp2
      go_ret
      exact ⟨rfl, HB1.out⟩
def headB (n : Nat) (s : List UInt8) : List UInt8 := endedL ((linesB s).take n)
theorem lines_own (s : List UInt8) (w : World) (hm : Ml w) (hs : s.length ≤ 1000000) : Calls Tryz.prog 271 #[str s] w fun e w' =>
    ∃ c, e = .returned (.slice (some ⟨w.heap.size, 0, none⟩) (linesB s).length c) ∧ (linesB s).length ≤ c ∧ c ≤ 1000001 ∧ w'.ownsRow w.heap.size 9 1 (.slice (some ⟨w.heap.size, 0, none⟩) (linesB s).length c) (linesB s).length ((linesB s).map str) ∧ Below w.heap.size w w' := by
  have K := split_nl s w hm hs
  have hlb := spl_length_le 10 s
  obtain ⟨k, hk, t, ht, he⟩ := linesB_eq s
  rw [he]
  clear he
  generalize spl 10 s = l at *
  have hbw : Below w.heap.size w (w.alloc (.cells (l.map str).toArray 9)) := (Below.refl _ _).alloc (Nat.le_refl _) _
  have full : (w.alloc (.cells (l.map str).toArray 9)).ownsRow w.heap.size 9 1 (.slice (some ⟨w.heap.size, 0, none⟩) l.length l.length) l.length (l.map str) :=
    ⟨by simp, Or.inr ⟨w.heap.size, l.length, _, rfl, Nat.le_refl _, heap_alloc_here w _, Nat.le_refl _, by unfold maxLen; omega, by simp, by rw [Nat.mul_one]; exact List.take_of_length_le (by simp)⟩⟩
  have part := own_take full k (by omega)
  have hkk : (l.take k).length = k := by rw [List.length_take]; omega
  rw [← List.map_take] at part
  have hrd := ownsRow_reads full
  obtain ⟨b, o, hix, hc⟩ := hrd.at (P := Tryz.prog) Tryz.underlying33 (by kernel_rfl) k (by simp; omega)
  have hlk : l[k] = t := by
    rw [List.getElem?_eq_getElem (by omega)] at ht
    exact Option.some.inj ht
  simp only [List.getElem_map, hlk] at hc
  have FULL := Hd full
  have PART := Hd part
  have HB := Hd hbw
  rw [hk] at K hix FULL PART
  have K1 := Hd K
  have hw1 : IntKind.i64.wrap ((k : Int) + 1 - 1) = (k : Int) := by rw [show (k : Int) + 1 - 1 = (k : Int) by omega]; exact IntWalk.i64_in _ (by omega)
  have hw2 : IntKind.i64.wrap (k : Int) = (k : Int) := IntWalk.i64_in _ (by omega)
  obtain ⟨W1, hW1⟩ : ∃ W, w.alloc (.cells (l.map str).toArray 9) = W := ⟨_, rfl⟩
  rw [hW1] at K1 PART FULL HB hc
  clear K hrd hbw hm ht hlk hW1 full part
  by_cases h0 : t = []
  · have hd : (t == []) = true := by simpa using h0
    rw [if_pos h0, hkk]
    clear h0
    go_enter Tryz.func271, Tryz.ntmps271
    go_wp2_with fail
    refine K1.out.mono ?_
    rintro e w' ⟨rfl, rfl⟩
    go_wp2
    go_ret
    exact ⟨k + 1, rfl, by omega, by omega, PART.out, HB.out⟩
  · have hd : (t == []) = false := by simpa using h0
    rw [if_neg h0, hk]
    clear h0
    go_enter Tryz.func271, Tryz.ntmps271
    go_wp2_with fail
    refine K1.out.mono ?_
    rintro e w' ⟨rfl, rfl⟩
    go_wp2
    go_ret
    exact ⟨k + 1, rfl, by omega, by omega, FULL.out, HB.out⟩
theorem head_any (word s : List UInt8) (n : Nat) (v : Value) (w : World) (hr : Reads w v ([s].map str)) (hm : Ml w) (hn : IsN3 word n) (hl : s.length ≤ 10000) :
    Calls Tryz.prog 236 #[str word, v] w fun e w' => e = .returned (str (headB n s)) ∧ Below w.heap.size w w' := by
  have K1 := Hd (atoi_n3 word n hn w)
  have h9 := hn.1
  have hle := hr.le
  obtain ⟨a, cap, rfl, -, -⟩ := id hr
  simp only [List.length_map, List.length_cons, List.length_nil] at *
  obtain ⟨b, o, hix, hce⟩ := hr.at (P := Tryz.prog) Tryz.underlying33 (by kernel_rfl) 0 (by simp)
  have hce0 : w.cell? ⟨b, o, none⟩ = some (str s) := hce
  have hix0 : ∀ w', (Instr.indexAt 33 (.slice a 1 cap) (.int .i64 0)).run Tryz.prog w' = .ok (.pointer (some ⟨b, o, none⟩)) w' := hix
  have HCE := Hd hce0
  have HM := Hd hm
  have hll := linesB_len s
  have KL := Hd (fun w1 (h : Ml w1) => lines_own s w1 h (by omega))
  have KE : Hid (∀ (v1 : Value) (w1 : World), Reads w1 v1 (((linesB s).take n).map str) → Calls Tryz.prog 270 #[v1] w1 fun e w' => e = .returned (str (headB n s)) ∧ Below w1.heap.size w1 w') :=
    Hd (fun v1 w1 h1 => ended_any v1 _ w1 h1 (Nat.le_trans (endedL_take _ _) (Nat.le_trans (ended_lines s) (by omega))))
  clear hm hr hn hce hix hce0
  go_enter Tryz.func236, Tryz.ntmps236
  go_wp2_with fail
  refine K1.out.mono ?_
  rintro e w1 ⟨rfl, hb1⟩
  have HB1 := Hd hb1
  have hcc := (hb1.cell (p := ⟨b, o, none⟩) (lt_of_cell HCE.out)).trans HCE.out
  clear hb1
  go_wp2_with fail
  refine (KL.out w1 (HM.out.below HB1.out (Nat.le_refl _))).mono ?_
  rintro e w2 ⟨c2, rfl, hc2, hc3, hown, hb2⟩
  have HB2 := Hd (HB1.out.trans (hb2.mono HB1.out.size))
  have OWN := Hd hown
  clear hb2 hown
  obtain ⟨L, hL⟩ : ∃ L, linesB s = L := ⟨_, rfl⟩
  rw [hL] at OWN KE hll hc2 ⊢
  clear hL
  have hmin : (min (n : Int) (L.length : Int)).toNat = min n L.length := by omega
  have htk : L.take (min n L.length) = L.take n := by
    rcases Nat.le_total n L.length with h | h
    · rw [Nat.min_eq_left h]
    · rw [Nat.min_eq_right h, List.take_length, List.take_of_length_le h]
  have R0 := own_take OWN.out (min n L.length) (Nat.min_le_right _ _)
  rw [← List.map_take, htk] at R0
  have KE1 := Hd (KE.out _ w2 (ownsRow_reads R0))
  clear R0 htk
  go_wp2_with fail
  refine KE1.out.mono ?_
  rintro e w3 ⟨rfl, hb3⟩
  have HB3 := Hd (HB2.out.trans (hb3.mono HB2.out.size))
  clear hb3
  go_wp2
  go_ret
  exact ⟨rfl, HB3.out⟩
open Go.Proofs
def linesWith (word s : List UInt8) : List (List UInt8) := (linesB s).filter fun x => Lib.contains x word
theorem lines_fn (word x : List UInt8) (B : Nat) (W : World) (hm : Ml W) (hx : x.length ≤ 1000000) (hc : W.cell? ⟨B, 0, none⟩ = some (str word)) :
    Calls Tryz.prog 272 #[str x, .pointer (some ⟨B, 0, none⟩)] W fun e w' => e = .returned (.bool (!Lib.contains x word)) ∧ w' = W := by
  obtain ⟨m, hm⟩ := hm
  have K := Hd (Tryz.strings_Contains ⟨x.toArray⟩ ⟨word.toArray⟩ m W (by simp [ByteArray.size]; omega) hm)
  clear hm
  go_enter Tryz.func272, Tryz.ntmps272
  go_wp2_with fail
  refine K.out.mono ?_
  rintro e w' ⟨rfl, rfl⟩
  go_wp2
  go_ret
  exact ⟨rfl, rfl⟩
abbrev Short := {l : List UInt8 // l.length ≤ 1000000}
instance : Inhabited Short := ⟨⟨[], by decide⟩⟩
abbrev encS (x : Short) : Value := str x.1
theorem shorts : ∀ (L : List (List UInt8)), (∀ s ∈ L, s.length ≤ 1000000) → ∃ D : List Short, D.map (·.1) = L
  | [], _ => ⟨[], rfl⟩
  | s :: L, h => by
    obtain ⟨D, hD⟩ := shorts L (fun q hq => h q (List.mem_cons_of_mem _ hq))
    exact ⟨⟨s, h s List.mem_cons_self⟩ :: D, by rw [List.map_cons, hD]⟩
theorem putCells_short (off : Nat) (D : List Short) (c : Array Value) : putCells encS off D.toArray c = putCells encStr off (D.map (·.1)).toArray c := by
  unfold putCells
  congr 1
  funext k x
  simp only [List.size_toArray, List.length_map]
  split
  · rename_i h
    have hk : k - off < D.length := by omega
    rw [getElem!_pos _ _ (by simpa using hk), getElem!_pos _ _ (by simpa using hk)]
    simp
  · rfl
theorem putRow_short (w : World) (blk off : Nat) (D : List Short) : putRow encS w blk off D.toArray = putRow encStr w blk off (D.map (·.1)).toArray := by
  unfold putRow
  congr 1
  funext c
  exact putCells_short off D c
theorem holds_short {w : World} {blk off : Nat} {D : List Short} (h : Holds encStr w blk off (D.map (·.1)).toArray) : Holds encS w blk off D.toArray := fun j hj => by
  have hj' : j < D.length := by simpa using hj
  have := h j (by simpa using hj')
  rw [getElem!_pos _ _ (by simpa using hj')] at this
  rw [getElem!_pos _ _ (by simpa using hj')]
  simpa using this
set_option maxHeartbeats 1000000 in
theorem delete_any (word : List UInt8) (L : List (List UInt8)) (g c x : Nat) (w0 w : World) (hown : w.ownsRow w0.heap.size 9 1 (.slice (some ⟨g, 0, none⟩) L.length c) L.length (L.map str)) (hm : Ml w0) (hb : Below w0.heap.size w0 w)
    (hbox : w0.cell? ⟨x, 0, none⟩ = some (str word)) (hL : ∀ s ∈ L, s.length ≤ 1000000) (hn : L.length ≤ 1000001) :
    Calls Tryz.prog 222 #[.slice (some ⟨g, 0, none⟩) L.length c, .func (.func 272) #[] #[.pointer (some ⟨x, 0, none⟩)]] w fun e w' =>
      ∃ n', e = .returned (.slice (some ⟨g, 0, none⟩) n' c) ∧ w'.ownsRow w0.heap.size 9 1 (.slice (some ⟨g, 0, none⟩) n' c) n' ((L.filter fun s => Lib.contains s word).map str) ∧ w.grownBy w' (some g) := by
  obtain ⟨D, rfl⟩ := shorts L hL
  rcases hown.2 with ⟨h0, _⟩ | ⟨g', cap', cur, hv, hg, hh, hcn, hcap, hsz, htake⟩
  · cases h0
  cases hv
  have hmw := hm.below hb (Nat.le_refl _)
  have hx0 := lt_of_cell hbox
  simp only at hx0
  have hboxw := (hb.cell (p := ⟨x, 0, none⟩) hx0).trans hbox
  have hgw := lt_of_heap hh
  have other : ∀ (n : Nat) (os : Array Obj) (dk : Array Short) (p : Addr), p.block < w0.heap.size → (sortWorld encS w g 0 n dk os).cell? p = w.cell? p := fun n os dk p hp => by
    unfold sortWorld
    have hne : p.block ≠ g := by omega
    have hlt : p.block < w.heap.size := Nat.lt_of_lt_of_le hp hb.size
    rw [cell?_grow _ _ _ (by rw [size_putRow]; exact hlt), cell?_putRow_other _ _ g 0 _ _ (Or.inl hne)]
    rfl
  have HP : PredAt Tryz.prog 272 #[.pointer (some ⟨x, 0, none⟩)] encS (fun s => !Lib.contains s.1 word) w := fun W s hW => by
    refine (lines_fn word s.1 x W (hmw.below hW (Nat.le_refl _)) s.2 ((hW.cell (p := ⟨x, 0, none⟩) (Nat.lt_of_lt_of_le hx0 hb.size)).trans hboxw)).mono ?_
    rintro e w' ⟨rfl, rfl⟩
    exact ⟨rfl, 0, rfl⟩
  have HO : PredOver Tryz.prog 272 #[.pointer (some ⟨x, 0, none⟩)] encS (fun s => !Lib.contains s.1 word) g 0 D.toArray.size w := fun n os dk s _ => by
    obtain ⟨m, hm0⟩ := hm
    refine (lines_fn word s.1 x _ ⟨m, ?_⟩ s.2 ?_).mono ?_
    · rw [other n os dk _ (lt_of_cell hm0)]
      exact (hb.cell (lt_of_cell hm0)).trans hm0
    · rw [other n os dk _ hx0]
      exact hboxw
    · rintro e w' ⟨rfl, rfl⟩
      exact ⟨rfl, 0, rfl⟩
  have hH : Holds encStr w g 0 (D.map (·.1)).toArray := holds_of_block hh (by simpa using htake)
  have K := Tryz.slices_DeleteFunc encS (fun _ => rfl) (fun s => !Lib.contains s.1 word) 272 #[.pointer (some ⟨x, 0, none⟩)] (fun _ _ => rfl) ⟨[], by decide⟩ (fun _ => rfl) g 0 c D.toArray w HP HO (holds_short hH) (by simp at hn ⊢; omega) (by simp at hcn ⊢; omega)
  have eL : (D.map (·.1)).length = D.toArray.size := by simp
  rw [eL]
  refine K.mono ?_
  rintro e w' ⟨rfl, q, rfl⟩
  have ef : (D.toArray.toList.filter fun s => !(!Lib.contains s.1 word)) = D.filter fun s => Lib.contains s.1 word := by simp
  have em : (D.filter fun s => Lib.contains s.1 word).map (·.1) = (D.map (·.1)).filter fun s => Lib.contains s word := by
    rw [List.filter_map]
    rfl
  rw [ef]
  have hle : (D.filter fun s => Lib.contains s.1 word).length ≤ D.length := List.length_filter_le _ _
  have hlm := congrArg List.length em
  rw [List.length_map] at hlm
  have er : ((D.filter fun s => Lib.contains s.1 word) ++ List.replicate (D.toArray.size - (D.filter fun s => Lib.contains s.1 word).length) (⟨[], by decide⟩ : Short)).map (·.1) = ((D.map (·.1)).filter fun s => Lib.contains s word) ++ List.replicate (D.length - (D.filter fun s => Lib.contains s.1 word).length) [] := by
    rw [List.map_append, em, List.map_replicate]
    rfl
  obtain ⟨F, hF⟩ : ∃ F, ((D.map (·.1)).filter fun s => Lib.contains s word) = F := ⟨_, rfl⟩
  rw [hF] at er hlm ⊢
  obtain ⟨k, hk⟩ : ∃ k, (D.filter fun s => Lib.contains s.1 word).length = k := ⟨_, rfl⟩
  rw [hk] at hle hlm
  have el : (F ++ List.replicate (D.length - k) []).length = (D.map (·.1)).length := by
    rw [List.length_append, List.length_replicate, ← hlm, List.length_map]
    omega
  have e1 := ownsRow_sorted (n := q) (os := #[]) (ts := F ++ List.replicate (D.length - k) []) (ss := D.map (·.1)) el hg hh hcn hcap hsz
  have e2 := grownBy_sorted (w := w) (g := g) (n := q) (os := #[]) (F ++ List.replicate (D.length - k) []).toArray
  rw [grow_empty] at e1 e2
  have e3 := own_take e1 F.length (by rw [← hlm, List.length_map]; exact hle)
  rw [← List.map_take, List.take_left] at e3
  rw [hk] at er
  refine ⟨_, rfl, ?_, ?_⟩
  · rw [← hlm] at e3
    rw [putRow_short, hk, er]
    exact e3
  · rw [putRow_short, hk, er]
    exact e2
theorem klines_any (word s : List UInt8) (v : Value) (w : World) (hr : Reads w v ([s].map str)) (hm : Ml w) (hl : s.length ≤ 10000) :
    Calls Tryz.prog 229 #[str word, v] w fun e w' => e = .returned (str (endedL (linesWith word s))) ∧ Below w.heap.size w w' := by
  have hle := hr.le
  obtain ⟨a, cap, rfl, -, -⟩ := id hr
  simp only [List.length_map, List.length_cons, List.length_nil] at *
  obtain ⟨b, o, hix, hce⟩ := hr.at (P := Tryz.prog) Tryz.underlying33 (by kernel_rfl) 0 (by simp)
  have hce0 : w.cell? ⟨b, o, none⟩ = some (str s) := hce
  have hix0 : ∀ w', (Instr.indexAt 33 (.slice a 1 cap) (.int .i64 0)).run Tryz.prog w' = .ok (.pointer (some ⟨b, o, none⟩)) w' := hix
  obtain ⟨W0, hW0⟩ : ∃ W, w.alloc (.cells #[str word] 9) = W := ⟨_, rfl⟩
  have hA : Below w.heap.size w W0 := hW0 ▸ (Below.refl _ w).alloc (Nat.le_refl _) _
  have hbox : W0.cell? ⟨w.heap.size, 0, none⟩ = some (str word) := by rw [← hW0, cell_of_heap (heap_alloc_here w _)]; rfl
  have hcc := (hA.cell (p := ⟨b, o, none⟩) (lt_of_cell hce0)).trans hce0
  have hll := linesB_len s
  have hel := ended_lines s
  have hmL : ∀ x ∈ linesB s, x.length ≤ 1000000 := fun x hx => by
    have := endedL_mem hx
    omega
  have KL := Hd (lines_own s W0 (hm.below hA (Nat.le_refl _)) (by omega))
  have KD := Hd (fun (g c : Nat) (w1 : World) (h1 : w1.ownsRow W0.heap.size 9 1 (.slice (some ⟨g, 0, none⟩) (linesB s).length c) (linesB s).length ((linesB s).map str)) (h2 : Below W0.heap.size W0 w1) => delete_any word (linesB s) g c w.heap.size W0 w1 h1 (hm.below hA (Nat.le_refl _)) h2 hbox hmL (by omega))
  have hfe : (endedL (linesWith word s)).length ≤ (endedL (linesB s)).length := by
    unfold linesWith
    generalize linesB s = L
    induction L with
    | nil => exact Nat.le_refl _
    | cons x L ih =>
      rw [List.filter_cons]
      split
      · rw [endedL_cons, endedL_cons, List.length_append, List.length_append, List.length_cons, List.length_cons]
        omega
      · rw [endedL_cons, List.length_append, List.length_cons]
        omega
  have KE := Hd (fun (v1 : Value) (w1 : World) (h1 : Reads w1 v1 ((linesWith word s).map str)) => ended_any v1 (linesWith word s) w1 h1 (by omega))
  have HA := Hd hA
  clear hm hr hce hix hce0 hbox hmL hel hfe hA
  go_enter Tryz.func229, Tryz.ntmps229
  go_wp2_with fail
  refine KL.out.mono ?_
  rintro e w1 ⟨c1, rfl, hc1, hc2, ho1, hb1⟩
  have K1 := Hd (KD.out _ _ w1 ho1 hb1)
  have HB1 := Hd (HA.out.trans (hb1.mono HA.out.size))
  have HO1 := Hd ho1
  have hz1 := hb1.size
  have hz0 := HA.out.size
  clear ho1 hb1
  go_wp2_with fail
  refine K1.out.mono ?_
  rintro e w2 ⟨n2, rfl, ho2, hg2⟩
  have HB2 := Hd (HB1.out.grown hg2 (by omega) (fun k hk => by
    obtain rfl := Option.some.inj hk
    exact hz0))
  have K2 := Hd (KE.out _ w2 (ownsRow_reads ho2))
  clear ho2 hg2
  go_wp2_with fail
  refine K2.out.mono ?_
  rintro e w3 ⟨rfl, hb3⟩
  go_wp2
  go_ret
  exact ⟨rfl, HB2.out.trans (hb3.mono HB2.out.size)⟩
def pairB (s : List UInt8) : Bool := (s.count 61 == 1) && (s.head? != some 61)
theorem pair_any (s : List UInt8) (w : World) : Calls Tryz.prog 233 #[str s] w fun e w' => e = .returned (.bool (pairB s)) ∧ Below w.heap.size w w' := by
  have K : Calls Tryz.prog 275 #[str s, str [61]] w fun e w' => e = .returned (.int .i64 ((s.count 61 : Nat) : Int)) ∧ w' = w := Tryz.strings_Count_one ⟨s.toArray⟩ 61 w
  have K1 := Hd K
  clear K
  unfold pairB
  by_cases h1 : s.count 61 = 1
  · cases s with
    | nil => simp at h1
    | cons b t =>
      rw [h1] at K1 ⊢
      obtain ⟨s, hs⟩ : ∃ s, b :: t = s := ⟨_, rfl⟩
      have hidx : ∀ h, (⟨s.toArray⟩ : ByteArray)[0]'h = b := fun _ => by
        show s[0] = b
        simp [← hs]
      have hhd : s.head? = some b := by rw [← hs]; rfl
      have hpos : 0 < s.length := by rw [← hs]; simp
      rw [hs] at K1 ⊢
      rw [hhd]
      clear hs h1 hhd
      have hbb : ((b.toNat : Int) == 61) = (b == 61) := by rw [show (61 : Int) = ((61 : UInt8).toNat : Int) from rfl, Kf.u8_eq]
      by_cases h2 : b = 61
      · have hd : (b == 61) = true := by simpa using h2
        rw [hd] at hbb
        have hbn : ((b.toNat : Int) != 61) = (false : Bool) := by unfold bne; rw [hbb]; rfl
        have hv : (((1 : Nat) == 1) && ((some b : Option UInt8) != some 61)) = false := by rw [h2]; rfl
        rw [hv]
        clear h2 hd hv
        go_enter Tryz.func233, Tryz.ntmps233
        go_wp2_with fail
        refine K1.out.mono ?_
        rintro e w' ⟨rfl, rfl⟩
        go_wp2
        go_ret
        exact ⟨rfl, Below.refl _ _⟩
      · have hd : (b == 61) = false := by simpa using h2
        rw [hd] at hbb
        have hbn : ((b.toNat : Int) != 61) = (true : Bool) := by unfold bne; rw [hbb]; rfl
        have hv : (((1 : Nat) == 1) && ((some b : Option UInt8) != some 61)) = true := by simpa using h2
        rw [hv]
        clear h2 hd hv
        go_enter Tryz.func233, Tryz.ntmps233
        go_wp2_with fail
        refine K1.out.mono ?_
        rintro e w' ⟨rfl, rfl⟩
        go_wp2
        go_ret
        exact ⟨rfl, Below.refl _ _⟩
  · have hv : ((s.count 61 == 1) && (s.head? != some 61)) = false := by
      rw [show (s.count 61 == 1) = false by simpa using h1]
      rfl
    rw [hv]
    have hc : (((s.count 61 : Nat) : Int) == 1) = false := by
      rw [beq_eq_false_iff_ne]
      omega
    generalize s.count 61 = n at *
    clear hv
    go_enter Tryz.func233, Tryz.ntmps233
    go_wp2_with fail
    refine K1.out.mono ?_
    rintro e w' ⟨rfl, rfl⟩
    go_wp2
    go_ret
    exact ⟨rfl, Below.refl _ _⟩
theorem pair_split {s : List UInt8} (h : pairB s = true) : ∃ a r, s = a ++ 61 :: r ∧ a ≠ [] ∧ (61 : UInt8) ∉ a ∧ (61 : UInt8) ∉ r := by
  unfold pairB at h
  rw [Bool.and_eq_true, beq_iff_eq, bne_iff_ne] at h
  obtain ⟨h1, h2⟩ := h
  have hm : (61 : UInt8) ∈ s := List.count_pos_iff.1 (by omega)
  obtain ⟨a, r, rfl, hn⟩ := split_at hm
  refine ⟨a, r, rfl, ?_, hn, ?_⟩
  · rintro rfl
    exact h2 rfl
  · intro hr
    have := List.count_pos_iff.2 hr
    rw [List.count_append, List.count_cons_self] at h1
    omega
theorem kswap_any (a r s : List UInt8) (v : Value) (w : World) (hr : Reads w v ([s].map str)) (hm : Ml w) (ha : a ≠ []) (hna : (61 : UInt8) ∉ a) (hlw : (a ++ 61 :: r).length ≤ 100) (hl : s.length ≤ 10000) :
    Calls Tryz.prog 234 #[str (a ++ 61 :: r), v] w fun e w' => e = .returned (str (swapG a r s)) ∧ Below w.heap.size w w' := by
  have K1 := Hd (strcut_any a r 61 w hna (by omega) hm)
  have hle := hr.le
  obtain ⟨ad, cap, rfl, -, -⟩ := id hr
  simp only [List.length_map, List.length_cons, List.length_nil] at *
  obtain ⟨b, o, hix, hce⟩ := hr.at (P := Tryz.prog) Tryz.underlying33 (by kernel_rfl) 0 (by simp)
  have hce0 : w.cell? ⟨b, o, none⟩ = some (str s) := hce
  have hix0 : ∀ w', (Instr.indexAt 33 (.slice ad 1 cap) (.int .i64 0)).run Tryz.prog w' = .ok (.pointer (some ⟨b, o, none⟩)) w' := hix
  have HCE := Hd hce0
  have KR : Hid (∀ w1, Ml w1 → Calls Tryz.prog 246 #[str s, str a, str r] w1 fun e w' => e = .returned (str (swapG a r s)) ∧ Below w1.heap.size w1 w') := Hd (fun w1 h1 => by
    obtain ⟨m, h1⟩ := h1
    have ho : 1 ≤ (⟨a.toArray⟩ : ByteArray).size := by
      have : 0 < a.length := List.length_pos_iff.2 ha
      simp [ByteArray.size]; omega
    have hcl := Lib.count_le s a
    have hal : r.length ≤ 100 := by simp at hlw; omega
    have hmul : Lib.count s a * r.length ≤ 10001 * 100 := Nat.mul_le_mul (by omega) hal
    refine (Tryz.strings_ReplaceAll ⟨s.toArray⟩ ⟨a.toArray⟩ ⟨r.toArray⟩ m w1 (by simp [ByteArray.size]; omega) h1 ho (by simp [ByteArray.size, Lib.countB]; omega)).mono ?_
    rintro e w' ⟨rfl, hb⟩
    refine ⟨?_, hb⟩
    rw [show Lib.replaceAll (⟨s.toArray⟩ : ByteArray).data.toList (⟨a.toArray⟩ : ByteArray).data.toList (⟨r.toArray⟩ : ByteArray).data.toList = swapG a r s from replaceAll_swap ha s])
  have HM := Hd hm
  obtain ⟨word, hword⟩ : ∃ word, a ++ 61 :: r = word := ⟨_, rfl⟩
  rw [hword] at K1 ⊢
  clear hm hr hce hix hce0 hword hlw ha hna
  go_enter Tryz.func234, Tryz.ntmps234
  go_wp2_with fail
  refine K1.out.mono ?_
  rintro e w1 ⟨rfl, hb1⟩
  have HB1 := Hd hb1
  have hcc := (hb1.cell (p := ⟨b, o, none⟩) (lt_of_cell HCE.out)).trans HCE.out
  have KR1 := Hd (KR.out w1 (HM.out.below hb1 (Nat.le_refl _)))
  clear hb1
  go_wp2_with fail
  refine KR1.out.mono ?_
  rintro e w2 ⟨rfl, hb2⟩
  go_wp2
  go_ret
  exact ⟨rfl, HB1.out.trans (hb2.mono HB1.out.size)⟩
def upB (b : UInt8) : UInt8 := if 97 ≤ b.toNat ∧ b.toNat ≤ 122 then UInt8.ofNat (b.toNat - 32) else b
def URow (w : World) (g : Nat) (l : List UInt8) : Prop := ∃ cur lo hi, w.heap[g]? = some (.cells cur 5 (lo, hi)) ∧ l.length ≤ lo ∧ ∀ (j : Nat) b, l[j]? = some b → cur[j]? = some (.int .u8 (b.toNat : Int))
theorem URow.cell {w : World} {g : Nat} {l : List UInt8} (h : URow w g l) {j : Nat} {b : UInt8} (hj : l[j]? = some b) : w.cell? ⟨g, j, none⟩ = some (.int .u8 (b.toNat : Int)) := by
  obtain ⟨cur, lo, hi, hh, -, hc⟩ := h
  rw [cell_of_heap hh]
  exact hc j b hj
theorem URow.free {w : World} {g : Nat} {l : List UInt8} (h : URow w g l) {j : Nat} (hj : j < l.length) : w.frozen? ⟨g, j, none⟩ = false := by
  obtain ⟨cur, lo, hi, hh, hl, -⟩ := h
  have : ¬ lo ≤ j := by omega
  simp [World.frozen?, hh, this]
theorem URow.set {w : World} {g : Nat} {l : List UInt8} (h : URow w g l) (j : Nat) (b : UInt8) : URow (w.setCell ⟨g, j, none⟩ (.int .u8 (b.toNat : Int))) g (l.set j b) := by
  obtain ⟨cur, lo, hi, hh, hl, hc⟩ := h
  refine ⟨_, lo, hi, Kf.heap_setCell_same hh _, by rw [List.length_set]; exact hl, fun k x hk => ?_⟩
  rw [Array.getElem?_setIfInBounds]
  rw [List.getElem?_set] at hk
  by_cases hjk : j = k
  · rw [if_pos hjk] at hk ⊢
    by_cases hlt : j < l.length
    · rw [if_pos hlt] at hk
      obtain rfl := Option.some.inj hk
      have := hc j l[j] (List.getElem?_eq_getElem hlt)
      have hlc : j < cur.size := (Array.getElem?_eq_some_iff.1 this).1
      rw [if_pos hlc]
    · rw [if_neg hlt] at hk
      cases hk
  · rw [if_neg hjk] at hk ⊢
    exact hc k x hk
theorem bytes_row (s : List UInt8) (w : World) : ∃ cap W1, (convert 9 136 (str s)).run Tryz.prog w = .ok (.slice (some ⟨w.heap.size, 0, none⟩) s.length cap) W1 ∧ URow W1 w.heap.size s ∧ Below w.heap.size w W1 := by
  have h := run_bytes_of_string (P := Tryz.prog) w 9 136 5 ⟨s.toArray⟩ Tryz.underlying9 Tryz.underlying136 Tryz.underlying5
  have hsz : (⟨s.toArray⟩ : ByteArray).size = s.length := by simp [ByteArray.size]
  refine ⟨_, _, by rw [hsz] at h; exact h, ⟨_, _, _, heap_alloc_here w.drew _, ?_, fun j b hj => ?_⟩, (Below.refl _ w).drew.alloc (Nat.le_refl _) _⟩
  · unfold bytesRow
    simp
  · have hj' := (List.getElem?_eq_some_iff.1 hj).1
    rw [bytesRow_at _ _ _ (by simpa using hj')]
    have : s[j] = b := (List.getElem?_eq_some_iff.1 hj).2
    simp [this]
theorem idx_at {P : Program} {T E : TypeId} (hT : P.underlying T = some (.slice E)) (hE : (P.info? E).map (·.size) = some 1) (g n cap i : Nat) (hi : i < n) (w' : World) :
    (Instr.indexAt T (.slice (some ⟨g, 0, none⟩) n cap) (.int .i64 i)).run P w' = .ok (.pointer (some ⟨g, i, none⟩)) w' := by
  rw [run_indexAt_slice (h := by rw [elem_of hT]; exact hT), if_pos (by omega), elem_of hT, run_sizeOf' hE]
  by_cases h0 : i = 0
  · subst h0; simp [Result.andThen, Addr.add]
  · simp [Result.andThen, Addr.add, h0]
def upTo (s : List UInt8) (i : Nat) : List UInt8 := (s.take i).map upB ++ s.drop i
theorem upTo_len (s : List UInt8) (i : Nat) : (upTo s i).length = s.length := by
  unfold upTo
  rw [List.length_append, List.length_map, List.length_take, List.length_drop]
  omega
theorem upTo_at {s : List UInt8} {i : Nat} (h : i < s.length) : (upTo s i)[i]? = some s[i] := by
  unfold upTo
  have hl : ((s.take i).map upB).length = i := by rw [List.length_map, List.length_take]; omega
  rw [List.getElem?_append_right (by omega), hl, Nat.sub_self, List.drop_eq_getElem_cons h]
  rfl
theorem upTo_set {s : List UInt8} {i : Nat} (h : i < s.length) : (upTo s i).set i (upB s[i]) = upTo s (i + 1) := by
  unfold upTo
  have hl : ((s.take i).map upB).length = i := by rw [List.length_map, List.length_take]; omega
  rw [List.set_append_right _ _ (by omega), hl, Nat.sub_self, List.drop_eq_getElem_cons h, List.set_cons_zero, List.take_succ_eq_append_getElem h, List.map_append, List.append_assoc]
  rfl
theorem upTo_same {s : List UInt8} {i : Nat} (h : i < s.length) (he : upB s[i] = s[i]) : upTo s i = upTo s (i + 1) := by
  unfold upTo
  rw [List.drop_eq_getElem_cons h, List.take_succ_eq_append_getElem h, List.map_append, List.append_assoc]
  simp [he]
set_option maxHeartbeats 1000000 in
theorem upper_any (word s : List UInt8) (v : Value) (w : World) (hr : Reads w v ([s].map str)) (hl : s.length ≤ 10000) :
    Calls Tryz.prog 228 #[str word, v] w fun e w' => e = .returned (str (s.map upB)) ∧ Below w.heap.size w w' := by
  have hle := hr.le
  obtain ⟨a, cap, rfl, -, -⟩ := id hr
  simp only [List.length_map, List.length_cons, List.length_nil] at *
  obtain ⟨b, o, hix, hce⟩ := hr.at (P := Tryz.prog) Tryz.underlying33 (by kernel_rfl) 0 (by simp)
  have hce0 : w.cell? ⟨b, o, none⟩ = some (str s) := hce
  have hix0 : ∀ w', (Instr.indexAt 33 (.slice a 1 cap) (.int .i64 0)).run Tryz.prog w' = .ok (.pointer (some ⟨b, o, none⟩)) w' := hix
  obtain ⟨c1, W1, hconv, hrow, hb1⟩ := bytes_row s w
  have HROW := Hd hrow
  have HB1 := Hd hb1
  have hz1 := hb1.size
  clear hr hce hix hrow hb1
  go_enter Tryz.func228, Tryz.ntmps228
  go_wp2_with fail
  go_loopw [14] (fun iv wl => ∃ i : Nat, i ≤ s.length ∧ iv = .int .i64 i ∧ URow wl w.heap.size (upTo s i) ∧ Below w.heap.size w wl) (fun iv _ => s.length - (intOf iv).toNat)
  case atStart => exact ⟨0, by omega, rfl, by simpa [upTo] using HROW.out, HB1.out⟩
  case round =>
    obtain ⟨i, hi, rfl, hri, hbi⟩ := hrel
    have HRI := Hd hri
    have HBI := Hd hbi
    clear hri hbi
    by_cases hlt : i < s.length
    · have hlc : ((i : Int) < (s.length : Int)) = True := eq_true (by omega)
      have hc0 := HRI.out.cell (upTo_at hlt)
      have hf0 := HRI.out.free (j := i) (by rw [upTo_len]; exact hlt)
      have hix1 := idx_at (P := Tryz.prog) (T := 136) (E := 5) Tryz.underlying136 (by kernel_rfl) w.heap.size s.length c1 i hlt
      have hset := HRI.out.set i (upB s[i])
      rw [upTo_set hlt] at hset
      have HSET := Hd hset
      by_cases hup : 97 ≤ s[i].toNat ∧ s[i].toNat ≤ 122
      · have hu : (upB s[i]).toNat = s[i].toNat - 32 := by
          unfold upB
          rw [if_pos hup]
          simp only [UInt8.toNat_ofNat']
          omega
        clear hset
        rw [hu] at HSET
        generalize s[i].toNat = n at *
        have hc1 : ((97 : Int) ≤ (n : Int)) = True := eq_true (by omega)
        have hc2 : ((n : Int) ≤ 122) = True := eq_true (by omega)
        have hs1 : IntKind.u8.wrap ((n : Int) - 97) = (n : Int) - 97 := by
          simp [IntKind.wrap, IntKind.signed, IntKind.bits]
          omega
        have hs2 : IntKind.u8.wrap ((n : Int) - 97 + 65) = ((n - 32 : Nat) : Int) := by
          simp [IntKind.wrap, IntKind.signed, IntKind.bits]
          omega
        clear hu
        go_wp2
        go_roundw
        case rel => exact ⟨i + 1, by omega, by go_num, HSET.out, HBI.out.setCell (p := ⟨w.heap.size, i, none⟩) (Nat.le_refl _) _⟩
        case measure => simp [intOf]; omega
      · have hu : upB s[i] = s[i] := by
          unfold upB
          rw [if_neg hup]
        have HSM := Hd (upTo_same hlt hu)
        clear hset hu HSET
        generalize s[i].toNat = n at *
        by_cases h97 : 97 ≤ n
        · have hc1 : ((97 : Int) ≤ (n : Int)) = True := eq_true (by omega)
          have hc2 : ((n : Int) ≤ 122) = False := eq_false (by omega)
          go_wp2
          go_roundw
          case rel => exact ⟨i + 1, by omega, by go_num, by rw [← HSM.out]; exact HRI.out, HBI.out⟩
          case measure => simp [intOf]; omega
        · have hc1 : ((97 : Int) ≤ (n : Int)) = False := eq_false (by omega)
          go_wp2
          go_roundw
          case rel => exact ⟨i + 1, by omega, by go_num, by rw [← HSM.out]; exact HRI.out, HBI.out⟩
          case measure => simp [intOf]; omega
    · obtain rfl : i = s.length := by omega
      have hlc : ((s.length : Int) < (s.length : Int)) = False := eq_false (by omega)
      have hlm : (s.map upB).length = s.length := List.length_map _
      have hall : upTo s s.length = s.map upB := by simp [upTo]
      have hback := run_convert_bytes_back (P := Tryz.prog) wr 136 9 5 ⟨w.heap.size, 0, none⟩ c1 (s.map upB) Tryz.underlying136 Tryz.underlying5 Tryz.underlying9 (fun j hj => by
        have := HRI.out.cell (j := j) (b := (s.map upB)[j]) (by rw [hall]; exact List.getElem?_eq_getElem hj)
        by_cases h0 : j = 0
        · subst h0
          simpa [Addr.add] using this
        · simpa [Addr.add, h0] using this)
      rw [hlm] at hback
      have hback1 : (convert 136 9 (.slice (some ⟨w.heap.size, 0, none⟩) s.length c1)).run Tryz.prog wr = .ok (str (s.map upB)) wr := hback
      obtain ⟨u, hu⟩ : ∃ u, s.map upB = u := ⟨_, rfl⟩
      rw [hu] at hback1
      have HU := Hd hu
      clear hback hall hlm hu
      go_wp2
      go_ret
      rw [HU.out]
      exact ⟨rfl, HBI.out⟩
structure AErr (w : World) (S : Nat → Addr) : Prop where
  shape : w.cell? ⟨4, 0, none⟩ = some (errI (S 2))
  kind : w.cell? ⟨10, 0, none⟩ = some (errI (S 4))
  long : w.cell? ⟨11, 0, none⟩ = some (errI (S 9))
theorem AErr.below {B : Nat} {w w' : World} {S : Nat → Addr} (h : AErr w S) (hb : Below B w w') (hB : w.heap.size ≤ B) : AErr w' S :=
  have keep : ∀ {p : Addr} {v : Value}, w.cell? p = some v → w'.cell? p = some v := fun hc => (hb.cell (by have := lt_of_cell hc; omega)).trans hc
  ⟨keep h.shape, keep h.kind, keep h.long⟩
def errN (S : Nat → Addr) (c : Nat) : Value := if c = 0 then .nilIface else errI (S (c - 1))
def kwordB (f : Nat) (s : List UInt8) : Bool :=
  if f = 224 then true else if f = 227 then s == [] else if f = 230 then (s == [] || s == onceB) else if f = 233 then pairB s else (num3 s).isSome
def actErr (name word : List UInt8) (n : Nat) : Nat :=
  match mlook name kindsL with
  | none => 5
  | some k => if k.least ≤ (n : Int) ∧ (n : Int) ≤ k.most ∧ kwordB k.word word = true then (if 100 < word.length then 10 else 0) else 3
theorem empty_any (s : List UInt8) (w : World) : Calls Tryz.prog 227 #[str s] w fun e w' => e = .returned (.bool (s == [])) ∧ Below w.heap.size w w' := by
  obtain ⟨b, hb⟩ : ∃ b, (s == []) = b := ⟨_, rfl⟩
  rw [hb]
  go_enter Tryz.func227, Tryz.ntmps227
  go_wp2
  go_ret
  exact ⟨rfl, Below.refl _ _⟩
theorem sortw_any (s : List UInt8) (w : World) : Calls Tryz.prog 230 #[str s] w fun e w' => e = .returned (.bool (s == [] || s == onceB)) ∧ Below w.heap.size w w' := by
  cases h1 : (s == []) with
  | true =>
    rw [Bool.true_or]
    go_enter Tryz.func230, Tryz.ntmps230
    go_wp2
    go_ret
    exact ⟨rfl, Below.refl _ _⟩
  | false =>
    rw [Bool.false_or]
    obtain ⟨b, hb⟩ : ∃ b, (s == onceB) = b := ⟨_, rfl⟩
    rw [hb]
    have hb' : (s == [111, 110, 99, 101]) = b := hb
    clear hb
    go_enter Tryz.func230, Tryz.ntmps230
    go_wp2
    go_ret
    exact ⟨rfl, Below.refl _ _⟩
theorem mlook_mem {β : Type} {name : List UInt8} {k : β} : ∀ {l : List (List UInt8 × β)}, mlook name l = some k → (name, k) ∈ l
  | [], h => by cases h
  | p :: l, h => by
    unfold mlook at h
    split at h
    · rename_i he
      obtain rfl := Option.some.inj h
      rw [← he]
      exact List.mem_cons_self
    · exact List.mem_cons_of_mem _ (mlook_mem h)
theorem kinds_mem {name : List UInt8} {k : Kd} (h : mlook name kindsL = some k) : ∃ n, (n, k) ∈ kindsL := ⟨name, mlook_mem h⟩
theorem kind_word {name : List UInt8} {k : Kd} (h : mlook name kindsL = some k) (word : List UInt8) (w : World) (hN : NErr w) (ht : Tab w) (hl : word.length ≤ 100000) :
    Enters k.word ∧ WordIs w.heap.size w k.word word (kwordB k.word word) := by
  obtain ⟨n, hm⟩ := kinds_mem h
  have any : WordIs w.heap.size w 224 word (kwordB 224 word) := anything_word _ _ _
  have emp : WordIs w.heap.size w 227 word (kwordB 227 word) := fun w1 _ => empty_any word w1
  have srt : WordIs w.heap.size w 230 word (kwordB 230 word) := fun w1 _ => sortw_any word w1
  have par : WordIs w.heap.size w 233 word (kwordB 233 word) := fun w1 _ => pair_any word w1
  have dig : WordIs w.heap.size w 235 word (kwordB 235 word) := fun w1 hb => digits_any word w1 (hN.below hb (Nat.le_refl _)) (tab_below ht hb (Nat.le_refl _)) hl
  unfold kindsL at hm
  simp only [List.mem_cons, Prod.mk.injEq, List.not_mem_nil, or_false] at hm
  rcases hm with ⟨-, rfl⟩ | ⟨-, rfl⟩ | ⟨-, rfl⟩ | ⟨-, rfl⟩ | ⟨-, rfl⟩ | ⟨-, rfl⟩ | ⟨-, rfl⟩ | ⟨-, rfl⟩
  · exact ⟨fun _ _ => rfl, any⟩
  · exact ⟨fun _ _ => rfl, any⟩
  · exact ⟨fun _ _ => rfl, emp⟩
  · exact ⟨fun _ _ => rfl, any⟩
  · exact ⟨fun _ _ => rfl, srt⟩
  · exact ⟨fun _ _ => rfl, emp⟩
  · exact ⟨fun _ _ => rfl, par⟩
  · exact ⟨fun _ _ => rfl, dig⟩
theorem check_none (name word : List UInt8) (n : Nat) (w : World) (S : Nat → Addr) (hE : AErr w S) (hk : mlook name kindsL = none) :
    Calls Tryz.prog 165 #[str name, str word, .int .i64 (n : Int)] w fun e w' => e = .returned (errI (S 4)) ∧ Below w.heap.size w w' := by
  have K0 := Hd (kinds_any w)
  have HK := Hd hk
  have HE := Hd hE
  clear hk hE
  go_enter Tryz.func165, Tryz.ntmps165
  go_wp2_with fail
  refine K0.out.mono ?_
  rintro e w1 ⟨mb, rfl, hmb, hM, hb1⟩
  have hlk := MapIs.lookup kmapKey kmapUnd kzero hM name true
  rw [HK.out] at hlk
  simp only [if_true, Option.map_none, Option.getD_none, Option.isSome_none, kdZero] at hlk
  have hA : Below w.heap.size w (w1.alloc (.cells #[.int .i64 0, .int .i64 0, .nilFunc, .nilFunc] 240)) := hb1.alloc hb1.size _
  have hce := (HE.out.below hA (Nat.le_refl _)).kind
  have HA := Hd hA
  clear hM hb1 hA
  go_wp2
  go_ret
  exact ⟨rfl, HA.out⟩
theorem check_shape (name word : List UInt8) (n : Nat) (k : Kd) (w : World) (S : Nat → Addr) (hE : AErr w S) (hk : mlook name kindsL = some k) (h1 : (n : Int) < k.least ∨ (k.least ≤ (n : Int) ∧ k.most < (n : Int))) :
    Calls Tryz.prog 165 #[str name, str word, .int .i64 (n : Int)] w fun e w' => e = .returned (errI (S 2)) ∧ Below w.heap.size w w' := by
  have K0 := Hd (kinds_any w)
  have HK := Hd hk
  have HE := Hd hE
  obtain ⟨least, most, wf, rf⟩ := k
  simp only at h1
  have hcs : ((n : Int) < least) = True ∨ (((n : Int) < least) = False ∧ (most < (n : Int)) = True) := by
    rcases h1 with h | ⟨h, h'⟩
    · exact Or.inl (eq_true h)
    · exact Or.inr ⟨eq_false (by omega), eq_true h'⟩
  clear hk hE h1
  rcases hcs with hc1 | ⟨hc1, hc2⟩
  all_goals
    go_enter Tryz.func165, Tryz.ntmps165
    go_wp2_with fail
    refine K0.out.mono ?_
    rintro e w1 ⟨mb, rfl, hmb, hM, hb1⟩
    have hlk := MapIs.lookup kmapKey kmapUnd kzero hM name true
    rw [HK.out] at hlk
    simp only [if_true, Option.map_some, Option.getD_some, Option.isSome_some, kdV] at hlk
    have hA : Below w.heap.size w (w1.alloc (.cells #[.int .i64 least, .int .i64 most, .func (.func wf) #[] #[], .func (.func rf) #[] #[]] 240)) := hb1.alloc hb1.size _
    have hce := (HE.out.below hA (Nat.le_refl _)).shape
    have HA := Hd hA
    clear hM hb1 hA
    go_wp2
    go_ret
    exact ⟨rfl, HA.out⟩
theorem check_word (name word : List UInt8) (n : Nat) (k : Kd) (w : World) (S : Nat → Addr) (b : Bool) (hE : AErr w S) (hk : mlook name kindsL = some k) (h1 : k.least ≤ (n : Int)) (h2 : (n : Int) ≤ k.most) (hw : WordIs w.heap.size w k.word word b) (he : Enters k.word) (hb : b = true → 100 < word.length) :
    Calls Tryz.prog 165 #[str name, str word, .int .i64 (n : Int)] w fun e w' => e = .returned (errI (S (if b = true then 9 else 2))) ∧ Below w.heap.size w w' := by
  have K0 := Hd (kinds_any w)
  have HK := Hd hk
  have HW := Hd hw
  have HE := Hd hE
  obtain ⟨least, most, wf, rf⟩ := k
  have hen := he #[str word]
  simp only at hen
  clear he
  simp only at h1 h2
  have hc1 : ((n : Int) < least) = False := eq_false (by omega)
  have hc2 : (most < (n : Int)) = False := eq_false (by omega)
  clear hk hw hE
  cases b with
  | true =>
    rw [if_pos rfl]
    have hc3 : ((100 : Int) < (word.length : Int)) = True := eq_true (by have := hb rfl; omega)
    clear hb
    go_enter Tryz.func165, Tryz.ntmps165
    go_wp2_with fail
    refine K0.out.mono ?_
    rintro e w1 ⟨mb, rfl, hmb, hM, hb1⟩
    have hlk := MapIs.lookup kmapKey kmapUnd kzero hM name true
    rw [HK.out] at hlk
    simp only [if_true, Option.map_some, Option.getD_some, Option.isSome_some, kdV] at hlk
    have hA : Below w.heap.size w (w1.alloc (.cells #[.int .i64 least, .int .i64 most, .func (.func wf) #[] #[], .func (.func rf) #[] #[]] 240)) := hb1.alloc hb1.size _
    have HA := Hd hA
    have K1 := Hd (HW.out _ hA)
    clear hM hb1 hA
    go_wp2_with fail
    refine K1.out.mono ?_
    rintro e w2 ⟨rfl, hb2⟩
    have HB2 := Hd (HA.out.trans (hb2.mono HA.out.size))
    have hce := (HE.out.below HB2.out (Nat.le_refl _)).long
    clear hb2
    go_wp2
    go_ret
    exact ⟨rfl, HB2.out⟩
  | false =>
    rw [if_neg (by decide)]
    clear hb
    go_enter Tryz.func165, Tryz.ntmps165
    go_wp2_with fail
    refine K0.out.mono ?_
    rintro e w1 ⟨mb, rfl, hmb, hM, hb1⟩
    have hlk := MapIs.lookup kmapKey kmapUnd kzero hM name true
    rw [HK.out] at hlk
    simp only [if_true, Option.map_some, Option.getD_some, Option.isSome_some, kdV] at hlk
    have hA : Below w.heap.size w (w1.alloc (.cells #[.int .i64 least, .int .i64 most, .func (.func wf) #[] #[], .func (.func rf) #[] #[]] 240)) := hb1.alloc hb1.size _
    have HA := Hd hA
    have K1 := Hd (HW.out _ hA)
    clear hM hb1 hA
    go_wp2_with fail
    refine K1.out.mono ?_
    rintro e w2 ⟨rfl, hb2⟩
    have HB2 := Hd (HA.out.trans (hb2.mono HA.out.size))
    have hce := (HE.out.below HB2.out (Nat.le_refl _)).shape
    clear hb2
    go_wp2
    go_ret
    exact ⟨rfl, HB2.out⟩
theorem acheck_any (name word : List UInt8) (n : Nat) (w : World) (S : Nat → Addr) (hE : AErr w S) (hN : NErr w) (ht : Tab w) (hl : word.length ≤ 100000) :
    Calls Tryz.prog 165 #[str name, str word, .int .i64 (n : Int)] w fun e w' => e = .returned (errN S (actErr name word n)) ∧ Below w.heap.size w w' := by
  unfold actErr
  cases hk : mlook name kindsL with
  | none => exact check_none name word n w S hE hk
  | some k =>
    obtain ⟨he, hw⟩ := kind_word hk word w hN ht hl
    simp only
    by_cases h1 : k.least ≤ (n : Int)
    · by_cases h2 : (n : Int) ≤ k.most
      · cases hb : kwordB k.word word with
        | true =>
          rw [if_pos ⟨h1, h2, rfl⟩]
          rw [hb] at hw
          by_cases h3 : 100 < word.length
          · rw [if_pos h3]
            exact check_word name word n k w S true hE hk h1 h2 hw he (fun _ => h3)
          · rw [if_neg h3]
            exact check_ok name word n k w hk h1 h2 hw (by omega) he
        | false =>
          rw [if_neg (fun h => by cases h.2.2)]
          rw [hb] at hw
          exact check_word name word n k w S false hE hk h1 h2 hw he (fun h => by cases h)
      · rw [if_neg (fun h => h2 h.2.1)]
        exact check_shape name word n k w S hE hk (Or.inr ⟨h1, by omega⟩)
    · rw [if_neg (fun h => h1 h.1)]
      exact check_shape name word n k w S hE hk (Or.inl (by omega))
def Roomy (v : Value) : Prop := ∀ a n c, v = .slice a n c → n ≤ c
def runB (f : Nat) (word : List UInt8) (ins : List (List UInt8)) : List UInt8 :=
  if f = 225 then word
  else if f = 226 then Lib.join ins word
  else if f = 228 then (ins.headD []).map upB
  else if f = 229 then endedL (linesWith word (ins.headD []))
  else if f = 231 then endedL (sortedC word (allB ins))
  else if f = 232 then countB ins
  else if f = 234 then swapG (Lib.cut word [61]).1 (Lib.cut word [61]).2.1 (ins.headD [])
  else headB ((num3 word).getD 0) (ins.headD [])
def actOf (name word : List UInt8) (ins : List (List UInt8)) : Nat × List UInt8 :=
  if actErr name word ins.length = 0 then
    match mlook name kindsL with
    | none => (0, [])
    | some k => if 2000 < (runB k.run word ins).length then (10, []) else (0, runB k.run word ins)
  else (actErr name word ins.length, [])
theorem joinTop (sep : List UInt8) : ∀ {ins : List (List UInt8)}, (∀ s ∈ ins, s.length ≤ 10000) → (Lib.join ins sep).length ≤ (10000 + sep.length) * ins.length
  | [], _ => by simp [Lib.join]
  | [s], h => by
    have := h s List.mem_cons_self
    simp [Lib.join]
    omega
  | s :: t :: r, h => by
    have h1 := h s List.mem_cons_self
    have ih := joinTop sep (ins := t :: r) (fun q hq => h q (List.mem_cons_of_mem _ hq))
    have e : Lib.join (s :: t :: r) sep = s ++ (sep ++ Lib.join (t :: r) sep) := by simp [Lib.join]
    rw [e, List.length_append, List.length_append, List.length_cons, Nat.mul_succ]
    omega
theorem kwrite_any (word : List UInt8) (v : Value) (w : World) : Calls Tryz.prog 225 #[str word, v] w fun e w' => e = .returned (str word) ∧ Below w.heap.size w w' := by
  go_enter Tryz.func225, Tryz.ntmps225
  go_wp2
  go_ret
  exact ⟨rfl, Below.refl _ _⟩
theorem kjoin_all (word : List UInt8) (v : Value) (ins : List (List UInt8)) (w : World) (hr : Reads w v (ins.map str)) (hcap : Roomy v) (h1 : 1 ≤ ins.length) (h8 : ins.length ≤ 8) (hl : word.length ≤ 100) (hx : ∀ s ∈ ins, s.length ≤ 10000) :
    Calls Tryz.prog 226 #[str word, v] w fun e w' => e = .returned (str (Lib.join ins word)) ∧ Below w.heap.size w w' := by
  obtain ⟨a, cap, rfl, hle, hc⟩ := hr
  simp only [List.length_map] at *
  obtain ⟨b, o, rfl, hc0⟩ := hc 0 (str ins[0]) (by simp)
  have hj := joinTop word hx
  have hm : (10000 + word.length) * ins.length ≤ 10100 * 8 := Nat.mul_le_mul (by omega) h8
  refine kjoin_any word b o ins.length cap ins w rfl (fun j s hs => ?_) (lt_of_cell hc0) (hcap _ _ _ rfl) (by omega) (by omega)
  obtain ⟨b', o', e, hcj⟩ := hc j (str s) (by rw [List.getElem?_map, hs]; rfl)
  cases e
  exact hcj
theorem kind_run {name : List UInt8} {k : Kd} (h : mlook name kindsL = some k) (word : List UInt8) (v : Value) (ins : List (List UInt8)) (w : World) (hr : Reads w v (ins.map str)) (hcap : Roomy v) (hm : Ml w) (ht : Tab w)
    (h1 : k.least ≤ (ins.length : Int)) (h2 : (ins.length : Int) ≤ k.most) (hw : kwordB k.word word = true) (hl : word.length ≤ 100) (hx : ∀ s ∈ ins, s.length ≤ 10000) :
    Enters k.run ∧ Calls Tryz.prog k.run #[str word, v] w fun e w' => e = .returned (str (runB k.run word ins)) ∧ Below w.heap.size w w' := by
  obtain ⟨n, hmem⟩ := kinds_mem h
  unfold kindsL at hmem
  simp only [List.mem_cons, Prod.mk.injEq, List.not_mem_nil, or_false] at hmem
  have one : (1 : Int) ≤ (ins.length : Int) → (ins.length : Int) ≤ 1 → ∃ s, ins = [s] := fun a b => List.length_eq_one_iff.1 (by omega)
  rcases hmem with ⟨-, rfl⟩ | ⟨-, rfl⟩ | ⟨-, rfl⟩ | ⟨-, rfl⟩ | ⟨-, rfl⟩ | ⟨-, rfl⟩ | ⟨-, rfl⟩ | ⟨-, rfl⟩
  · exact ⟨fun _ _ => rfl, kwrite_any word v w⟩
  · exact ⟨fun _ _ => rfl, kjoin_all word v ins w hr hcap (by simp only at h1; omega) (by simp only at h2; omega) hl hx⟩
  · obtain ⟨s, rfl⟩ := one h1 h2
    exact ⟨fun _ _ => rfl, upper_any word s v w hr (hx s List.mem_cons_self)⟩
  · obtain ⟨s, rfl⟩ := one h1 h2
    exact ⟨fun _ _ => rfl, klines_any word s v w hr hm (hx s List.mem_cons_self)⟩
  · simp only at h1 h2
    have hsum : (endedL (allB ins)).length ≤ 1000000 := by
      have h3 := ended_all ins
      have h4 : ∀ {l : List (List UInt8)}, (∀ s ∈ l, s.length ≤ 10000) → (l.map fun s => s.length + 1).sum ≤ 10001 * l.length := by
        intro l
        induction l with
        | nil => intro _; simp
        | cons s l ih =>
          intro hq
          have a1 := hq s List.mem_cons_self
          have a2 := ih (fun q hq' => hq q (List.mem_cons_of_mem _ hq'))
          simp only [List.map_cons, List.sum_cons, List.length_cons]
          omega
      have h5 := h4 hx
      omega
    exact ⟨fun _ _ => rfl, sorted_any word v ins w hr hm (by omega) hx hsum⟩
  · simp only at h1 h2
    exact ⟨fun _ _ => rfl, count_any word v ins w hr hm ht (by omega) hx⟩
  · obtain ⟨s, rfl⟩ := one h1 h2
    have hp : pairB word = true := hw
    obtain ⟨a, r, rfl, ha, hna, -⟩ := pair_split hp
    refine ⟨fun _ _ => rfl, ?_⟩
    have e : runB 234 (a ++ 61 :: r) [s] = swapG a r s := by
      show swapG (Lib.cut (a ++ 61 :: r) [61]).1 (Lib.cut (a ++ 61 :: r) [61]).2.1 s = _
      rw [cut_at hna]
    show Calls Tryz.prog 234 _ _ (fun e w' => e = .returned (str (runB 234 (a ++ 61 :: r) [s])) ∧ _)
    rw [e]
    exact kswap_any a r s v w hr hm ha hna hl (hx s List.mem_cons_self)
  · obtain ⟨s, rfl⟩ := one h1 h2
    have hp : (num3 word).isSome = true := hw
    obtain ⟨n, hn⟩ := Option.isSome_iff_exists.1 hp
    refine ⟨fun _ _ => rfl, ?_⟩
    have e : runB 236 word [s] = headB n s := by
      show headB ((num3 word).getD 0) s = _
      rw [hn]
      rfl
    show Calls Tryz.prog 236 _ _ (fun e w' => e = .returned (str (runB 236 word [s])) ∧ _)
    rw [e]
    exact head_any word s n v w hr hm (num3_of hn) (hx s List.mem_cons_self)
theorem run_bad (name word : List UInt8) (v : Value) (ins : List (List UInt8)) (c : Nat) (w : World) (S : Nat → Addr) (hr : Reads w v (ins.map str)) (hE : AErr w S) (hN : NErr w) (ht : Tab w) (hl : word.length ≤ 100000) (hc : actErr name word ins.length = c + 1) :
    Calls Tryz.prog 97 #[str name, str word, v] w fun e w' => e = .returned (.tuple #[str [], errI (S c)]) ∧ Below w.heap.size w w' := by
  have K0 := acheck_any name word ins.length w S hE hN ht hl
  rw [hc] at K0
  have K1 : Hid (Calls Tryz.prog 165 #[str name, str word, .int .i64 (ins.length : Int)] w fun e w' => e = .returned (errI (S c)) ∧ Below w.heap.size w w') := Hd K0
  obtain ⟨a, cap, rfl, -, -⟩ := id hr
  simp only [List.length_map] at *
  clear hr hE hN ht K0 hc
  go_enter Tryz.func97, Tryz.ntmps97
  go_wp2_with fail
  refine K1.out.mono ?_
  rintro e w1 ⟨rfl, hb1⟩
  have HB1 := Hd hb1
  clear hb1
  go_wp2
  go_ret2
  exact ⟨rfl, HB1.out⟩
theorem run_long (name word out : List UInt8) (v : Value) (ins : List (List UInt8)) (k : Kd) (w : World) (S : Nat → Addr) (hE : AErr w S) (hr : Reads w v (ins.map str)) (hk : mlook name kindsL = some k) (h1 : k.least ≤ (ins.length : Int)) (h2 : (ins.length : Int) ≤ k.most) (hw : WordIs w.heap.size w k.word word true) (hl : word.length ≤ 100) (he : Enters k.word) (he2 : Enters k.run)
    (hrun : ∀ w1, Below w.heap.size w w1 → Calls Tryz.prog k.run #[str word, v] w1 fun e w' => e = .returned (str out) ∧ Below w1.heap.size w1 w') (ho : 2000 < out.length) :
    Calls Tryz.prog 97 #[str name, str word, v] w fun e w' => e = .returned (.tuple #[str [], errI (S 9)]) ∧ Below w.heap.size w w' := by
  have K0 := Hd (check_ok name word ins.length k w hk h1 h2 hw hl he)
  have HK := Hd hk
  have HR := Hd hrun
  have HE := Hd hE
  obtain ⟨a, cap, rfl, -, -⟩ := id hr
  have hle := hr.le
  simp only [List.length_map] at *
  obtain ⟨least, most, wf, rf⟩ := k
  have hc : ((2000 : Int) < (out.length : Int)) = True := eq_true (by omega)
  have hen := he2 #[str word, .slice a ins.length cap]
  simp only at hen
  clear he he2
  clear hk hw hr hrun h1 h2 hE
  go_enter Tryz.func97, Tryz.ntmps97
  go_wp2_with fail
  refine K0.out.mono ?_
  rintro e w1 ⟨rfl, hb1⟩
  have HB1 := Hd hb1
  clear hb1
  go_wp2_with fail
  refine (kinds_any w1).mono ?_
  rintro e w2 ⟨mb, rfl, hmb, hM, hb2⟩
  have hlk := MapIs.lookup kmapKey kmapUnd kzero hM name false
  rw [HK.out] at hlk
  simp only [Bool.false_eq_true, if_false, Option.map_some, Option.getD_some, kdV] at hlk
  have HB2 := Hd (HB1.out.trans (hb2.mono HB1.out.size))
  have K1 := Hd (HR.out w2 HB2.out)
  have hfd := run_kind least most wf rf w2
  clear hM hb2
  go_wp2_with fail
  go_wp2_with fail
  refine K1.out.mono ?_
  rintro e w3 ⟨rfl, hb3⟩
  have HB3 := Hd (HB2.out.trans (hb3.mono HB2.out.size))
  have hce := (HE.out.below HB3.out (Nat.le_refl _)).long
  clear hb3
  go_wp2_with fail
  go_quiet (fail)
  go_wp2
  go_ret2
  exact ⟨rfl, by first | exact HB3.out | exact below_drewN HB3.out _⟩
theorem arun_any (name word : List UInt8) (v : Value) (ins : List (List UInt8)) (w : World) (S : Nat → Addr) (hr : Reads w v (ins.map str)) (hcap : Roomy v) (hm : Ml w) (hE : AErr w S) (hN : NErr w) (ht : Tab w) (hl : word.length ≤ 100000) (hx : ∀ s ∈ ins, s.length ≤ 10000) :
    Calls Tryz.prog 97 #[str name, str word, v] w fun e w' => e = .returned (.tuple #[str (actOf name word ins).2, errN S (actOf name word ins).1]) ∧ Below w.heap.size w w' := by
  unfold actOf
  cases hc : actErr name word ins.length with
  | succ c =>
    rw [if_neg (by omega)]
    exact run_bad name word v ins c w S hr hE hN ht hl hc
  | zero =>
    rw [if_pos rfl]
    unfold actErr at hc
    cases hk : mlook name kindsL with
    | none => rw [hk] at hc; cases hc
    | some k =>
      rw [hk] at hc
      simp only at hc
      split at hc
      · rename_i hcond
        obtain ⟨h1, h2, hw⟩ := hcond
        split at hc
        · cases hc
        · rename_i h100
          obtain ⟨he, hword⟩ := kind_word hk word w hN ht hl
          rw [hw] at hword
          have hrun := fun w1 (hb : Below w.heap.size w w1) => (kind_run hk word v ins w1 (hr.below0 hb) hcap (hm.below hb (Nat.le_refl _)) (tab_below ht hb (Nat.le_refl _)) h1 h2 hw (by omega) hx).2
          have hen := (kind_run hk word v ins w hr hcap hm ht h1 h2 hw (by omega) hx).1
          simp only
          by_cases ho : 2000 < (runB k.run word ins).length
          · rw [if_pos ho]
            exact run_long name word (runB k.run word ins) v ins k w S hE hr hk h1 h2 hword (by omega) he hen hrun ho
          · rw [if_neg ho]
            exact run_ok name word (runB k.run word ins) v ins k w hr hk h1 h2 hword (by omega) he hen hrun (by omega)
      · cases hc
end Go.Proofs.YtgjialbmlhbngaaGreatDoor
