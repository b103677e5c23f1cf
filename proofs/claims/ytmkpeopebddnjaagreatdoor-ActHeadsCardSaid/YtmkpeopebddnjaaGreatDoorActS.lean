/-
  Package act: what the kinds sort, count and join do; the reference's LinesOf.
-/
import Derived.Test.YtmkpeopebddnjaaGreatDoorActK
import Derived.Test.YtmkpeopebddnjaaGreatDoorKeyW
namespace Go.Proofs.YtmkpeopebddnjaaGreatDoor
open Go Go.RowKit Go.Kf Go.Sort

theorem digits_le6 : ∀ (n : Nat), n ≤ 1000000 → (Lib.decDigits n).length ≤ 8 := by
  have h : ∀ (k n : Nat), n < 10 ^ (k + 1) → Lib.nDigits n ≤ k + 1 := by
    intro k
    induction k with
    | zero => intro n h; rw [Lib.nDigits]; split <;> omega
    | succ k ih =>
      intro n h
      rw [Lib.nDigits]
      split
      · omega
      · have := ih (n / 10) (by rw [Nat.pow_succ] at h; omega)
        omega
  intro n hn
  rw [Lib.decDigits_length]
  exact h 7 n (by omega)
theorem endedL_len (l : List (List UInt8)) : (endedL l).length = (l.map fun s => s.length + 1).sum := by
  induction l with
  | nil => rfl
  | cons s l ih =>
    rw [endedL_cons, List.length_append, List.length_cons, ih, List.map_cons, List.sum_cons]
    omega
theorem endedL_perm {l l' : List (List UInt8)} (h : l.Perm l') : (endedL l).length = (endedL l').length := by
  rw [endedL_len, endedL_len]
  exact (h.map _).sum_nat
theorem sortB_perm (l : List (List UInt8)) : (sortB l).Perm l := List.mergeSort_perm _ _
theorem compact_upto (zs : List (List UInt8)) : ∀ m, m ≤ zs.length → (endedL (Lib.compactUpTo zs.toArray m)).length ≤ (endedL (zs.take m)).length
  | 0, _ => by simp [Lib.compactUpTo, endedL]
  | m + 1, h => by
    have ih := compact_upto zs m (by omega)
    have hm : m < zs.length := by omega
    rw [Lib.compactUpTo_succ, List.take_succ_eq_append_getElem hm, endedL_snoc]
    have e : zs.toArray[m]! = zs[m] := by simp [hm]
    split
    · rw [e, endedL_snoc]
      simp only [List.length_append]
      omega
    · rw [List.append_nil]
      simp only [List.length_append]
      omega
theorem compact_len (zs : List (List UInt8)) : (endedL (Lib.compact zs)).length ≤ (endedL zs).length := by
  have := compact_upto zs zs.length (Nat.le_refl _)
  rw [List.take_length] at this
  exact this
theorem compact_mem {zs : List (List UInt8)} {s : List UInt8} (h : s ∈ Lib.compact zs) : s ∈ zs := by
  unfold Lib.compact Lib.compactUpTo at h
  obtain ⟨j, hj, rfl⟩ := List.mem_map.1 h
  have hj2 := List.mem_range.1 (List.mem_filter.1 hj).1
  have e : zs.toArray[j]! = zs[j] := by simp [hj2]
  rw [e]
  exact List.getElem_mem hj2

abbrev onceB : List UInt8 := [111, 110, 99, 101]
def sortedC (word : List UInt8) (l : List (List UInt8)) : List (List UInt8) := if word = onceB then Lib.compact (sortB l) else sortB l
theorem sortedC_len (word : List UInt8) (l : List (List UInt8)) : (endedL (sortedC word l)).length ≤ (endedL l).length := by
  unfold sortedC
  split
  · exact Nat.le_trans (compact_len _) (Nat.le_of_eq (endedL_perm (sortB_perm l)))
  · exact Nat.le_of_eq (endedL_perm (sortB_perm l))

set_option maxRecDepth 100000 in
theorem sorted_any (word : List UInt8) (v : Value) (ins : List (List UInt8)) (w : World) (hr : Reads w v (ins.map str)) (hm : Ml w) (hn : ins.length ≤ 100) (hx : ∀ s ∈ ins, s.length ≤ 10000) (hl : (endedL (allB ins)).length ≤ 1000000) :
    Calls Tryz.prog 76 #[str word, v] w fun e w' => e = .returned (str (endedL (sortedC word (allB ins)))) ∧ Below w.heap.size w w' := by
  have K0 := Lib.hid (all_any v ins w hr hm hn hx)
  have hal := endedL_count (allB ins)
  have hsl : (sortB (allB ins)).length = (allB ins).length := (sortB_perm _).length_eq
  have HLS : Hid ((endedL (sortB (allB ins))).length ≤ 1000000) := Lib.hid (by rw [endedL_perm (sortB_perm _)]; exact hl)
  have HLC : Hid ((endedL (Lib.compact (sortB (allB ins)))).length ≤ 1000000) := Lib.hid (Nat.le_trans (compact_len _) HLS.out)
  unfold sortedC
  generalize allB ins = L at *
  clear hr hm hx
  by_cases ho : word = onceB
  · rw [if_pos ho]
    have hd : (word == [111, 110, 99, 101]) = true := by simpa using ho
    clear ho
    go_enter Tryz.func76, Tryz.ntmps76
    go_wp2_with fail
    refine K0.out.mono ?_
    rintro e w1 ⟨v1, rfl, ho1, hb1⟩
    have HO1 := Lib.hid ho1
    have HB1 := Lib.hid hb1
    have hz1 := hb1.size
    clear ho1 hb1
    go_wp2_with fail
    refine (sort_any v1 L w.heap.size w1 HO1.out (by omega)).mono ?_
    rintro e w2 ⟨rfl, ho2, hg2⟩
    have HO2 := Lib.hid ho2
    have HB2 := Lib.hid (HB1.out.grown hg2 hz1 (fun k hk => owned_from HO1.out hk))
    have hz2 := HB2.out.size
    clear ho2 hg2
    go_wp2_with fail
    refine (compact_any v1 (sortB L) w.heap.size w2 HO2.out (by omega)).mono ?_
    rintro e w3 ⟨v3, rfl, ho3, hg3⟩
    have HO3 := Lib.hid ho3
    have HB3 := Lib.hid (HB2.out.grown hg3 hz2 (fun k hk => owned_from HO2.out hk))
    have hz3 := HB3.out.size
    have K3 := Lib.hid (ended_any v3 _ w3 (ownsRow_reads ho3) HLC.out)
    clear ho3 hg3
    go_wp2_with fail
    refine K3.out.mono ?_
    rintro e w4 ⟨rfl, hb4⟩
    have HB4 := Lib.hid (HB3.out.trans (hb4.mono hz3))
    clear hb4
    go_wp2
    go_ret
    exact ⟨rfl, HB4.out⟩
  · rw [if_neg ho]
    have hd : (word == [111, 110, 99, 101]) = false := by simpa using ho
    clear ho
    go_enter Tryz.func76, Tryz.ntmps76
    go_wp2_with fail
    refine K0.out.mono ?_
    rintro e w1 ⟨v1, rfl, ho1, hb1⟩
    have HO1 := Lib.hid ho1
    have HB1 := Lib.hid hb1
    have hz1 := hb1.size
    clear ho1 hb1
    go_wp2_with fail
    refine (sort_any v1 L w.heap.size w1 HO1.out (by omega)).mono ?_
    rintro e w2 ⟨rfl, ho2, hg2⟩
    have HB2 := Lib.hid (HB1.out.grown hg2 hz1 (fun k hk => owned_from HO1.out hk))
    have hz2 := HB2.out.size
    have K3 := Lib.hid (ended_any v1 _ w2 (ownsRow_reads ho2) HLS.out)
    clear ho2 hg2
    go_wp2_with fail
    refine K3.out.mono ?_
    rintro e w4 ⟨rfl, hb4⟩
    have HB4 := Lib.hid (HB2.out.trans (hb4.mono hz2))
    clear hb4
    go_wp2
    go_ret
    exact ⟨rfl, HB4.out⟩

/-- What count answers. -/
def countB (ins : List (List UInt8)) : List UInt8 := ((Lib.decDigits (allB ins).length ++ [32]) ++ Lib.decDigits (ins.map List.length).sum) ++ [10]
theorem sum_take {ins : List (List UInt8)} {j : Nat} (hj : j < ins.length) : ((ins.take (j + 1)).map List.length).sum = ((ins.take j).map List.length).sum + ins[j].length := by
  rw [List.take_succ_eq_append_getElem hj, List.map_append, List.sum_append]
  simp only [List.map_cons, List.map_nil, List.sum_cons, List.sum_nil, Nat.add_zero]
theorem sum_lens : ∀ {ins : List (List UInt8)}, (∀ s ∈ ins, s.length ≤ 10000) → (ins.map List.length).sum ≤ 10000 * ins.length
  | [], _ => by simp
  | s :: ins, h => by
    have h1 := h s List.mem_cons_self
    have ih := sum_lens (ins := ins) (fun q hq => h q (List.mem_cons_of_mem _ hq))
    simp only [List.map_cons, List.sum_cons, List.length_cons]
    omega

set_option maxHeartbeats 1000000 in
set_option maxRecDepth 100000 in
theorem count_any (word : List UInt8) (v : Value) (ins : List (List UInt8)) (w : World) (hr : Reads w v (ins.map str)) (hm : Ml w) (ht : Tab w) (hn : ins.length ≤ 90) (hx : ∀ s ∈ ins, s.length ≤ 10000) :
    Calls Tryz.prog 77 #[str word, v] w fun e w' => e = .returned (str (countB ins)) ∧ Below w.heap.size w w' := by
  have K0 := Lib.hid (all_any v ins w hr hm (by omega) hx)
  have hal := allB_len hx
  have hsm := sum_lens hx
  have HST : Hid (∀ k, ((ins.take k).map List.length).sum ≤ 10000 * 90) := Lib.hid (fun k => Nat.le_trans (sum_lens (fun s hs => hx s (List.mem_of_mem_take hs))) (Nat.mul_le_mul_left _ (by rw [List.length_take]; omega)))
  have HX := Lib.hid hx
  have HT := Lib.hid ht
  obtain ⟨a, cap, rfl, -, -⟩ := id hr
  simp only [List.length_map] at *
  have HR := Lib.hid hr
  clear hr hm ht hx
  go_enter Tryz.func77, Tryz.ntmps77
  go_wp2_with fail
  go_loop [5, 10] (fun nv iv => ∃ j : Nat, j ≤ ins.length ∧ iv = .int .i64 j ∧ nv = .int .i64 ((((ins.take j).map List.length).sum : Nat) : Int)) (fun _ iv => ins.length - (intOf iv).toNat)
  case atStart => exact ⟨0, by omega, rfl, by simp⟩
  case round =>
    obtain ⟨j, hj, rfl, rfl⟩ := hrel
    by_cases hlt : j < ins.length
    · obtain ⟨b, o, hix, hce⟩ := HR.out.at (P := Tryz.prog) Tryz.underlying39 (by kernel_rfl) j (by simpa using hlt)
      simp only [List.getElem_map] at hce
      have hp1 := HX.out _ (List.getElem_mem hlt)
      have HSN := Lib.hid (sum_take hlt)
      have hst := HST.out j
      obtain ⟨p, hp⟩ : ∃ p, ins[j] = p := ⟨_, rfl⟩
      rw [hp] at hce HSN hp1
      obtain ⟨q, hq⟩ : ∃ q, ((ins.take j).map List.length).sum = q := ⟨_, rfl⟩
      rw [hq] at HSN hst ⊢
      have hw1 : IntKind.i64.wrap ((q : Int) + (p.length : Int)) = (q : Int) + (p.length : Int) := IntWalk.i64_in _ (by omega)
      clear hp hq
      go_wp2
      go_round
      case rel => exact ⟨j + 1, by omega, by go_num, by rw [HSN.out]; go_num⟩
      case measure => simp [intOf]; omega
    · obtain rfl : j = ins.length := by omega
      rw [List.take_length]
      have HC : Hid (countB ins = ((Lib.decDigits (allB ins).length ++ [32]) ++ Lib.decDigits (ins.map List.length).sum) ++ [10]) := Lib.hid rfl
      obtain ⟨q, hq⟩ : ∃ q, (ins.map List.length).sum = q := ⟨_, rfl⟩
      obtain ⟨m, hmm⟩ : ∃ q, (allB ins).length = q := ⟨_, rfl⟩
      rw [hq, hmm] at HC
      rw [hq] at hsm ⊢
      rw [hmm] at hal K0
      have hd1 := digits_le6 m (by omega)
      have hd2 := digits_le6 q (by omega)
      clear hq hmm
      go_wp2_with fail
      refine K0.out.mono ?_
      rintro e w1 ⟨v1, rfl, ho1, hb1⟩
      have hrd := ownsRow_reads ho1
      obtain ⟨a1, cap1, rfl⟩ : ∃ a1 cap1, v1 = .slice a1 m cap1 := by
        rcases ho1.2 with ⟨rfl, h0⟩ | ⟨g, c, cur, rfl, -⟩
        · exact ⟨_, _, by rw [h0]⟩
        · exact ⟨_, _, rfl⟩
      have HB1 := Lib.hid hb1
      have K1 := Lib.hid (itoa_any m w1 (by omega) (tab_below HT.out hb1 (Nat.le_refl _)))
      clear ho1 hb1 hrd
      go_wp2_with fail
      refine K1.out.mono ?_
      rintro e w2 ⟨rfl, hb2⟩
      have HB2 := Lib.hid (HB1.out.trans (hb2.mono HB1.out.size))
      have K2 := Lib.hid (itoa_any q w2 (by omega) (tab_below HT.out HB2.out (Nat.le_refl _)))
      clear hb2
      generalize Lib.decDigits m = dm at *
      generalize Lib.decDigits q = dq at *
      obtain ⟨x1, hx1⟩ : ∃ x, dm ++ [32] = x := ⟨_, rfl⟩
      obtain ⟨x2, hx2⟩ : ∃ x, x1 ++ dq = x := ⟨_, rfl⟩
      obtain ⟨x3, hx3⟩ : ∃ x, x2 ++ [10] = x := ⟨_, rfl⟩
      have e1 : (⟨dm.toArray⟩ : ByteArray) ++ (⟨#[32]⟩ : ByteArray) = ⟨x1.toArray⟩ := by rw [← hx1, show (⟨#[32]⟩ : ByteArray) = ⟨([32] : List UInt8).toArray⟩ from rfl, str_app]
      have e2 : (⟨x1.toArray⟩ : ByteArray) ++ (⟨dq.toArray⟩ : ByteArray) = ⟨x2.toArray⟩ := by rw [← hx2, str_app]
      have e3 : (⟨x2.toArray⟩ : ByteArray) ++ (⟨#[10]⟩ : ByteArray) = ⟨x3.toArray⟩ := by rw [← hx3, show (⟨#[10]⟩ : ByteArray) = ⟨([10] : List UInt8).toArray⟩ from rfl, str_app]
      have l1 : x1.length = dm.length + 1 := by rw [← hx1]; simp
      have l2 : x2.length = x1.length + dq.length := by rw [← hx2]; simp
      have hz1 : ¬ 9223372036854775807 < dm.length + 1 := by omega
      have hz2 : ¬ 9223372036854775807 < x1.length + dq.length := by omega
      have hz3 : ¬ 9223372036854775807 < x2.length + 1 := by omega
      rw [hx1, hx2, hx3] at HC
      clear hx1 hx2 hx3 l1 l2
      go_wp2_with fail
      refine K2.out.mono ?_
      rintro e w3 ⟨rfl, hb3⟩
      have HB3 := Lib.hid (HB2.out.trans (hb3.mono HB2.out.size))
      clear hb3
      go_wp2
      go_ret
      rw [HC.out]
      exact ⟨rfl, HB3.out⟩

set_option maxRecDepth 100000 in
theorem empty_word (B : Nat) (w0 : World) : WordIs B w0 72 [] true := by
  intro w hb
  go_enter Tryz.func72, Tryz.ntmps72
  go_wp2
  go_ret
  exact ⟨rfl, Below.refl _ _⟩
set_option maxRecDepth 100000 in
theorem anything_word (B : Nat) (w0 : World) (s : List UInt8) : WordIs B w0 68 s true := by
  intro w hb
  go_enter Tryz.func68, Tryz.ntmps68
  go_wp2
  go_ret
  exact ⟨rfl, Below.refl _ _⟩
set_option maxRecDepth 100000 in
theorem sort_word (B : Nat) (w0 : World) (s : List UInt8) (h : s = [] ∨ s = onceB) : WordIs B w0 75 s true := by
  intro w hb
  rcases h with rfl | rfl
  · go_enter Tryz.func75, Tryz.ntmps75
    go_wp2
    go_ret
    exact ⟨rfl, Below.refl _ _⟩
  · go_enter Tryz.func75, Tryz.ntmps75
    go_wp2
    go_ret
    exact ⟨rfl, Below.refl _ _⟩
end Go.Proofs.YtmkpeopebddnjaaGreatDoor
