/-
  The reference's ActError of any command. The reference: RuleError, SheetFault.
-/
import Derived.Test.YtgjialbmlhbngaaGreatDoorPkL
import Derived.Test.YtgjialbmlhbngaaGreatDoorPkG
import Derived.Laws.CopyOwn

namespace Go.Proofs.YtgjialbmlhbngaaGreatDoor
open Go Go.RowKit Go.Kf Go.Sort Go.Proofs

theorem aerr_cases {name : List UInt8} {k : Kd} (word : List UInt8) (n : Nat) (hk : mlook name kindsL = some k) :
    ((n : Int) < k.least ∧ actErr name word n = 3) ∨ (k.least ≤ (n : Int) ∧ k.most < (n : Int) ∧ actErr name word n = 3) ∨ (k.least ≤ (n : Int) ∧ (n : Int) ≤ k.most ∧ kwordB k.word word = false ∧ actErr name word n = 3) ∨
      (k.least ≤ (n : Int) ∧ (n : Int) ≤ k.most ∧ kwordB k.word word = true ∧ 100 < word.length ∧ actErr name word n = 10) ∨ (k.least ≤ (n : Int) ∧ (n : Int) ≤ k.most ∧ kwordB k.word word = true ∧ word.length ≤ 100 ∧ actErr name word n = 0) := by
  unfold actErr
  rw [hk]
  simp only
  by_cases h1 : k.least ≤ (n : Int)
  · by_cases h2 : (n : Int) ≤ k.most
    · cases hb : kwordB k.word word with
      | true =>
        by_cases h3 : 100 < word.length
        · exact Or.inr (Or.inr (Or.inr (Or.inl ⟨h1, h2, rfl, h3, by rw [if_pos ⟨h1, h2, rfl⟩, if_pos h3]⟩)))
        · exact Or.inr (Or.inr (Or.inr (Or.inr ⟨h1, h2, rfl, by omega, by rw [if_pos ⟨h1, h2, rfl⟩, if_neg h3]⟩)))
      | false => exact Or.inr (Or.inr (Or.inl ⟨h1, h2, rfl, by rw [if_neg (fun h => by cases h.2.2)]⟩))
    · exact Or.inr (Or.inl ⟨h1, by omega, by rw [if_neg (fun h => h2 h.2.1)]⟩)
  · exact Or.inl ⟨by omega, by rw [if_neg (fun h => h1 h.1)]⟩

theorem spl_count (c : UInt8) : ∀ s : List UInt8, (spl c s).length = s.count c + 1
  | [] => rfl
  | b :: s => by
    have ih := spl_count c s
    unfold spl
    by_cases hb : b = c
    · rw [if_pos hb, List.length_cons, ih, hb, List.count_cons_self]
    · rw [if_neg hb, List.count_cons_of_ne hb]
      cases hq : spl c s with
      | nil => exact absurd hq (spl_ne c s)
      | cons x r =>
        rw [hq] at ih
        exact ih
theorem pair_var (word : List UInt8) : (((word.count 61 : Nat) : Int) + 1 == 2) = false ∧ pairB word = false ∨ (((word.count 61 : Nat) : Int) + 1 == 2) = true ∧ ∃ b, (∀ h, (⟨word.toArray⟩ : ByteArray)[0]'h = b) ∧ 0 < word.length ∧ ((((b.toNat : Int) != 61) = false ∧ ((b.toNat : Int) == 61) = true ∧ pairB word = false) ∨ (((b.toNat : Int) != 61) = true ∧ ((b.toNat : Int) == 61) = false ∧ pairB word = true)) := by
  unfold pairB
  by_cases h1 : word.count 61 = 1
  · right
    refine ⟨by rw [h1]; rfl, ?_⟩
    cases word with
    | nil => simp at h1
    | cons b t =>
      refine ⟨b, fun _ => rfl, by simp, ?_⟩
      have hbb : ((b.toNat : Int) == 61) = (b == 61) := by rw [show (61 : Int) = ((61 : UInt8).toNat : Int) from rfl, Kf.u8_eq]
      have hbn : ((b.toNat : Int) != 61) = !(b == 61) := by unfold bne; rw [hbb]
      rw [h1, hbb, hbn]
      by_cases h2 : b = 61
      · left
        subst h2
        exact ⟨rfl, rfl, rfl⟩
      · right
        have hd : (b == 61) = false := by simpa using h2
        rw [hd]
        exact ⟨rfl, rfl, by simpa using h2⟩
  · left
    refine ⟨by rw [beq_eq_false_iff_ne]; omega, ?_⟩
    rw [show (word.count 61 == 1) = false by simpa using h1]
    rfl

set_option maxRecDepth 100000 in
set_option maxHeartbeats 1000000 in
theorem rerr_write (word : List UInt8) (n : Nat) (w : World) (hn : n ≤ 1000000) (hwl : word.length ≤ 100000) : Calls Tryz.prog 169 #[str [119, 114, 105, 116, 101], str word, .int .i64 (n : Int)] w fun e w' => e = .returned (.int .i64 (actErr [119, 114, 105, 116, 101] word n : Nat)) ∧ Below w.heap.size w w' := by
  have hcs := aerr_cases (name := [119, 114, 105, 116, 101]) (k := ⟨0, 0, 224, 225⟩) word n (by kernel_rfl)
  simp only at hcs
  have hb0 : kwordB 224 word = true := rfl
  rw [hb0] at hcs
  rcases hcs with ⟨h1, he⟩ | ⟨h0, h1, he⟩ | ⟨h0, h1, hb, he⟩ | ⟨h0, h1, hb, h2, he⟩ | ⟨h0, h1, hb, h2, he⟩
  · rw [he]
    clear he
    have c1 : ((n : Int) < 0) = True := eq_true (by omega)
    go_enter Tryz.func169, Tryz.ntmps169
    go_wp2
    go_ret
    exact ⟨rfl, Below.refl _ _⟩
  · rw [he]
    clear he
    have c1 : ((n : Int) < 0) = False := eq_false (by omega)
    have c2 : ((0 : Int) < (n : Int)) = True := eq_true (by omega)
    go_enter Tryz.func169, Tryz.ntmps169
    go_wp2
    go_ret
    exact ⟨rfl, Below.refl _ _⟩
  · cases hb
  · rw [he]
    clear he
    have c1 : ((n : Int) < 0) = False := eq_false (by omega)
    have c2 : ((0 : Int) < (n : Int)) = False := eq_false (by omega)
    have c3 : ((100 : Int) < (word.length : Int)) = True := eq_true (by omega)
    go_enter Tryz.func169, Tryz.ntmps169
    go_wp2
    go_ret
    exact ⟨rfl, Below.refl _ _⟩
  · rw [he]
    clear he
    have c1 : ((n : Int) < 0) = False := eq_false (by omega)
    have c2 : ((0 : Int) < (n : Int)) = False := eq_false (by omega)
    have c3 : ((100 : Int) < (word.length : Int)) = False := eq_false (by omega)
    go_enter Tryz.func169, Tryz.ntmps169
    go_wp2
    go_ret
    exact ⟨rfl, Below.refl _ _⟩

set_option maxRecDepth 100000 in
set_option maxHeartbeats 1000000 in
theorem rerr_join (word : List UInt8) (n : Nat) (w : World) (hn : n ≤ 1000000) (hwl : word.length ≤ 100000) : Calls Tryz.prog 169 #[str [106, 111, 105, 110], str word, .int .i64 (n : Int)] w fun e w' => e = .returned (.int .i64 (actErr [106, 111, 105, 110] word n : Nat)) ∧ Below w.heap.size w w' := by
  have hcs := aerr_cases (name := [106, 111, 105, 110]) (k := ⟨1, 8, 224, 226⟩) word n (by kernel_rfl)
  simp only at hcs
  have hb0 : kwordB 224 word = true := rfl
  rw [hb0] at hcs
  rcases hcs with ⟨h1, he⟩ | ⟨h0, h1, he⟩ | ⟨h0, h1, hb, he⟩ | ⟨h0, h1, hb, h2, he⟩ | ⟨h0, h1, hb, h2, he⟩
  · rw [he]
    clear he
    have c1 : ((n : Int) < 1) = True := eq_true (by omega)
    go_enter Tryz.func169, Tryz.ntmps169
    go_wp2
    go_ret
    exact ⟨rfl, Below.refl _ _⟩
  · rw [he]
    clear he
    have c1 : ((n : Int) < 1) = False := eq_false (by omega)
    have c2 : ((8 : Int) < (n : Int)) = True := eq_true (by omega)
    go_enter Tryz.func169, Tryz.ntmps169
    go_wp2
    go_ret
    exact ⟨rfl, Below.refl _ _⟩
  · cases hb
  · rw [he]
    clear he
    have c1 : ((n : Int) < 1) = False := eq_false (by omega)
    have c2 : ((8 : Int) < (n : Int)) = False := eq_false (by omega)
    have c3 : ((100 : Int) < (word.length : Int)) = True := eq_true (by omega)
    go_enter Tryz.func169, Tryz.ntmps169
    go_wp2
    go_ret
    exact ⟨rfl, Below.refl _ _⟩
  · rw [he]
    clear he
    have c1 : ((n : Int) < 1) = False := eq_false (by omega)
    have c2 : ((8 : Int) < (n : Int)) = False := eq_false (by omega)
    have c3 : ((100 : Int) < (word.length : Int)) = False := eq_false (by omega)
    go_enter Tryz.func169, Tryz.ntmps169
    go_wp2
    go_ret
    exact ⟨rfl, Below.refl _ _⟩

set_option maxRecDepth 100000 in
set_option maxHeartbeats 1000000 in
theorem rerr_upper (word : List UInt8) (n : Nat) (w : World) (hn : n ≤ 1000000) (hwl : word.length ≤ 100000) : Calls Tryz.prog 169 #[str [117, 112, 112, 101, 114], str word, .int .i64 (n : Int)] w fun e w' => e = .returned (.int .i64 (actErr [117, 112, 112, 101, 114] word n : Nat)) ∧ Below w.heap.size w w' := by
  have hcs := aerr_cases (name := [117, 112, 112, 101, 114]) (k := ⟨1, 1, 227, 228⟩) word n (by kernel_rfl)
  simp only at hcs
  have hb0 : kwordB 227 word = (word == []) := rfl
  rw [hb0] at hcs
  clear hb0
  rcases hcs with ⟨h1, he⟩ | ⟨h0, h1, he⟩ | ⟨h0, h1, hb, he⟩ | ⟨h0, h1, hb, h2, he⟩ | ⟨h0, h1, hb, h2, he⟩
  · rw [he]
    clear he
    have c1 : ((n : Int) < 1) = True := eq_true (by omega)
    cases hb : (word == [])
    all_goals
      go_enter Tryz.func169, Tryz.ntmps169
      go_wp2
      go_ret
      exact ⟨rfl, Below.refl _ _⟩
  · rw [he]
    clear he
    have c1 : ((n : Int) < 1) = False := eq_false (by omega)
    have c2 : ((1 : Int) < (n : Int)) = True := eq_true (by omega)
    cases hb : (word == [])
    all_goals
      go_enter Tryz.func169, Tryz.ntmps169
      go_wp2
      go_ret
      exact ⟨rfl, Below.refl _ _⟩
  · rw [he]
    clear he
    have c1 : ((n : Int) < 1) = False := eq_false (by omega)
    have c2 : ((1 : Int) < (n : Int)) = False := eq_false (by omega)
    go_enter Tryz.func169, Tryz.ntmps169
    go_wp2
    go_ret
    exact ⟨rfl, Below.refl _ _⟩
  · rw [he]
    clear he
    have c1 : ((n : Int) < 1) = False := eq_false (by omega)
    have c2 : ((1 : Int) < (n : Int)) = False := eq_false (by omega)
    have c3 : ((100 : Int) < (word.length : Int)) = True := eq_true (by omega)
    go_enter Tryz.func169, Tryz.ntmps169
    go_wp2
    go_ret
    exact ⟨rfl, Below.refl _ _⟩
  · rw [he]
    clear he
    have c1 : ((n : Int) < 1) = False := eq_false (by omega)
    have c2 : ((1 : Int) < (n : Int)) = False := eq_false (by omega)
    have c3 : ((100 : Int) < (word.length : Int)) = False := eq_false (by omega)
    go_enter Tryz.func169, Tryz.ntmps169
    go_wp2
    go_ret
    exact ⟨rfl, Below.refl _ _⟩

set_option maxRecDepth 100000 in
set_option maxHeartbeats 1000000 in
theorem rerr_lines (word : List UInt8) (n : Nat) (w : World) (hn : n ≤ 1000000) (hwl : word.length ≤ 100000) : Calls Tryz.prog 169 #[str [108, 105, 110, 101, 115], str word, .int .i64 (n : Int)] w fun e w' => e = .returned (.int .i64 (actErr [108, 105, 110, 101, 115] word n : Nat)) ∧ Below w.heap.size w w' := by
  have hcs := aerr_cases (name := [108, 105, 110, 101, 115]) (k := ⟨1, 1, 224, 229⟩) word n (by kernel_rfl)
  simp only at hcs
  have hb0 : kwordB 224 word = true := rfl
  rw [hb0] at hcs
  rcases hcs with ⟨h1, he⟩ | ⟨h0, h1, he⟩ | ⟨h0, h1, hb, he⟩ | ⟨h0, h1, hb, h2, he⟩ | ⟨h0, h1, hb, h2, he⟩
  · rw [he]
    clear he
    have c1 : ((n : Int) < 1) = True := eq_true (by omega)
    go_enter Tryz.func169, Tryz.ntmps169
    go_wp2
    go_ret
    exact ⟨rfl, Below.refl _ _⟩
  · rw [he]
    clear he
    have c1 : ((n : Int) < 1) = False := eq_false (by omega)
    have c2 : ((1 : Int) < (n : Int)) = True := eq_true (by omega)
    go_enter Tryz.func169, Tryz.ntmps169
    go_wp2
    go_ret
    exact ⟨rfl, Below.refl _ _⟩
  · cases hb
  · rw [he]
    clear he
    have c1 : ((n : Int) < 1) = False := eq_false (by omega)
    have c2 : ((1 : Int) < (n : Int)) = False := eq_false (by omega)
    have c3 : ((100 : Int) < (word.length : Int)) = True := eq_true (by omega)
    go_enter Tryz.func169, Tryz.ntmps169
    go_wp2
    go_ret
    exact ⟨rfl, Below.refl _ _⟩
  · rw [he]
    clear he
    have c1 : ((n : Int) < 1) = False := eq_false (by omega)
    have c2 : ((1 : Int) < (n : Int)) = False := eq_false (by omega)
    have c3 : ((100 : Int) < (word.length : Int)) = False := eq_false (by omega)
    go_enter Tryz.func169, Tryz.ntmps169
    go_wp2
    go_ret
    exact ⟨rfl, Below.refl _ _⟩

set_option maxRecDepth 100000 in
set_option maxHeartbeats 1000000 in
theorem rerr_sort (word : List UInt8) (n : Nat) (w : World) (hn : n ≤ 1000000) (hwl : word.length ≤ 100000) : Calls Tryz.prog 169 #[str [115, 111, 114, 116], str word, .int .i64 (n : Int)] w fun e w' => e = .returned (.int .i64 (actErr [115, 111, 114, 116] word n : Nat)) ∧ Below w.heap.size w w' := by
  have hcs := aerr_cases (name := [115, 111, 114, 116]) (k := ⟨1, 8, 230, 231⟩) word n (by kernel_rfl)
  simp only at hcs
  have hb0 : kwordB 230 word = ((word == []) || (word == [111, 110, 99, 101])) := rfl
  rw [hb0] at hcs
  clear hb0
  rcases hcs with ⟨h1, he⟩ | ⟨h0, h1, he⟩ | ⟨h0, h1, hb, he⟩ | ⟨h0, h1, hb, h2, he⟩ | ⟨h0, h1, hb, h2, he⟩
  · rw [he]
    clear he
    have c1 : ((n : Int) < 1) = True := eq_true (by omega)
    cases ha : (word == [])
    all_goals cases hd : (word == [111, 110, 99, 101])
    all_goals
      go_enter Tryz.func169, Tryz.ntmps169
      go_wp2
      go_ret
      exact ⟨rfl, Below.refl _ _⟩
  · rw [he]
    clear he
    have c1 : ((n : Int) < 1) = False := eq_false (by omega)
    have c2 : ((8 : Int) < (n : Int)) = True := eq_true (by omega)
    cases ha : (word == [])
    all_goals cases hd : (word == [111, 110, 99, 101])
    all_goals
      go_enter Tryz.func169, Tryz.ntmps169
      go_wp2
      go_ret
      exact ⟨rfl, Below.refl _ _⟩
  · rw [he]
    clear he
    have c1 : ((n : Int) < 1) = False := eq_false (by omega)
    have c2 : ((8 : Int) < (n : Int)) = False := eq_false (by omega)
    cases ha : (word == [])
    all_goals cases hd : (word == [111, 110, 99, 101])
    all_goals
      first
      | (exfalso; rw [ha, hd] at hb; cases hb; done)
      | (clear hb
         go_enter Tryz.func169, Tryz.ntmps169
         go_wp2
         go_ret
         exact ⟨rfl, Below.refl _ _⟩)
  · rw [he]
    clear he
    have c1 : ((n : Int) < 1) = False := eq_false (by omega)
    have c2 : ((8 : Int) < (n : Int)) = False := eq_false (by omega)
    have c3 : ((100 : Int) < (word.length : Int)) = True := eq_true (by omega)
    cases ha : (word == [])
    all_goals cases hd : (word == [111, 110, 99, 101])
    all_goals
      first
      | (exfalso; rw [ha, hd] at hb; cases hb; done)
      | (clear hb
         go_enter Tryz.func169, Tryz.ntmps169
         go_wp2
         go_ret
         exact ⟨rfl, Below.refl _ _⟩)
  · rw [he]
    clear he
    have c1 : ((n : Int) < 1) = False := eq_false (by omega)
    have c2 : ((8 : Int) < (n : Int)) = False := eq_false (by omega)
    have c3 : ((100 : Int) < (word.length : Int)) = False := eq_false (by omega)
    cases ha : (word == [])
    all_goals cases hd : (word == [111, 110, 99, 101])
    all_goals
      first
      | (exfalso; rw [ha, hd] at hb; cases hb; done)
      | (clear hb
         go_enter Tryz.func169, Tryz.ntmps169
         go_wp2
         go_ret
         exact ⟨rfl, Below.refl _ _⟩)

set_option maxRecDepth 100000 in
set_option maxHeartbeats 1000000 in
theorem rerr_count (word : List UInt8) (n : Nat) (w : World) (hn : n ≤ 1000000) (hwl : word.length ≤ 100000) : Calls Tryz.prog 169 #[str [99, 111, 117, 110, 116], str word, .int .i64 (n : Int)] w fun e w' => e = .returned (.int .i64 (actErr [99, 111, 117, 110, 116] word n : Nat)) ∧ Below w.heap.size w w' := by
  have hcs := aerr_cases (name := [99, 111, 117, 110, 116]) (k := ⟨1, 8, 227, 232⟩) word n (by kernel_rfl)
  simp only at hcs
  have hb0 : kwordB 227 word = (word == []) := rfl
  rw [hb0] at hcs
  clear hb0
  rcases hcs with ⟨h1, he⟩ | ⟨h0, h1, he⟩ | ⟨h0, h1, hb, he⟩ | ⟨h0, h1, hb, h2, he⟩ | ⟨h0, h1, hb, h2, he⟩
  · rw [he]
    clear he
    have c1 : ((n : Int) < 1) = True := eq_true (by omega)
    cases hb : (word == [])
    all_goals
      go_enter Tryz.func169, Tryz.ntmps169
      go_wp2
      go_ret
      exact ⟨rfl, Below.refl _ _⟩
  · rw [he]
    clear he
    have c1 : ((n : Int) < 1) = False := eq_false (by omega)
    have c2 : ((8 : Int) < (n : Int)) = True := eq_true (by omega)
    cases hb : (word == [])
    all_goals
      go_enter Tryz.func169, Tryz.ntmps169
      go_wp2
      go_ret
      exact ⟨rfl, Below.refl _ _⟩
  · rw [he]
    clear he
    have c1 : ((n : Int) < 1) = False := eq_false (by omega)
    have c2 : ((8 : Int) < (n : Int)) = False := eq_false (by omega)
    go_enter Tryz.func169, Tryz.ntmps169
    go_wp2
    go_ret
    exact ⟨rfl, Below.refl _ _⟩
  · rw [he]
    clear he
    have c1 : ((n : Int) < 1) = False := eq_false (by omega)
    have c2 : ((8 : Int) < (n : Int)) = False := eq_false (by omega)
    have c3 : ((100 : Int) < (word.length : Int)) = True := eq_true (by omega)
    go_enter Tryz.func169, Tryz.ntmps169
    go_wp2
    go_ret
    exact ⟨rfl, Below.refl _ _⟩
  · rw [he]
    clear he
    have c1 : ((n : Int) < 1) = False := eq_false (by omega)
    have c2 : ((8 : Int) < (n : Int)) = False := eq_false (by omega)
    have c3 : ((100 : Int) < (word.length : Int)) = False := eq_false (by omega)
    go_enter Tryz.func169, Tryz.ntmps169
    go_wp2
    go_ret
    exact ⟨rfl, Below.refl _ _⟩

set_option maxRecDepth 100000 in
set_option maxHeartbeats 1000000 in
theorem rerr_swap (word : List UInt8) (n : Nat) (w : World) (hn : n ≤ 1000000) (hwl : word.length ≤ 100000) : Calls Tryz.prog 169 #[str [115, 119, 97, 112], str word, .int .i64 (n : Int)] w fun e w' => e = .returned (.int .i64 (actErr [115, 119, 97, 112] word n : Nat)) ∧ Below w.heap.size w w' := by
  have hcs := aerr_cases (name := [115, 119, 97, 112]) (k := ⟨1, 1, 233, 234⟩) word n (by kernel_rfl)
  simp only at hcs
  have hb0 : kwordB 233 word = pairB word := rfl
  rw [hb0] at hcs
  clear hb0
  have KC0 := cut_any word 61 w (by omega)
  rw [spl_count] at KC0
  have KC : Hid (Calls Tryz.prog 133 #[str word, .int .u8 61] w fun e w' => ∃ a c, e = .returned (.slice a (word.count 61 + 1) c) ∧ Below w.heap.size w w') := Lib.hid (KC0.mono (fun e w' ⟨v, he, ho, hb⟩ => by
    obtain ⟨a, c, hv, -, -⟩ := ownsRow_reads ho
    rw [List.length_map, spl_count] at hv
    exact ⟨a, c, by rw [he, hv], hb⟩))
  clear KC0
  have hvar : (((word.count 61 : Nat) : Int) + 1 == 2) = false ∧ pairB word = false ∨ (((word.count 61 : Nat) : Int) + 1 == 2) = true ∧ ∃ b, (∀ h, (⟨word.toArray⟩ : ByteArray)[0]'h = b) ∧ 0 < word.length ∧ ((((b.toNat : Int) != 61) = false ∧ ((b.toNat : Int) == 61) = true ∧ pairB word = false) ∨ (((b.toNat : Int) != 61) = true ∧ ((b.toNat : Int) == 61) = false ∧ pairB word = true)) := pair_var word
  obtain ⟨m, hm⟩ : ∃ m, word.count 61 = m := ⟨_, rfl⟩
  rw [hm] at KC hvar
  clear hm
  rcases hvar with ⟨v1, v2⟩ | ⟨v1, b, hidx, hpos, ⟨v3, v4, v2⟩ | ⟨v3, v4, v2⟩⟩
  · rw [v2] at hcs
    clear v2
    rcases hcs with ⟨h1, he⟩ | ⟨h0, h1, he⟩ | ⟨h0, h1, hb, he⟩ | ⟨h0, h1, hb, h2, he⟩ | ⟨h0, h1, hb, h2, he⟩
    · rw [he]
      clear he
      have c1 : ((n : Int) < 1) = True := eq_true (by omega)
      go_enter Tryz.func169, Tryz.ntmps169
      go_wp2_with fail
      refine KC.out.mono ?_
      rintro e w1 ⟨a, c, rfl, hb1⟩
      go_wp2
      go_ret
      exact ⟨rfl, hb1⟩
    · rw [he]
      clear he
      have c1 : ((n : Int) < 1) = False := eq_false (by omega)
      have c2 : ((1 : Int) < (n : Int)) = True := eq_true (by omega)
      go_enter Tryz.func169, Tryz.ntmps169
      go_wp2_with fail
      refine KC.out.mono ?_
      rintro e w1 ⟨a, c, rfl, hb1⟩
      go_wp2
      go_ret
      exact ⟨rfl, hb1⟩
    · rw [he]
      clear he
      have c1 : ((n : Int) < 1) = False := eq_false (by omega)
      have c2 : ((1 : Int) < (n : Int)) = False := eq_false (by omega)
      go_enter Tryz.func169, Tryz.ntmps169
      go_wp2_with fail
      refine KC.out.mono ?_
      rintro e w1 ⟨a, c, rfl, hb1⟩
      go_wp2
      go_ret
      exact ⟨rfl, hb1⟩
    · cases hb
    · cases hb
  · rw [v2] at hcs
    clear v2
    rcases hcs with ⟨h1, he⟩ | ⟨h0, h1, he⟩ | ⟨h0, h1, hb, he⟩ | ⟨h0, h1, hb, h2, he⟩ | ⟨h0, h1, hb, h2, he⟩
    · rw [he]
      clear he
      have c1 : ((n : Int) < 1) = True := eq_true (by omega)
      go_enter Tryz.func169, Tryz.ntmps169
      go_wp2_with fail
      refine KC.out.mono ?_
      rintro e w1 ⟨a, c, rfl, hb1⟩
      go_wp2
      go_ret
      exact ⟨rfl, hb1⟩
    · rw [he]
      clear he
      have c1 : ((n : Int) < 1) = False := eq_false (by omega)
      have c2 : ((1 : Int) < (n : Int)) = True := eq_true (by omega)
      go_enter Tryz.func169, Tryz.ntmps169
      go_wp2_with fail
      refine KC.out.mono ?_
      rintro e w1 ⟨a, c, rfl, hb1⟩
      go_wp2
      go_ret
      exact ⟨rfl, hb1⟩
    · rw [he]
      clear he
      have c1 : ((n : Int) < 1) = False := eq_false (by omega)
      have c2 : ((1 : Int) < (n : Int)) = False := eq_false (by omega)
      go_enter Tryz.func169, Tryz.ntmps169
      go_wp2_with fail
      refine KC.out.mono ?_
      rintro e w1 ⟨a, c, rfl, hb1⟩
      go_wp2
      go_ret
      exact ⟨rfl, hb1⟩
    · cases hb
    · cases hb
  · rw [v2] at hcs
    clear v2
    rcases hcs with ⟨h1, he⟩ | ⟨h0, h1, he⟩ | ⟨h0, h1, hb, he⟩ | ⟨h0, h1, hb, h2, he⟩ | ⟨h0, h1, hb, h2, he⟩
    · rw [he]
      clear he
      have c1 : ((n : Int) < 1) = True := eq_true (by omega)
      go_enter Tryz.func169, Tryz.ntmps169
      go_wp2_with fail
      refine KC.out.mono ?_
      rintro e w1 ⟨a, c, rfl, hb1⟩
      go_wp2
      go_ret
      exact ⟨rfl, hb1⟩
    · rw [he]
      clear he
      have c1 : ((n : Int) < 1) = False := eq_false (by omega)
      have c2 : ((1 : Int) < (n : Int)) = True := eq_true (by omega)
      go_enter Tryz.func169, Tryz.ntmps169
      go_wp2_with fail
      refine KC.out.mono ?_
      rintro e w1 ⟨a, c, rfl, hb1⟩
      go_wp2
      go_ret
      exact ⟨rfl, hb1⟩
    · cases hb
    · rw [he]
      clear he
      have c1 : ((n : Int) < 1) = False := eq_false (by omega)
      have c2 : ((1 : Int) < (n : Int)) = False := eq_false (by omega)
      have c3 : ((100 : Int) < (word.length : Int)) = True := eq_true (by omega)
      go_enter Tryz.func169, Tryz.ntmps169
      go_wp2_with fail
      refine KC.out.mono ?_
      rintro e w1 ⟨a, c, rfl, hb1⟩
      go_wp2
      go_ret
      exact ⟨rfl, hb1⟩
    · rw [he]
      clear he
      have c1 : ((n : Int) < 1) = False := eq_false (by omega)
      have c2 : ((1 : Int) < (n : Int)) = False := eq_false (by omega)
      have c3 : ((100 : Int) < (word.length : Int)) = False := eq_false (by omega)
      go_enter Tryz.func169, Tryz.ntmps169
      go_wp2_with fail
      refine KC.out.mono ?_
      rintro e w1 ⟨a, c, rfl, hb1⟩
      go_wp2
      go_ret
      exact ⟨rfl, hb1⟩

set_option maxRecDepth 100000 in
set_option maxHeartbeats 1000000 in
theorem rerr_head (word : List UInt8) (n : Nat) (w : World) (hn : n ≤ 1000000) (hwl : word.length ≤ 100000) : Calls Tryz.prog 169 #[str [104, 101, 97, 100], str word, .int .i64 (n : Int)] w fun e w' => e = .returned (.int .i64 (actErr [104, 101, 97, 100] word n : Nat)) ∧ Below w.heap.size w w' := by
  have hcs := aerr_cases (name := [104, 101, 97, 100]) (k := ⟨1, 1, 235, 236⟩) word n (by kernel_rfl)
  simp only at hcs
  have hb0 : kwordB 235 word = (num3 word).isSome := rfl
  rw [hb0] at hcs
  clear hb0
  have KN := fun w1 => number3 word w1 hwl
  unfold numV at KN
  cases hq : num3 word with
  | some m =>
    rw [hq] at hcs KN
    have KN1 := Lib.hid KN
    have cm : ((0 : Int) ≤ (m : Int)) = True := eq_true (by omega)
    clear KN hq
    rcases hcs with ⟨h1, he⟩ | ⟨h0, h1, he⟩ | ⟨h0, h1, hb, he⟩ | ⟨h0, h1, hb, h2, he⟩ | ⟨h0, h1, hb, h2, he⟩
    · rw [he]
      clear he
      have c1 : ((n : Int) < 1) = True := eq_true (by omega)
      go_enter Tryz.func169, Tryz.ntmps169
      go_wp2_with fail
      refine (KN1.out _).mono ?_
      rintro e w1 ⟨rfl, rfl⟩
      go_wp2
      go_ret
      exact ⟨rfl, Below.refl _ _⟩
    · rw [he]
      clear he
      have c1 : ((n : Int) < 1) = False := eq_false (by omega)
      have c2 : ((1 : Int) < (n : Int)) = True := eq_true (by omega)
      go_enter Tryz.func169, Tryz.ntmps169
      go_wp2_with fail
      refine (KN1.out _).mono ?_
      rintro e w1 ⟨rfl, rfl⟩
      go_wp2
      go_ret
      exact ⟨rfl, Below.refl _ _⟩
    · cases hb
    · rw [he]
      clear he
      have c1 : ((n : Int) < 1) = False := eq_false (by omega)
      have c2 : ((1 : Int) < (n : Int)) = False := eq_false (by omega)
      have c3 : ((100 : Int) < (word.length : Int)) = True := eq_true (by omega)
      go_enter Tryz.func169, Tryz.ntmps169
      go_wp2_with fail
      refine (KN1.out _).mono ?_
      rintro e w1 ⟨rfl, rfl⟩
      go_wp2
      go_ret
      exact ⟨rfl, Below.refl _ _⟩
    · rw [he]
      clear he
      have c1 : ((n : Int) < 1) = False := eq_false (by omega)
      have c2 : ((1 : Int) < (n : Int)) = False := eq_false (by omega)
      have c3 : ((100 : Int) < (word.length : Int)) = False := eq_false (by omega)
      go_enter Tryz.func169, Tryz.ntmps169
      go_wp2_with fail
      refine (KN1.out _).mono ?_
      rintro e w1 ⟨rfl, rfl⟩
      go_wp2
      go_ret
      exact ⟨rfl, Below.refl _ _⟩
  | none =>
    rw [hq] at hcs KN
    have KN1 := Lib.hid KN
    clear KN hq
    rcases hcs with ⟨h1, he⟩ | ⟨h0, h1, he⟩ | ⟨h0, h1, hb, he⟩ | ⟨h0, h1, hb, h2, he⟩ | ⟨h0, h1, hb, h2, he⟩
    · rw [he]
      clear he
      have c1 : ((n : Int) < 1) = True := eq_true (by omega)
      go_enter Tryz.func169, Tryz.ntmps169
      go_wp2_with fail
      refine (KN1.out _).mono ?_
      rintro e w1 ⟨rfl, rfl⟩
      go_wp2
      go_ret
      exact ⟨rfl, Below.refl _ _⟩
    · rw [he]
      clear he
      have c1 : ((n : Int) < 1) = False := eq_false (by omega)
      have c2 : ((1 : Int) < (n : Int)) = True := eq_true (by omega)
      go_enter Tryz.func169, Tryz.ntmps169
      go_wp2_with fail
      refine (KN1.out _).mono ?_
      rintro e w1 ⟨rfl, rfl⟩
      go_wp2
      go_ret
      exact ⟨rfl, Below.refl _ _⟩
    · rw [he]
      clear he
      have c1 : ((n : Int) < 1) = False := eq_false (by omega)
      have c2 : ((1 : Int) < (n : Int)) = False := eq_false (by omega)
      go_enter Tryz.func169, Tryz.ntmps169
      go_wp2_with fail
      refine (KN1.out _).mono ?_
      rintro e w1 ⟨rfl, rfl⟩
      go_wp2
      go_ret
      exact ⟨rfl, Below.refl _ _⟩
    · cases hb
    · cases hb

set_option maxRecDepth 100000 in
theorem rerr_none (name word : List UInt8) (n : Nat) (w : World) (hk : mlook name kindsL = none) : Calls Tryz.prog 169 #[str name, str word, .int .i64 (n : Int)] w fun e w' => e = .returned (.int .i64 5) ∧ Below w.heap.size w w' := by
  have hne : ∀ x k, (x, k) ∈ kindsL → (name == x) = false := fun x k hm => by
    rw [beq_eq_false_iff_ne]
    rintro rfl
    have : ∀ {l : List (List UInt8 × Kd)}, (name, k) ∈ l → mlook name l ≠ none := by
      intro l
      induction l with
      | nil => intro h; cases h
      | cons p l ih =>
        intro h
        unfold mlook
        split
        · intro h'; cases h'
        · rename_i hp
          rcases List.mem_cons.1 h with h | h
          · exact absurd (congrArg Prod.fst h).symm hp
          · exact ih h
    exact this hm hk
  have n0 : (name == [119, 114, 105, 116, 101]) = false := hne _ ⟨0, 0, 224, 225⟩ (by unfold kindsL; simp)
  have n1 : (name == [106, 111, 105, 110]) = false := hne _ ⟨1, 8, 224, 226⟩ (by unfold kindsL; simp)
  have n2 : (name == [117, 112, 112, 101, 114]) = false := hne _ ⟨1, 1, 227, 228⟩ (by unfold kindsL; simp)
  have n3 : (name == [108, 105, 110, 101, 115]) = false := hne _ ⟨1, 1, 224, 229⟩ (by unfold kindsL; simp)
  have n4 : (name == [115, 111, 114, 116]) = false := hne _ ⟨1, 8, 230, 231⟩ (by unfold kindsL; simp)
  have n5 : (name == [99, 111, 117, 110, 116]) = false := hne _ ⟨1, 8, 227, 232⟩ (by unfold kindsL; simp)
  have n6 : (name == [115, 119, 97, 112]) = false := hne _ ⟨1, 1, 233, 234⟩ (by unfold kindsL; simp)
  have n7 : (name == [104, 101, 97, 100]) = false := hne _ ⟨1, 1, 235, 236⟩ (by unfold kindsL; simp)
  clear hne hk
  go_enter Tryz.func169, Tryz.ntmps169
  go_wp2
  go_ret
  exact ⟨rfl, Below.refl _ _⟩

/-- ActError of any command. -/
theorem rerr_any (name word : List UInt8) (n : Nat) (w : World) (hn : n ≤ 1000000) (hwl : word.length ≤ 100000) : Calls Tryz.prog 169 #[str name, str word, .int .i64 (n : Int)] w fun e w' => e = .returned (.int .i64 (actErr name word n : Nat)) ∧ Below w.heap.size w w' := by
  cases hk : mlook name kindsL with
  | none =>
    have : actErr name word n = 5 := by unfold actErr; rw [hk]
    rw [this]
    exact rerr_none name word n w hk
  | some k =>
    have hm := mlook_mem hk
    unfold kindsL at hm
    simp only [List.mem_cons, Prod.mk.injEq, List.not_mem_nil, or_false] at hm
    rcases hm with ⟨rfl, -⟩ | ⟨rfl, -⟩ | ⟨rfl, -⟩ | ⟨rfl, -⟩ | ⟨rfl, -⟩ | ⟨rfl, -⟩ | ⟨rfl, -⟩ | ⟨rfl, -⟩
    · exact rerr_write word n w hn hwl
    · exact rerr_join word n w hn hwl
    · exact rerr_upper word n w hn hwl
    · exact rerr_lines word n w hn hwl
    · exact rerr_sort word n w hn hwl
    · exact rerr_count word n w hn hwl
    · exact rerr_swap word n w hn hwl
    · exact rerr_head word n w hn hwl
end Go.Proofs.YtgjialbmlhbngaaGreatDoor

namespace Go.Proofs.YtgjialbmlhbngaaGreatDoor
open Go Go.RowKit Go.Kf Go.Sort Go.Proofs

theorem idxL_lt {l : List (List UInt8)} {i : Nat} (hi : i < l.length) : (idxL l[i] l < (i : Int)) ↔ l[i] ∈ l.take i := by
  have h0 : l.findIdx (· == l[i]) < l.length := List.findIdx_lt_length.2 ⟨l[i], List.getElem_mem hi, by simp⟩
  unfold idxL
  rw [if_pos h0]
  constructor
  · intro h
    have h1 : l.findIdx (· == l[i]) < i := by omega
    have h2 := List.findIdx_getElem (p := (· == l[i])) (xs := l) (w := h0)
    have h3 : l[l.findIdx (· == l[i])] = l[i] := by simpa using h2
    exact List.mem_iff_getElem.2 ⟨l.findIdx (· == l[i]), by rw [List.length_take]; omega, by rw [List.getElem_take]; exact h3⟩
  · intro h
    obtain ⟨j, hj, e⟩ := List.mem_iff_getElem.1 h
    rw [List.length_take] at hj
    rw [List.getElem_take] at e
    have h1 : l.findIdx (· == l[i]) ≤ j := by
      refine Nat.le_of_not_lt (fun hlt => ?_)
      have := List.not_of_lt_findIdx (p := (· == l[i])) hlt
      simp [e] at this
    omega

set_option maxRecDepth 100000 in
set_option maxHeartbeats 2000000 in
theorem rruleErr_any (r : RuleL) (v : Value) (w : World) (hr : Reads w v (r.ins.map str)) (hlo : r.out.length ≤ 1000000) (hlw : r.word.length ≤ 100000) (hli : ∀ s ∈ r.ins, s.length ≤ 1000000) (hn : r.ins.length ≤ 1000) :
    Calls Tryz.prog 156 #[.agg #[str r.out, str r.kind, str r.word, v]] w fun e w' => e = .returned (.int .i64 (ruleErr r : Nat)) ∧ Below w.heap.size w w' := by
  obtain ⟨out, kind, word, ins⟩ := r
  simp only at hr hlo hlw hli hn
  obtain ⟨a, c, hv, -, -⟩ := id hr
  rw [List.length_map] at hv
  subst hv
  obtain ⟨W0, hW0⟩ : ∃ W, w.alloc (.cells #[str out, str kind, str word, .slice a ins.length c] 35) = W := ⟨_, rfl⟩
  have hA : Below w.heap.size w W0 := hW0 ▸ (Below.refl _ w).alloc (Nat.le_refl _) _
  have hcl : ∀ k, W0.cell? ⟨w.heap.size, k, none⟩ = (#[str out, str kind, str word, .slice a ins.length c] : Array Value)[k]? := fun k => by
    rw [← hW0, cell_of_heap (heap_alloc_here w _)]
  have hlt0 : w.heap.size < W0.heap.size := by rw [← hW0]; simp
  have keep : ∀ (w1 : World), Below W0.heap.size W0 w1 → w1.cell? ⟨w.heap.size, 0, none⟩ = some (str out) ∧ w1.cell? ⟨w.heap.size, 1, none⟩ = some (str kind) ∧ w1.cell? ⟨w.heap.size, 2, none⟩ = some (str word) ∧ w1.cell? ⟨w.heap.size, 3, none⟩ = some (.slice a ins.length c) := fun w1 hb =>
    ⟨(hb.cell (p := ⟨w.heap.size, 0, none⟩) hlt0).trans (hcl 0), (hb.cell (p := ⟨w.heap.size, 1, none⟩) hlt0).trans (hcl 1), (hb.cell (p := ⟨w.heap.size, 2, none⟩) hlt0).trans (hcl 2), (hb.cell (p := ⟨w.heap.size, 3, none⟩) hlt0).trans (hcl 3)⟩
  have KEEP := Lib.hid keep
  obtain ⟨hk0, hk1, hk2, hk3⟩ := keep W0 (Below.refl _ _)
  have HR := Lib.hid (hr.below0 hA)
  have HA := Lib.hid hA
  have HLI := Lib.hid hli
  have KP := Lib.hid (fun s w1 (hs : s.length ≤ 1000000) => isPath_any s w1 hs)
  have K1 := KP.out out W0 hlo
  clear hr hA hcl keep hli
  cases hpo : isPathB out with
  | false =>
    have HF : Hid (ruleErr ⟨out, kind, word, ins⟩ = 4) := Lib.hid (ruleErr_out hpo)
    rw [hpo] at K1
    have K2 := Lib.hid K1
    clear K1 hpo
    go_enter Tryz.func156, Tryz.ntmps156
    go_wp2_with fail
    refine K2.out.mono ?_
    rintro e w1 ⟨rfl, hb1⟩
    have HB1 := Lib.hid (HA.out.trans (hb1.mono HA.out.size))
    clear hb1 hk0 hk1 hk2 hk3
    go_wp2
    go_ret
    exact ⟨by rw [HF.out]; rfl, HB1.out⟩
  | true =>
    rw [hpo] at K1
    have K2 := Lib.hid K1
    have HPO := Lib.hid hpo
    clear K1 hpo
    have KA := Lib.hid (fun w1 => rerr_any kind word ins.length w1 (by omega) hlw)
    cases hac : actErr kind word ins.length with
    | succ m =>
      rw [hac] at KA
      have HF : Hid (ruleErr ⟨out, kind, word, ins⟩ = m + 1) := Lib.hid (ruleErr_act HPO.out hac)
      have hmp : ((0 : Int) < ((m + 1 : Nat) : Int)) = True := eq_true (by omega)
      have hmp2 : ((0 : Int) < (m : Int) + 1) = True := eq_true (by omega)
      clear hac
      go_enter Tryz.func156, Tryz.ntmps156
      go_wp2_with fail
      refine K2.out.mono ?_
      rintro e w1 ⟨rfl, hb1⟩
      clear hk0 hk1 hk2 hk3
      obtain ⟨hk0, hk1, hk2, hk3⟩ := KEEP.out _ hb1
      have HB1 := Lib.hid hb1
      clear hb1
      go_wp2_with fail
      refine (KA.out w1).mono ?_
      rintro e w2 ⟨rfl, hb2⟩
      have HB2 := Lib.hid (HA.out.trans ((HB1.out.trans (hb2.mono HB1.out.size)).mono HA.out.size))
      clear hb2 hk0 hk1 hk2 hk3
      go_wp2
      go_ret
      exact ⟨by rw [HF.out]; rfl, HB2.out⟩
    | zero =>
      rw [hac] at KA
      have HAC := Lib.hid hac
      clear hac
      go_enter Tryz.func156, Tryz.ntmps156
      go_wp2_with fail
      refine K2.out.mono ?_
      rintro e w1 ⟨rfl, hb1⟩
      clear hk0 hk1 hk2 hk3
      obtain ⟨hk0, hk1, hk2, hk3⟩ := KEEP.out _ hb1
      have HB1 := Lib.hid hb1
      clear hb1
      go_wp2_with fail
      refine (KA.out w1).mono ?_
      rintro e w2 ⟨rfl, hb2⟩
      have hb02 := HB1.out.trans (hb2.mono HB1.out.size)
      have HB2 := Lib.hid hb02
      clear hb2 hk0 hk1 hk2 hk3
      obtain ⟨hk0, hk1, hk2, hk3⟩ := KEEP.out _ hb02
      clear hb02
      go_wp2_with fail
      go_loopw [5] (fun iv wl => ∃ i : Nat, i ≤ ins.length ∧ iv = .int .i64 i ∧ (∀ s ∈ ins.take i, isPathB s = true) ∧ Below W0.heap.size W0 wl) (fun iv _ => ins.length - (intOf iv).toNat)
      case atStart => exact ⟨0, by omega, rfl, fun s hs => by simp at hs, HB2.out⟩
      case round =>
        obtain ⟨i, hi, rfl, hall, hbi⟩ := hrel
        have HAL := Lib.hid hall
        have HBi := Lib.hid hbi
        clear hall hk0 hk1 hk2 hk3
        obtain ⟨hk0, hk1, hk2, hk3⟩ := KEEP.out _ hbi
        clear hbi
        by_cases hlt : i < ins.length
        · have hlc : ((i : Int) < (ins.length : Int)) = True := eq_true (by omega)
          obtain ⟨b, o, hix, hce⟩ := (HR.out.below0 HBi.out).at (P := Tryz.prog) Tryz.underlying33 (by kernel_rfl) i (by simpa using hlt)
          simp only [List.getElem_map] at hce
          have hsl := HLI.out ins[i] (List.getElem_mem _)
          have KPi := KP.out ins[i] wr hsl
          cases hps : isPathB ins[i] with
          | false =>
            rw [hps] at KPi
            have HF : Hid (ruleErr ⟨out, kind, word, ins⟩ = 4) := Lib.hid (ruleErr_in HPO.out HAC.out (List.getElem_mem hlt) hps)
            generalize ins[i] = s at *
            have KP2 := Lib.hid KPi
            clear KPi hps
            go_wp2_with fail
            refine KP2.out.mono ?_
            rintro e w3 ⟨rfl, hb3⟩
            have HB3 := Lib.hid (HA.out.trans ((HBi.out.trans (hb3.mono HBi.out.size)).mono HA.out.size))
            clear hb3 hk0 hk1 hk2 hk3
            go_wp2
            go_ret
            exact ⟨by rw [HF.out]; rfl, HB3.out⟩
          | true =>
            rw [hps] at KPi
            have HAN : Hid (∀ s ∈ ins.take (i + 1), isPathB s = true) := Lib.hid (fun s hs => by
              rw [List.take_succ_eq_append_getElem hlt] at hs
              rcases List.mem_append.1 hs with hs | hs
              · exact HAL.out s hs
              · rw [List.mem_singleton.1 hs]; exact hps)
            generalize ins[i] = s at *
            have KP2 := Lib.hid KPi
            clear KPi hps
            go_wp2_with fail
            refine KP2.out.mono ?_
            rintro e w3 ⟨rfl, hb3⟩
            have HB3 := Lib.hid (HBi.out.trans (hb3.mono HBi.out.size))
            clear hb3 hk0 hk1 hk2 hk3
            go_wp2
            go_roundw
            case rel => exact ⟨i + 1, by omega, by go_num, HAN.out, HB3.out⟩
            case measure => simp [intOf]; omega
        · obtain rfl : i = ins.length := by omega
          have hlc : ((ins.length : Int) < (ins.length : Int)) = False := eq_false (by omega)
          have HALL : Hid (∀ s ∈ ins, isPathB s = true) := Lib.hid (by have := HAL.out; rw [List.take_length] at this; exact this)
          go_wp2_with fail
          go_loopw [7] (fun iv wl => ∃ i : Nat, i ≤ ins.length ∧ iv = .int .i64 i ∧ (∀ j (hj : j < ins.length), j < i → ins[j] ≠ out ∧ ins[j] ∉ ins.take j) ∧ Below W0.heap.size W0 wl) (fun iv _ => ins.length - (intOf iv).toNat)
          case atStart => exact ⟨0, by omega, rfl, fun j hj h => by omega, HBi.out⟩
          case round =>
            obtain ⟨i, hi, rfl, hno, hbk⟩ := hrel
            have HNO := Lib.hid hno
            have HBk := Lib.hid hbk
            clear hno hk0 hk1 hk2 hk3
            obtain ⟨hk0, hk1, hk2, hk3⟩ := KEEP.out _ hbk
            clear hbk
            by_cases hlt : i < ins.length
            · have hlc2 : ((i : Int) < (ins.length : Int)) = True := eq_true (by omega)
              have hrd := HR.out.below0 HBk.out
              obtain ⟨b, o, hix, hce⟩ := hrd.at (P := Tryz.prog) Tryz.underlying33 (by kernel_rfl) i (by simpa using hlt)
              simp only [List.getElem_map] at hce
              have K : Hid (∀ n, Calls Tryz.prog 64 #[.slice a ins.length c, str ins[i]] (wr.drewN n) fun e w' => e = .returned (.int .i64 (idxL ins[i] ins)) ∧ w' = wr.drewN n) := Lib.hid (fun n =>
                (rindex_any ins[i] ins _ (wr.drewN n) (hrd.below0 (below_drewN (Below.refl _ _) n))).mono fun _ _ ⟨h1, h2⟩ => ⟨h1, h2.symm⟩)
              by_cases hout : ins[i] = out
              · have HF : Hid (ruleErr ⟨out, kind, word, ins⟩ = 7) := Lib.hid (ruleErr_dup HPO.out HAC.out HALL.out hlt (Or.inl hout))
                rw [hout] at hce
                clear hout hrd K
                go_wp2_with fail
                go_quiet (fail)
                go_wp2
                go_ret
                exact ⟨by rw [HF.out]; rfl, HA.out.trans ((below_drewN HBk.out _).mono HA.out.size)⟩
              · have hd : (ins[i] == out) = false := by simpa using hout
                by_cases hin : ins[i] ∈ ins.take i
                · have HF : Hid (ruleErr ⟨out, kind, word, ins⟩ = 7) := Lib.hid (ruleErr_dup HPO.out HAC.out HALL.out hlt (Or.inr hin))
                  have hz := eq_true ((idxL_lt hlt).2 hin)
                  clear hrd hin hout
                  generalize idxL ins[i] ins = z at *
                  generalize ins[i] = s at *
                  go_wp2_with fail
                  go_quiet ((go_at_call 64; exact Calls.quiet_of_same (K.out _)))
                  go_wp2
                  go_ret
                  exact ⟨by rw [HF.out]; rfl, HA.out.trans ((below_drewN HBk.out _).mono HA.out.size)⟩
                · have HNN : Hid (∀ j (hj : j < ins.length), j < i + 1 → ins[j] ≠ out ∧ ins[j] ∉ ins.take j) := Lib.hid (fun j hj h => by
                    by_cases hji : j = i
                    · subst hji; exact ⟨hout, hin⟩
                    · exact HNO.out j hj (by omega))
                  have hz := eq_false (fun h => hin ((idxL_lt hlt).1 h))
                  clear hrd hin hout
                  generalize idxL ins[i] ins = z at *
                  generalize ins[i] = s at *
                  go_wp2_with fail
                  go_quiet ((go_at_call 64; exact Calls.quiet_of_same (K.out _)))
                  go_wp2
                  go_roundw
                  case rel => exact ⟨i + 1, by omega, by go_num, HNN.out, below_drewN HBk.out _⟩
                  case measure => simp [intOf]; omega
            · obtain rfl : i = ins.length := by omega
              have hlc2 : ((ins.length : Int) < (ins.length : Int)) = False := eq_false (by omega)
              have HF : Hid (ruleErr ⟨out, kind, word, ins⟩ = 0) := Lib.hid (ruleErr_ok HPO.out HAC.out HALL.out (fun j hj => HNO.out j hj hj))
              go_wp2
              go_ret
              exact ⟨by rw [HF.out]; rfl, HA.out.trans (HBk.out.mono HA.out.size)⟩

/-- The error of a rule, with those up to k ahead. -/
def errTo (l : List RuleL) (r : RuleL) (k : Nat) : Nat := if ruleErr r ≠ 0 then ruleErr r else if r.out ∈ (l.take k).map RuleL.out then 7 else 0
theorem errTo_zero (l : List RuleL) (r : RuleL) : errTo l r 0 = ruleErr r := by
  unfold errTo
  by_cases h : ruleErr r = 0
  · simp [h]
  · rw [if_pos h]
theorem errTo_succ {l : List RuleL} {r q : RuleL} {k : Nat} (h : errTo l r k = 0) (hq : l[k]? = some q) : errTo l r (k + 1) = if (q.out == r.out) = true then 7 else 0 := by
  have h0 : ruleErr r = 0 := Classical.byContradiction (fun hne => by unfold errTo at h; rw [if_pos hne] at h; exact hne h)
  have hn : r.out ∉ (l.take k).map RuleL.out := fun hm => by
    unfold errTo at h
    rw [if_neg (by omega), if_pos hm] at h
    cases h
  obtain ⟨hk, rfl⟩ := List.getElem?_eq_some_iff.1 hq
  unfold errTo
  rw [if_neg (by omega), List.take_succ_eq_append_getElem hk, List.map_append]
  by_cases hb : l[k].out = r.out
  · rw [if_pos (by simp [hb]), if_pos (by simpa using hb)]
  · rw [if_neg, if_neg (by simpa using hb)]
    intro hm
    rcases List.mem_append.1 hm with hm | hm
    · exact hn hm
    · exact hb (List.mem_singleton.1 hm).symm
theorem errTo_stop {l : List RuleL} {r : RuleL} {k i : Nat} (h : errTo l r k ≠ 0) (hk : k ≤ i) : errTo l r i = errTo l r k := by
  unfold errTo at h ⊢
  by_cases h0 : ruleErr r = 0
  · have hne : ¬ ruleErr r ≠ 0 := fun e => e h0
    rw [if_neg hne] at h
    rw [if_neg hne, if_neg hne]
    by_cases hm : r.out ∈ (l.take k).map RuleL.out
    · have hm2 : r.out ∈ (l.take i).map RuleL.out := by
        obtain ⟨q, hq, e⟩ := List.mem_map.1 hm
        exact List.mem_map.2 ⟨q, (List.take_subset_take_left l hk) hq, e⟩
      rw [if_pos hm, if_pos hm2]
    · rw [if_neg hm] at h
      exact absurd rfl h
  · rw [if_pos h0, if_pos h0]
/-- A sheet's fault, as the reference tells it. -/
def FaultIs (l : List RuleL) (c : Nat) (at' : Int) : Prop :=
  (l.length ≤ 40 ∧ (∀ i r, l[i]? = some r → errAt l i r = 0) ∧ c = 0 ∧ at' = -1) ∨
  (40 < l.length ∧ c = 2 ∧ at' = -1) ∨
  (l.length ≤ 40 ∧ ∃ i r m, (∀ j q, j < i → l[j]? = some q → errAt l j q = 0) ∧ l[i]? = some r ∧ errAt l i r = m + 1 ∧ c = m + 1 ∧ at' = (i : Int))
abbrev faultV (c : Nat) (at' : Int) : Value := .agg #[.int .i64 (c : Int), .int .i64 at']

theorem fault_size : (Tryz.prog.info? 71).map (·.size) = some 2 := by kernel_rfl
theorem fault_ret {fn : Func} {p : Tmp} (h : fn.results = #[.cell p 71]) (tmps : Array Value) (w : World) (g : Nat) (c z : Value)
    (hp : tmps.getD p undef = .pointer (some ⟨g, 0, none⟩)) (hg : w.heap[g]? = some (.cells #[c, z] 71 (0, 0))) : (results fn tmps).run Tryz.prog w = .ok (.agg #[c, z]) w :=
  results_cell_row h tmps w g _ _ _ _ hp hg Tryz.underlying71 rfl fault_size
theorem two_free {w : World} {g : Nat} {a b : Value} {t : TypeId} (h : w.heap[g]? = some (.cells #[a, b] t (0, 0))) : (∀ k, w.cell? ⟨g, k, none⟩ = (#[a, b] : Array Value)[k]?) ∧ w.frozen? ⟨g, 0, none⟩ = false ∧ w.frozen? ⟨g, 1, none⟩ = false :=
  ⟨fun k => cell_of_heap h k, free_of_heap h 0, free_of_heap h 1⟩
theorem two_put {w : World} {g : Nat} {a b : Value} {t : TypeId} (h : w.heap[g]? = some (.cells #[a, b] t (0, 0))) (c d : Value) : ((w.setCell ⟨g, 0, none⟩ c).setCell ⟨g, 1, none⟩ d).heap[g]? = some (.cells #[c, d] t (0, 0)) :=
  (Kf.heap_setCell_same (Kf.heap_setCell_same h c) d).trans rfl
theorem bare_any (c : Nat) (w : World) : Calls Tryz.prog 90 #[.int .i64 (c : Int)] w fun e w' => e = .returned (faultV c (-1)) ∧ Below w.heap.size w w' := by
  go_enter Tryz.func90, Tryz.ntmps90
  go_wp2
  refine bodyPost_ret (fault_ret rfl _ _ w.heap.size _ _ rfl (heap_alloc_here w _)) rfl ?_
  exact ⟨rfl, (Below.refl _ w).alloc (Nat.le_refl _) _⟩
theorem fine_any (w : World) : Calls Tryz.prog 157 #[] w fun e w' => e = .returned (faultV 0 (-1)) ∧ Below w.heap.size w w' := by
  go_enter Tryz.func157, Tryz.ntmps157
  go_wp2
  refine bodyPost_ret (fault_ret rfl _ _ w.heap.size _ _ rfl (heap_alloc_here w _)) rfl ?_
  exact ⟨rfl, (Below.refl _ w).alloc (Nat.le_refl _) _⟩

set_option maxRecDepth 100000 in
set_option maxHeartbeats 2000000 in
theorem sheetFault_any (R : List RV) (v : Value) (w : World) (hr : ReadsK 4 w v (R.map rvRow)) (hx : ∀ x ∈ R, Reads w x.2 (x.1.ins.map str))
    (hb : ∀ x ∈ R, x.1.out.length ≤ 1000000 ∧ x.1.word.length ≤ 100000 ∧ (∀ s ∈ x.1.ins, s.length ≤ 1000000) ∧ x.1.ins.length ≤ 1000) :
    Calls Tryz.prog 87 #[v] w fun e w' => (∃ c p, FaultIs (R.map Prod.fst) c p ∧ e = .returned (faultV c p)) ∧ Below w.heap.size w w' := by
  have hrow : ∀ r ∈ R.map rvRow, r ≠ [] := fun r hr => by obtain ⟨x, -, rfl⟩ := List.mem_map.1 hr; simp [rvRow]
  obtain ⟨a, c, hv, -, -⟩ := id hr
  rw [List.length_map] at hv
  subst hv
  have hml : (R.map Prod.fst).length = R.length := List.length_map _
  obtain ⟨W0, hW0⟩ : ∃ W, w.alloc (.cells #[.int .i64 0, .int .i64 0] 71) = W := ⟨_, rfl⟩
  have hA0 : Below w.heap.size w W0 := hW0 ▸ (Below.refl _ w).alloc (Nat.le_refl _) _
  have hz0 : w.heap.size < W0.heap.size := by rw [← hW0]; simp
  have hg0 : W0.heap[w.heap.size]? = some (.cells #[.int .i64 0, .int .i64 0] 71 (0, 0)) := hW0 ▸ heap_alloc_here w _
  have HRES : Hid (∀ wl, Below W0.heap.size W0 wl → wl.heap[w.heap.size]? = some (.cells #[.int .i64 0, .int .i64 0] 71 (0, 0))) := Lib.hid (fun wl hb => (hb.block _ hz0).trans hg0)
  have HW : Hid (∀ wl, Below W0.heap.size W0 wl → Below w.heap.size w wl) := Lib.hid (fun wl hb => hA0.trans (hb.mono (Nat.le_of_lt hz0)))
  by_cases h40 : R.length ≤ 40
  case neg =>
    have hd : ((40 : Int) < (R.length : Int)) = True := eq_true (by omega)
    have HF : Hid (FaultIs (R.map Prod.fst) 2 (-1)) := Lib.hid (Or.inr (Or.inl ⟨by omega, rfl, rfl⟩))
    have KB : Hid (Calls Tryz.prog 90 #[.int .i64 2] W0 fun e w' => e = .returned (faultV 2 (-1)) ∧ Below W0.heap.size W0 w') := Lib.hid (bare_any 2 W0)
    clear hr hx hb hml hA0 hg0
    go_enter Tryz.func87, Tryz.ntmps87
    go_wp2_with fail
    refine KB.out.mono ?_
    rintro e w1 ⟨rfl, hb1⟩
    have hres := HRES.out _ hb1
    have HB1 := Lib.hid (HW.out _ hb1)
    clear hb1
    obtain ⟨hcs, hf0, hf1⟩ := two_free hres
    have HRS := Lib.hid hres
    clear hres
    go_wp2
    refine bodyPost_ret (fault_ret rfl _ _ w.heap.size _ _ rfl (two_put HRS.out _ _)) rfl ?_
    exact ⟨⟨_, _, HF.out, rfl⟩, ((HB1.out).setCell (p := ⟨w.heap.size, 0, none⟩) (Nat.le_refl _) _).setCell (p := ⟨w.heap.size, 1, none⟩) (Nat.le_refl _) _⟩
  case pos =>
    have hd : ((40 : Int) < (R.length : Int)) = False := eq_false (by omega)
    have HRK := Lib.hid (fun wl (hb : Below W0.heap.size W0 wl) => readsK_below0 hr hrow (HW.out _ hb))
    have KR := Lib.hid (fun wl (hbl : Below W0.heap.size W0 wl) x (h : x ∈ R) => rruleErr_any x.1 x.2 wl ((hx x h).below0 (HW.out _ hbl)) (hb x h).1 (hb x h).2.1 (hb x h).2.2.1 (hb x h).2.2.2)
    obtain ⟨L, hL⟩ : ∃ L, R.map Prod.fst = L := ⟨_, rfl⟩
    have hLR : ∀ i (h : i < R.length), L[i]? = some R[i].1 := fun i h => by rw [← hL, List.getElem?_map, List.getElem?_eq_getElem h]; rfl
    rw [hL] at hml ⊢
    have HLR := Lib.hid hLR
    have HML := Lib.hid hml
    clear hr hx hb hml hL hLR hrow hA0 hg0
    go_enter Tryz.func87, Tryz.ntmps87
    go_wp2_with fail
    go_loopw [3] (fun iv wl => ∃ i : Nat, i ≤ R.length ∧ iv = .int .i64 i ∧ (∀ j q, j < i → L[j]? = some q → errAt L j q = 0) ∧ Below W0.heap.size W0 wl) (fun iv _ => R.length - (intOf iv).toNat)
    case atStart => exact ⟨0, by omega, rfl, fun j q h _ => by omega, Below.refl _ _⟩
    case round =>
      obtain ⟨i, hi, rfl, hno, hbi⟩ := hrel
      have HNO := Lib.hid hno
      have HBi := Lib.hid hbi
      clear hno
      by_cases hlt : i < R.length
      · have hlc : ((i : Int) < (R.length : Int)) = True := eq_true (by omega)
        obtain ⟨b, o, hix, -, hce⟩ := (HRK.out _ hbi).at (P := Tryz.prog) Tryz.underlying22 (by kernel_rfl) i (by simpa using hlt)
        simp only [List.getElem_map] at hce
        have hc0 := hce 0 _ rfl
        have hc1 := hce 1 _ rfl
        have hc2 := hce 2 _ rfl
        have hc3 := hce 3 _ rfl
        simp only [Nat.add_zero] at hc0
        have KRi := Lib.hid (KR.out _ hbi _ (List.getElem_mem hlt))
        have HCI : Hid (∀ wl, Below W0.heap.size W0 wl → ∃ b o, (∀ w', (Instr.indexAt 22 (.slice a R.length c) (.int .i64 (i : Int))).run Tryz.prog w' = .ok (.pointer (some ⟨b, o, none⟩)) w') ∧ wl.cell? ⟨b, o, none⟩ = some (str R[i].1.out)) := Lib.hid (fun wl hb => by
          obtain ⟨b, o, h1, -, h2⟩ := (HRK.out _ hb).at (P := Tryz.prog) Tryz.underlying22 (by kernel_rfl) i (by simpa using hlt)
          simp only [List.getElem_map] at h2
          have h3 := h2 0 _ rfl
          simp only [Nat.add_zero] at h3
          exact ⟨b, o, h1, h3⟩)
        have HG := Lib.hid (HLR.out i hlt)
        clear hce hbi
        generalize R[i] = x at *
        obtain ⟨r, u⟩ := x
        simp only at hc0 hc1 hc2 hc3 KRi HG HCI
        have HEA : Hid (errAt L i r = errTo L r i) := Lib.hid rfl
        have HNX : Hid (errTo L r i = 0 → ∀ j q, j < i + 1 → L[j]? = some q → errAt L j q = 0) := Lib.hid (fun h0 j q h hq => by
          by_cases hji : j = i
          · subst hji
            rw [HG.out] at hq
            obtain rfl := Option.some.inj hq
            exact h0
          · exact HNO.out j q (by omega) hq)
        have HFI : Hid (∀ m, errTo L r i = m + 1 → FaultIs L (m + 1) (i : Int)) := Lib.hid (fun m h0 => Or.inr (Or.inr ⟨by rw [HML.out]; exact h40, i, r, m, HNO.out, HG.out, h0, rfl, rfl⟩))
        go_wp2_with fail
        refine KRi.out.mono ?_
        rintro e w3 ⟨rfl, hb3⟩
        have HB3 := Lib.hid (HBi.out.trans (hb3.mono HBi.out.size))
        have HE0 : Hid (ruleErr r = errTo L r 0) := Lib.hid (errTo_zero L r).symm
        clear hb3 hc0 hc1 hc2 hc3 hix
        rw [HE0.out]
        go_wp2_with fail
        go_loopw [4, 5] (fun ev kv wl => ∃ k : Nat, k ≤ i ∧ kv = .int .i64 k ∧ ev = .int .i64 (errTo L r k : Nat) ∧ Below W0.heap.size W0 wl) (fun _ kv _ => i - (intOf kv).toNat)
        case atStart => exact ⟨0, by omega, rfl, rfl, HB3.out⟩
        case round =>
          obtain ⟨k, hk, rfl, rfl, hbk⟩ := hrel
          have HBK := Lib.hid hbk
          cases hq : errTo L r k with
          | succ m =>
            have HFF : Hid (FaultIs L (m + 1) (i : Int)) := Lib.hid (HFI.out m ((errTo_stop (by omega) hk).trans hq))
            have hm1 : (((m + 1 : Nat) : Int) == 0) = false := by simp; omega
            have hm2 : ((0 : Int) < ((m + 1 : Nat) : Int)) = True := eq_true (by omega)
            have hm3 : ((m : Int) + 1 == 0) = false := by simp; omega
            have hm4 : ((0 : Int) < (m : Int) + 1) = True := eq_true (by omega)
            clear hbk hq
            by_cases hlk : k < i
            · have hlc2 : ((k : Int) < (i : Int)) = True := eq_true (by omega)
              have hres := HRES.out _ HBK.out
              obtain ⟨hcs, hf0, hf1⟩ := two_free hres
              have HRS := Lib.hid hres
              clear hres
              go_wp2
              refine bodyPost_ret (fault_ret rfl _ _ w.heap.size _ _ rfl (two_put HRS.out _ _)) rfl ?_
              exact ⟨⟨_, _, HFF.out, rfl⟩, (((HW.out _ HBK.out)).setCell (p := ⟨w.heap.size, 0, none⟩) (Nat.le_refl _) _).setCell (p := ⟨w.heap.size, 1, none⟩) (Nat.le_refl _) _⟩
            · obtain rfl : k = i := by omega
              have hlc2 : ((k : Int) < (k : Int)) = False := eq_false (by omega)
              have hres := HRES.out _ HBK.out
              obtain ⟨hcs, hf0, hf1⟩ := two_free hres
              have HRS := Lib.hid hres
              clear hres
              go_wp2
              refine bodyPost_ret (fault_ret rfl _ _ w.heap.size _ _ rfl (two_put HRS.out _ _)) rfl ?_
              exact ⟨⟨_, _, HFF.out, rfl⟩, (((HW.out _ HBK.out)).setCell (p := ⟨w.heap.size, 0, none⟩) (Nat.le_refl _) _).setCell (p := ⟨w.heap.size, 1, none⟩) (Nat.le_refl _) _⟩
          | zero =>
            by_cases hlk : k < i
            · have hlc2 : ((k : Int) < (i : Int)) = True := eq_true (by omega)
              have hkR : k < R.length := by omega
              obtain ⟨b2, o2, hix2, hc2⟩ := HCI.out _ hbk
              obtain ⟨b1, o1, hix1, -, hce⟩ := (HRK.out _ hbk).at (P := Tryz.prog) Tryz.underlying22 (by kernel_rfl) k (by simpa using hkR)
              simp only [List.getElem_map] at hce
              have hc1 := hce 0 _ rfl
              simp only [Nat.add_zero] at hc1
              have hsc := errTo_succ hq (HLR.out k hkR)
              clear hce hbk hq
              generalize R[k] = y at *
              obtain ⟨q, uq⟩ := y
              simp only at hc1 hsc
              cases hb : q.out == r.out with
              | true =>
                rw [hb] at hsc
                have HSC : Hid (errTo L r (k + 1) = 7) := Lib.hid hsc
                clear hsc
                go_wp2_with fail
                go_quiet (fail)
                go_wp2
                go_roundw
                case rel => exact ⟨k + 1, by omega, by go_num, by rw [HSC.out]; rfl, below_drewN HBK.out _⟩
                case measure => simp [intOf]; omega
              | false =>
                rw [hb] at hsc
                have HSC : Hid (errTo L r (k + 1) = 0) := Lib.hid hsc
                clear hsc
                go_wp2_with fail
                go_quiet (fail)
                go_wp2
                go_roundw
                case rel => exact ⟨k + 1, by omega, by go_num, by rw [HSC.out], below_drewN HBK.out _⟩
                case measure => simp [intOf]; omega
            · obtain rfl : k = i := by omega
              have hlc2 : ((k : Int) < (k : Int)) = False := eq_false (by omega)
              have HNN := Lib.hid (HNX.out hq)
              clear hbk hq
              go_wp2
              go_roundw
              case rel => exact ⟨k + 1, by omega, by go_num, HNN.out, HBK.out⟩
              case measure => simp [intOf]; omega
      · obtain rfl : i = R.length := by omega
        have hlc : ((R.length : Int) < (R.length : Int)) = False := eq_false (by omega)
        have HF : Hid (FaultIs L 0 (-1)) := Lib.hid (Or.inl ⟨by rw [HML.out]; exact h40, fun i r h => HNO.out i r (by have := (List.getElem?_eq_some_iff.1 h).1; rw [HML.out] at this; exact this) h, rfl, rfl⟩)
        have KF := Lib.hid (fine_any wr)
        have HZ := Lib.hid hbi.size
        clear hbi
        go_wp2_with fail
        refine KF.out.mono ?_
        rintro e w1 ⟨rfl, hb1⟩
        have HB1 := Lib.hid (HBi.out.trans (hb1.mono HZ.out))
        clear hb1
        have hres := HRES.out _ HB1.out
        obtain ⟨hcs, hf0, hf1⟩ := two_free hres
        have HRS := Lib.hid hres
        clear hres
        go_wp2
        refine bodyPost_ret (fault_ret rfl _ _ w.heap.size _ _ rfl (two_put HRS.out _ _)) rfl ?_
        exact ⟨⟨_, _, HF.out, rfl⟩, (((HW.out _ HB1.out)).setCell (p := ⟨w.heap.size, 0, none⟩) (Nat.le_refl _) _).setCell (p := ⟨w.heap.size, 1, none⟩) (Nat.le_refl _) _⟩
end Go.Proofs.YtgjialbmlhbngaaGreatDoor
