/-
  The reference's ActError of any command.
-/
import Derived.Test.YtmlmogllgnfklaaGreatDoorMadeC
namespace Go.Proofs.YtmlmogllgnfklaaGreatDoor
open Go Go.RowKit Go.Kf Go.Sort Go.Proofs

theorem aerr_cases {name : List UInt8} {k : Kd} (word : List UInt8) (n : Nat) (hk : mlook name kindsL = some k) :
    ((n : Int) < k.least ∧ actErr name word n = 3) ∨ (k.least ≤ (n : Int) ∧ k.most < (n : Int) ∧ actErr name word n = 3) ∨ (k.least ≤ (n : Int) ∧ (n : Int) ≤ k.most ∧ kwordB k.word word = false ∧ actErr name word n = 3) ∨
      (k.least ≤ (n : Int) ∧ (n : Int) ≤ k.most ∧ kwordB k.word word = true ∧ 100 < word.length ∧ actErr name word n = 10) ∨ (k.least ≤ (n : Int) ∧ (n : Int) ≤ k.most ∧ kwordB k.word word = true ∧ word.length ≤ 100 ∧ actErr name word n = 0) := by
  unfold actErr
  rw [hk]
  simp only
  by_cases h1 : k.least ≤ (n : Int)
  · by_cases h2 : (n : Int) ≤ k.most
    · cases hb : kwordB k.word word with
      | true =>
        by_cases h3 : 100 < word.length
        · exact Or.inr (Or.inr (Or.inr (Or.inl ⟨h1, h2, rfl, h3, by rw [if_pos ⟨h1, h2, rfl⟩, if_pos h3]⟩)))
        · exact Or.inr (Or.inr (Or.inr (Or.inr ⟨h1, h2, rfl, by omega, by rw [if_pos ⟨h1, h2, rfl⟩, if_neg h3]⟩)))
      | false => exact Or.inr (Or.inr (Or.inl ⟨h1, h2, rfl, by rw [if_neg (fun h => by cases h.2.2)]⟩))
    · exact Or.inr (Or.inl ⟨h1, by omega, by rw [if_neg (fun h => h2 h.2.1)]⟩)
  · exact Or.inl ⟨by omega, by rw [if_neg (fun h => h1 h.1)]⟩

theorem spl_count (c : UInt8) : ∀ s : List UInt8, (spl c s).length = s.count c + 1
  | [] => rfl
  | b :: s => by
    have ih := spl_count c s
    unfold spl
    by_cases hb : b = c
    · rw [if_pos hb, List.length_cons, ih, hb, List.count_cons_self]
    · rw [if_neg hb, List.count_cons_of_ne hb]
      cases hq : spl c s with
      | nil => exact absurd hq (spl_ne c s)
      | cons x r =>
        rw [hq] at ih
        exact ih
theorem pair_var (word : List UInt8) : (((word.count 61 : Nat) : Int) + 1 == 2) = false ∧ pairB word = false ∨ (((word.count 61 : Nat) : Int) + 1 == 2) = true ∧ ∃ b, (∀ h, (⟨word.toArray⟩ : ByteArray)[0]'h = b) ∧ 0 < word.length ∧ ((((b.toNat : Int) != 61) = false ∧ ((b.toNat : Int) == 61) = true ∧ pairB word = false) ∨ (((b.toNat : Int) != 61) = true ∧ ((b.toNat : Int) == 61) = false ∧ pairB word = true)) := by
  unfold pairB
  by_cases h1 : word.count 61 = 1
  · right
    refine ⟨by rw [h1]; rfl, ?_⟩
    cases word with
    | nil => simp at h1
    | cons b t =>
      refine ⟨b, fun _ => rfl, by simp, ?_⟩
      have hbb : ((b.toNat : Int) == 61) = (b == 61) := by rw [show (61 : Int) = ((61 : UInt8).toNat : Int) from rfl, Kf.u8_eq]
      have hbn : ((b.toNat : Int) != 61) = !(b == 61) := by unfold bne; rw [hbb]
      rw [h1, hbb, hbn]
      by_cases h2 : b = 61
      · left
        subst h2
        exact ⟨rfl, rfl, rfl⟩
      · right
        have hd : (b == 61) = false := by simpa using h2
        rw [hd]
        exact ⟨rfl, rfl, by simpa using h2⟩
  · left
    refine ⟨by rw [beq_eq_false_iff_ne]; omega, ?_⟩
    rw [show (word.count 61 == 1) = false by simpa using h1]
    rfl

set_option maxRecDepth 100000 in
set_option maxHeartbeats 1000000 in
theorem rerr_write (word : List UInt8) (n : Nat) (w : World) (hn : n ≤ 1000000) (hwl : word.length ≤ 100000) : Calls Tryz.prog 66 #[str [119, 114, 105, 116, 101], str word, .int .i64 (n : Int)] w fun e w' => e = .returned (.int .i64 (actErr [119, 114, 105, 116, 101] word n : Nat)) ∧ Below w.heap.size w w' := by
  have hcs := aerr_cases (name := [119, 114, 105, 116, 101]) (k := ⟨0, 0, 121, 122⟩) word n (by kernel_rfl)
  simp only at hcs
  have hb0 : kwordB 121 word = true := rfl
  rw [hb0] at hcs
  rcases hcs with ⟨h1, he⟩ | ⟨h0, h1, he⟩ | ⟨h0, h1, hb, he⟩ | ⟨h0, h1, hb, h2, he⟩ | ⟨h0, h1, hb, h2, he⟩
  · rw [he]
    clear he
    have c1 : ((n : Int) < 0) = True := eq_true (by omega)
    go_enter Tryz.func66, Tryz.ntmps66
    go_wp2
    go_ret
    exact ⟨rfl, Below.refl _ _⟩
  · rw [he]
    clear he
    have c1 : ((n : Int) < 0) = False := eq_false (by omega)
    have c2 : ((0 : Int) < (n : Int)) = True := eq_true (by omega)
    go_enter Tryz.func66, Tryz.ntmps66
    go_wp2
    go_ret
    exact ⟨rfl, Below.refl _ _⟩
  · cases hb
  · rw [he]
    clear he
    have c1 : ((n : Int) < 0) = False := eq_false (by omega)
    have c2 : ((0 : Int) < (n : Int)) = False := eq_false (by omega)
    have c3 : ((100 : Int) < (word.length : Int)) = True := eq_true (by omega)
    go_enter Tryz.func66, Tryz.ntmps66
    go_wp2
    go_ret
    exact ⟨rfl, Below.refl _ _⟩
  · rw [he]
    clear he
    have c1 : ((n : Int) < 0) = False := eq_false (by omega)
    have c2 : ((0 : Int) < (n : Int)) = False := eq_false (by omega)
    have c3 : ((100 : Int) < (word.length : Int)) = False := eq_false (by omega)
    go_enter Tryz.func66, Tryz.ntmps66
    go_wp2
    go_ret
    exact ⟨rfl, Below.refl _ _⟩

set_option maxRecDepth 100000 in
set_option maxHeartbeats 1000000 in
theorem rerr_join (word : List UInt8) (n : Nat) (w : World) (hn : n ≤ 1000000) (hwl : word.length ≤ 100000) : Calls Tryz.prog 66 #[str [106, 111, 105, 110], str word, .int .i64 (n : Int)] w fun e w' => e = .returned (.int .i64 (actErr [106, 111, 105, 110] word n : Nat)) ∧ Below w.heap.size w w' := by
  have hcs := aerr_cases (name := [106, 111, 105, 110]) (k := ⟨1, 8, 121, 123⟩) word n (by kernel_rfl)
  simp only at hcs
  have hb0 : kwordB 121 word = true := rfl
  rw [hb0] at hcs
  rcases hcs with ⟨h1, he⟩ | ⟨h0, h1, he⟩ | ⟨h0, h1, hb, he⟩ | ⟨h0, h1, hb, h2, he⟩ | ⟨h0, h1, hb, h2, he⟩
  · rw [he]
    clear he
    have c1 : ((n : Int) < 1) = True := eq_true (by omega)
    go_enter Tryz.func66, Tryz.ntmps66
    go_wp2
    go_ret
    exact ⟨rfl, Below.refl _ _⟩
  · rw [he]
    clear he
    have c1 : ((n : Int) < 1) = False := eq_false (by omega)
    have c2 : ((8 : Int) < (n : Int)) = True := eq_true (by omega)
    go_enter Tryz.func66, Tryz.ntmps66
    go_wp2
    go_ret
    exact ⟨rfl, Below.refl _ _⟩
  · cases hb
  · rw [he]
    clear he
    have c1 : ((n : Int) < 1) = False := eq_false (by omega)
    have c2 : ((8 : Int) < (n : Int)) = False := eq_false (by omega)
    have c3 : ((100 : Int) < (word.length : Int)) = True := eq_true (by omega)
    go_enter Tryz.func66, Tryz.ntmps66
    go_wp2
    go_ret
    exact ⟨rfl, Below.refl _ _⟩
  · rw [he]
    clear he
    have c1 : ((n : Int) < 1) = False := eq_false (by omega)
    have c2 : ((8 : Int) < (n : Int)) = False := eq_false (by omega)
    have c3 : ((100 : Int) < (word.length : Int)) = False := eq_false (by omega)
    go_enter Tryz.func66, Tryz.ntmps66
    go_wp2
    go_ret
    exact ⟨rfl, Below.refl _ _⟩

set_option maxRecDepth 100000 in
set_option maxHeartbeats 1000000 in
theorem rerr_upper (word : List UInt8) (n : Nat) (w : World) (hn : n ≤ 1000000) (hwl : word.length ≤ 100000) : Calls Tryz.prog 66 #[str [117, 112, 112, 101, 114], str word, .int .i64 (n : Int)] w fun e w' => e = .returned (.int .i64 (actErr [117, 112, 112, 101, 114] word n : Nat)) ∧ Below w.heap.size w w' := by
  have hcs := aerr_cases (name := [117, 112, 112, 101, 114]) (k := ⟨1, 1, 125, 126⟩) word n (by kernel_rfl)
  simp only at hcs
  have hb0 : kwordB 125 word = (word == []) := rfl
  rw [hb0] at hcs
  clear hb0
  rcases hcs with ⟨h1, he⟩ | ⟨h0, h1, he⟩ | ⟨h0, h1, hb, he⟩ | ⟨h0, h1, hb, h2, he⟩ | ⟨h0, h1, hb, h2, he⟩
  · rw [he]
    clear he
    have c1 : ((n : Int) < 1) = True := eq_true (by omega)
    cases hb : (word == [])
    all_goals
      go_enter Tryz.func66, Tryz.ntmps66
      go_wp2
      go_ret
      exact ⟨rfl, Below.refl _ _⟩
  · rw [he]
    clear he
    have c1 : ((n : Int) < 1) = False := eq_false (by omega)
    have c2 : ((1 : Int) < (n : Int)) = True := eq_true (by omega)
    cases hb : (word == [])
    all_goals
      go_enter Tryz.func66, Tryz.ntmps66
      go_wp2
      go_ret
      exact ⟨rfl, Below.refl _ _⟩
  · rw [he]
    clear he
    have c1 : ((n : Int) < 1) = False := eq_false (by omega)
    have c2 : ((1 : Int) < (n : Int)) = False := eq_false (by omega)
    go_enter Tryz.func66, Tryz.ntmps66
    go_wp2
    go_ret
    exact ⟨rfl, Below.refl _ _⟩
  · rw [he]
    clear he
    have c1 : ((n : Int) < 1) = False := eq_false (by omega)
    have c2 : ((1 : Int) < (n : Int)) = False := eq_false (by omega)
    have c3 : ((100 : Int) < (word.length : Int)) = True := eq_true (by omega)
    go_enter Tryz.func66, Tryz.ntmps66
    go_wp2
    go_ret
    exact ⟨rfl, Below.refl _ _⟩
  · rw [he]
    clear he
    have c1 : ((n : Int) < 1) = False := eq_false (by omega)
    have c2 : ((1 : Int) < (n : Int)) = False := eq_false (by omega)
    have c3 : ((100 : Int) < (word.length : Int)) = False := eq_false (by omega)
    go_enter Tryz.func66, Tryz.ntmps66
    go_wp2
    go_ret
    exact ⟨rfl, Below.refl _ _⟩

set_option maxRecDepth 100000 in
set_option maxHeartbeats 1000000 in
theorem rerr_lines (word : List UInt8) (n : Nat) (w : World) (hn : n ≤ 1000000) (hwl : word.length ≤ 100000) : Calls Tryz.prog 66 #[str [108, 105, 110, 101, 115], str word, .int .i64 (n : Int)] w fun e w' => e = .returned (.int .i64 (actErr [108, 105, 110, 101, 115] word n : Nat)) ∧ Below w.heap.size w w' := by
  have hcs := aerr_cases (name := [108, 105, 110, 101, 115]) (k := ⟨1, 1, 121, 127⟩) word n (by kernel_rfl)
  simp only at hcs
  have hb0 : kwordB 121 word = true := rfl
  rw [hb0] at hcs
  rcases hcs with ⟨h1, he⟩ | ⟨h0, h1, he⟩ | ⟨h0, h1, hb, he⟩ | ⟨h0, h1, hb, h2, he⟩ | ⟨h0, h1, hb, h2, he⟩
  · rw [he]
    clear he
    have c1 : ((n : Int) < 1) = True := eq_true (by omega)
    go_enter Tryz.func66, Tryz.ntmps66
    go_wp2
    go_ret
    exact ⟨rfl, Below.refl _ _⟩
  · rw [he]
    clear he
    have c1 : ((n : Int) < 1) = False := eq_false (by omega)
    have c2 : ((1 : Int) < (n : Int)) = True := eq_true (by omega)
    go_enter Tryz.func66, Tryz.ntmps66
    go_wp2
    go_ret
    exact ⟨rfl, Below.refl _ _⟩
  · cases hb
  · rw [he]
    clear he
    have c1 : ((n : Int) < 1) = False := eq_false (by omega)
    have c2 : ((1 : Int) < (n : Int)) = False := eq_false (by omega)
    have c3 : ((100 : Int) < (word.length : Int)) = True := eq_true (by omega)
    go_enter Tryz.func66, Tryz.ntmps66
    go_wp2
    go_ret
    exact ⟨rfl, Below.refl _ _⟩
  · rw [he]
    clear he
    have c1 : ((n : Int) < 1) = False := eq_false (by omega)
    have c2 : ((1 : Int) < (n : Int)) = False := eq_false (by omega)
    have c3 : ((100 : Int) < (word.length : Int)) = False := eq_false (by omega)
    go_enter Tryz.func66, Tryz.ntmps66
    go_wp2
    go_ret
    exact ⟨rfl, Below.refl _ _⟩

set_option maxRecDepth 100000 in
set_option maxHeartbeats 1000000 in
theorem rerr_sort (word : List UInt8) (n : Nat) (w : World) (hn : n ≤ 1000000) (hwl : word.length ≤ 100000) : Calls Tryz.prog 66 #[str [115, 111, 114, 116], str word, .int .i64 (n : Int)] w fun e w' => e = .returned (.int .i64 (actErr [115, 111, 114, 116] word n : Nat)) ∧ Below w.heap.size w w' := by
  have hcs := aerr_cases (name := [115, 111, 114, 116]) (k := ⟨1, 8, 128, 129⟩) word n (by kernel_rfl)
  simp only at hcs
  have hb0 : kwordB 128 word = ((word == []) || (word == [111, 110, 99, 101])) := rfl
  rw [hb0] at hcs
  clear hb0
  rcases hcs with ⟨h1, he⟩ | ⟨h0, h1, he⟩ | ⟨h0, h1, hb, he⟩ | ⟨h0, h1, hb, h2, he⟩ | ⟨h0, h1, hb, h2, he⟩
  · rw [he]
    clear he
    have c1 : ((n : Int) < 1) = True := eq_true (by omega)
    cases ha : (word == [])
    all_goals cases hd : (word == [111, 110, 99, 101])
    all_goals
      go_enter Tryz.func66, Tryz.ntmps66
      go_wp2
      go_ret
      exact ⟨rfl, Below.refl _ _⟩
  · rw [he]
    clear he
    have c1 : ((n : Int) < 1) = False := eq_false (by omega)
    have c2 : ((8 : Int) < (n : Int)) = True := eq_true (by omega)
    cases ha : (word == [])
    all_goals cases hd : (word == [111, 110, 99, 101])
    all_goals
      go_enter Tryz.func66, Tryz.ntmps66
      go_wp2
      go_ret
      exact ⟨rfl, Below.refl _ _⟩
  · rw [he]
    clear he
    have c1 : ((n : Int) < 1) = False := eq_false (by omega)
    have c2 : ((8 : Int) < (n : Int)) = False := eq_false (by omega)
    cases ha : (word == [])
    all_goals cases hd : (word == [111, 110, 99, 101])
    all_goals
      first
      | (exfalso; rw [ha, hd] at hb; cases hb; done)
      | (clear hb
         go_enter Tryz.func66, Tryz.ntmps66
         go_wp2
         go_ret
         exact ⟨rfl, Below.refl _ _⟩)
  · rw [he]
    clear he
    have c1 : ((n : Int) < 1) = False := eq_false (by omega)
    have c2 : ((8 : Int) < (n : Int)) = False := eq_false (by omega)
    have c3 : ((100 : Int) < (word.length : Int)) = True := eq_true (by omega)
    cases ha : (word == [])
    all_goals cases hd : (word == [111, 110, 99, 101])
    all_goals
      first
      | (exfalso; rw [ha, hd] at hb; cases hb; done)
      | (clear hb
         go_enter Tryz.func66, Tryz.ntmps66
         go_wp2
         go_ret
         exact ⟨rfl, Below.refl _ _⟩)
  · rw [he]
    clear he
    have c1 : ((n : Int) < 1) = False := eq_false (by omega)
    have c2 : ((8 : Int) < (n : Int)) = False := eq_false (by omega)
    have c3 : ((100 : Int) < (word.length : Int)) = False := eq_false (by omega)
    cases ha : (word == [])
    all_goals cases hd : (word == [111, 110, 99, 101])
    all_goals
      first
      | (exfalso; rw [ha, hd] at hb; cases hb; done)
      | (clear hb
         go_enter Tryz.func66, Tryz.ntmps66
         go_wp2
         go_ret
         exact ⟨rfl, Below.refl _ _⟩)

set_option maxRecDepth 100000 in
set_option maxHeartbeats 1000000 in
theorem rerr_count (word : List UInt8) (n : Nat) (w : World) (hn : n ≤ 1000000) (hwl : word.length ≤ 100000) : Calls Tryz.prog 66 #[str [99, 111, 117, 110, 116], str word, .int .i64 (n : Int)] w fun e w' => e = .returned (.int .i64 (actErr [99, 111, 117, 110, 116] word n : Nat)) ∧ Below w.heap.size w w' := by
  have hcs := aerr_cases (name := [99, 111, 117, 110, 116]) (k := ⟨1, 8, 125, 130⟩) word n (by kernel_rfl)
  simp only at hcs
  have hb0 : kwordB 125 word = (word == []) := rfl
  rw [hb0] at hcs
  clear hb0
  rcases hcs with ⟨h1, he⟩ | ⟨h0, h1, he⟩ | ⟨h0, h1, hb, he⟩ | ⟨h0, h1, hb, h2, he⟩ | ⟨h0, h1, hb, h2, he⟩
  · rw [he]
    clear he
    have c1 : ((n : Int) < 1) = True := eq_true (by omega)
    cases hb : (word == [])
    all_goals
      go_enter Tryz.func66, Tryz.ntmps66
      go_wp2
      go_ret
      exact ⟨rfl, Below.refl _ _⟩
  · rw [he]
    clear he
    have c1 : ((n : Int) < 1) = False := eq_false (by omega)
    have c2 : ((8 : Int) < (n : Int)) = True := eq_true (by omega)
    cases hb : (word == [])
    all_goals
      go_enter Tryz.func66, Tryz.ntmps66
      go_wp2
      go_ret
      exact ⟨rfl, Below.refl _ _⟩
  · rw [he]
    clear he
    have c1 : ((n : Int) < 1) = False := eq_false (by omega)
    have c2 : ((8 : Int) < (n : Int)) = False := eq_false (by omega)
    go_enter Tryz.func66, Tryz.ntmps66
    go_wp2
    go_ret
    exact ⟨rfl, Below.refl _ _⟩
  · rw [he]
    clear he
    have c1 : ((n : Int) < 1) = False := eq_false (by omega)
    have c2 : ((8 : Int) < (n : Int)) = False := eq_false (by omega)
    have c3 : ((100 : Int) < (word.length : Int)) = True := eq_true (by omega)
    go_enter Tryz.func66, Tryz.ntmps66
    go_wp2
    go_ret
    exact ⟨rfl, Below.refl _ _⟩
  · rw [he]
    clear he
    have c1 : ((n : Int) < 1) = False := eq_false (by omega)
    have c2 : ((8 : Int) < (n : Int)) = False := eq_false (by omega)
    have c3 : ((100 : Int) < (word.length : Int)) = False := eq_false (by omega)
    go_enter Tryz.func66, Tryz.ntmps66
    go_wp2
    go_ret
    exact ⟨rfl, Below.refl _ _⟩

set_option maxRecDepth 100000 in
set_option maxHeartbeats 1000000 in
theorem rerr_swap (word : List UInt8) (n : Nat) (w : World) (hn : n ≤ 1000000) (hwl : word.length ≤ 100000) : Calls Tryz.prog 66 #[str [115, 119, 97, 112], str word, .int .i64 (n : Int)] w fun e w' => e = .returned (.int .i64 (actErr [115, 119, 97, 112] word n : Nat)) ∧ Below w.heap.size w w' := by
  have hcs := aerr_cases (name := [115, 119, 97, 112]) (k := ⟨1, 1, 131, 132⟩) word n (by kernel_rfl)
  simp only at hcs
  have hb0 : kwordB 131 word = pairB word := rfl
  rw [hb0] at hcs
  clear hb0
  have KC0 := cut_any word 61 w (by omega)
  rw [spl_count] at KC0
  have KC : Hid (Calls Tryz.prog 60 #[str word, .int .u8 61] w fun e w' => ∃ a c, e = .returned (.slice a (word.count 61 + 1) c) ∧ Below w.heap.size w w') := Lib.hid (KC0.mono (fun e w' ⟨v, he, ho, hb⟩ => by
    obtain ⟨a, c, hv, -, -⟩ := ownsRow_reads ho
    rw [List.length_map, spl_count] at hv
    exact ⟨a, c, by rw [he, hv], hb⟩))
  clear KC0
  have hvar : (((word.count 61 : Nat) : Int) + 1 == 2) = false ∧ pairB word = false ∨ (((word.count 61 : Nat) : Int) + 1 == 2) = true ∧ ∃ b, (∀ h, (⟨word.toArray⟩ : ByteArray)[0]'h = b) ∧ 0 < word.length ∧ ((((b.toNat : Int) != 61) = false ∧ ((b.toNat : Int) == 61) = true ∧ pairB word = false) ∨ (((b.toNat : Int) != 61) = true ∧ ((b.toNat : Int) == 61) = false ∧ pairB word = true)) := pair_var word
  obtain ⟨m, hm⟩ : ∃ m, word.count 61 = m := ⟨_, rfl⟩
  rw [hm] at KC hvar
  clear hm
  rcases hvar with ⟨v1, v2⟩ | ⟨v1, b, hidx, hpos, ⟨v3, v4, v2⟩ | ⟨v3, v4, v2⟩⟩
  · rw [v2] at hcs
    clear v2
    rcases hcs with ⟨h1, he⟩ | ⟨h0, h1, he⟩ | ⟨h0, h1, hb, he⟩ | ⟨h0, h1, hb, h2, he⟩ | ⟨h0, h1, hb, h2, he⟩
    · rw [he]
      clear he
      have c1 : ((n : Int) < 1) = True := eq_true (by omega)
      go_enter Tryz.func66, Tryz.ntmps66
      go_wp2_with fail
      refine KC.out.mono ?_
      rintro e w1 ⟨a, c, rfl, hb1⟩
      go_wp2
      go_ret
      exact ⟨rfl, hb1⟩
    · rw [he]
      clear he
      have c1 : ((n : Int) < 1) = False := eq_false (by omega)
      have c2 : ((1 : Int) < (n : Int)) = True := eq_true (by omega)
      go_enter Tryz.func66, Tryz.ntmps66
      go_wp2_with fail
      refine KC.out.mono ?_
      rintro e w1 ⟨a, c, rfl, hb1⟩
      go_wp2
      go_ret
      exact ⟨rfl, hb1⟩
    · rw [he]
      clear he
      have c1 : ((n : Int) < 1) = False := eq_false (by omega)
      have c2 : ((1 : Int) < (n : Int)) = False := eq_false (by omega)
      go_enter Tryz.func66, Tryz.ntmps66
      go_wp2_with fail
      refine KC.out.mono ?_
      rintro e w1 ⟨a, c, rfl, hb1⟩
      go_wp2
      go_ret
      exact ⟨rfl, hb1⟩
    · cases hb
    · cases hb
  · rw [v2] at hcs
    clear v2
    rcases hcs with ⟨h1, he⟩ | ⟨h0, h1, he⟩ | ⟨h0, h1, hb, he⟩ | ⟨h0, h1, hb, h2, he⟩ | ⟨h0, h1, hb, h2, he⟩
    · rw [he]
      clear he
      have c1 : ((n : Int) < 1) = True := eq_true (by omega)
      go_enter Tryz.func66, Tryz.ntmps66
      go_wp2_with fail
      refine KC.out.mono ?_
      rintro e w1 ⟨a, c, rfl, hb1⟩
      go_wp2
      go_ret
      exact ⟨rfl, hb1⟩
    · rw [he]
      clear he
      have c1 : ((n : Int) < 1) = False := eq_false (by omega)
      have c2 : ((1 : Int) < (n : Int)) = True := eq_true (by omega)
      go_enter Tryz.func66, Tryz.ntmps66
      go_wp2_with fail
      refine KC.out.mono ?_
      rintro e w1 ⟨a, c, rfl, hb1⟩
      go_wp2
      go_ret
      exact ⟨rfl, hb1⟩
    · rw [he]
      clear he
      have c1 : ((n : Int) < 1) = False := eq_false (by omega)
      have c2 : ((1 : Int) < (n : Int)) = False := eq_false (by omega)
      go_enter Tryz.func66, Tryz.ntmps66
      go_wp2_with fail
      refine KC.out.mono ?_
      rintro e w1 ⟨a, c, rfl, hb1⟩
      go_wp2
      go_ret
      exact ⟨rfl, hb1⟩
    · cases hb
    · cases hb
  · rw [v2] at hcs
    clear v2
    rcases hcs with ⟨h1, he⟩ | ⟨h0, h1, he⟩ | ⟨h0, h1, hb, he⟩ | ⟨h0, h1, hb, h2, he⟩ | ⟨h0, h1, hb, h2, he⟩
    · rw [he]
      clear he
      have c1 : ((n : Int) < 1) = True := eq_true (by omega)
      go_enter Tryz.func66, Tryz.ntmps66
      go_wp2_with fail
      refine KC.out.mono ?_
      rintro e w1 ⟨a, c, rfl, hb1⟩
      go_wp2
      go_ret
      exact ⟨rfl, hb1⟩
    · rw [he]
      clear he
      have c1 : ((n : Int) < 1) = False := eq_false (by omega)
      have c2 : ((1 : Int) < (n : Int)) = True := eq_true (by omega)
      go_enter Tryz.func66, Tryz.ntmps66
      go_wp2_with fail
      refine KC.out.mono ?_
      rintro e w1 ⟨a, c, rfl, hb1⟩
      go_wp2
      go_ret
      exact ⟨rfl, hb1⟩
    · cases hb
    · rw [he]
      clear he
      have c1 : ((n : Int) < 1) = False := eq_false (by omega)
      have c2 : ((1 : Int) < (n : Int)) = False := eq_false (by omega)
      have c3 : ((100 : Int) < (word.length : Int)) = True := eq_true (by omega)
      go_enter Tryz.func66, Tryz.ntmps66
      go_wp2_with fail
      refine KC.out.mono ?_
      rintro e w1 ⟨a, c, rfl, hb1⟩
      go_wp2
      go_ret
      exact ⟨rfl, hb1⟩
    · rw [he]
      clear he
      have c1 : ((n : Int) < 1) = False := eq_false (by omega)
      have c2 : ((1 : Int) < (n : Int)) = False := eq_false (by omega)
      have c3 : ((100 : Int) < (word.length : Int)) = False := eq_false (by omega)
      go_enter Tryz.func66, Tryz.ntmps66
      go_wp2_with fail
      refine KC.out.mono ?_
      rintro e w1 ⟨a, c, rfl, hb1⟩
      go_wp2
      go_ret
      exact ⟨rfl, hb1⟩

set_option maxRecDepth 100000 in
set_option maxHeartbeats 1000000 in
theorem rerr_head (word : List UInt8) (n : Nat) (w : World) (hn : n ≤ 1000000) (hwl : word.length ≤ 100000) : Calls Tryz.prog 66 #[str [104, 101, 97, 100], str word, .int .i64 (n : Int)] w fun e w' => e = .returned (.int .i64 (actErr [104, 101, 97, 100] word n : Nat)) ∧ Below w.heap.size w w' := by
  have hcs := aerr_cases (name := [104, 101, 97, 100]) (k := ⟨1, 1, 133, 134⟩) word n (by kernel_rfl)
  simp only at hcs
  have hb0 : kwordB 133 word = (num3 word).isSome := rfl
  rw [hb0] at hcs
  clear hb0
  have KN := fun w1 => number3 word w1 hwl
  unfold numV at KN
  cases hq : num3 word with
  | some m =>
    rw [hq] at hcs KN
    have KN1 := Lib.hid KN
    have cm : ((0 : Int) ≤ (m : Int)) = True := eq_true (by omega)
    clear KN hq
    rcases hcs with ⟨h1, he⟩ | ⟨h0, h1, he⟩ | ⟨h0, h1, hb, he⟩ | ⟨h0, h1, hb, h2, he⟩ | ⟨h0, h1, hb, h2, he⟩
    · rw [he]
      clear he
      have c1 : ((n : Int) < 1) = True := eq_true (by omega)
      go_enter Tryz.func66, Tryz.ntmps66
      go_wp2_with fail
      refine (KN1.out _).mono ?_
      rintro e w1 ⟨rfl, rfl⟩
      go_wp2
      go_ret
      exact ⟨rfl, Below.refl _ _⟩
    · rw [he]
      clear he
      have c1 : ((n : Int) < 1) = False := eq_false (by omega)
      have c2 : ((1 : Int) < (n : Int)) = True := eq_true (by omega)
      go_enter Tryz.func66, Tryz.ntmps66
      go_wp2_with fail
      refine (KN1.out _).mono ?_
      rintro e w1 ⟨rfl, rfl⟩
      go_wp2
      go_ret
      exact ⟨rfl, Below.refl _ _⟩
    · cases hb
    · rw [he]
      clear he
      have c1 : ((n : Int) < 1) = False := eq_false (by omega)
      have c2 : ((1 : Int) < (n : Int)) = False := eq_false (by omega)
      have c3 : ((100 : Int) < (word.length : Int)) = True := eq_true (by omega)
      go_enter Tryz.func66, Tryz.ntmps66
      go_wp2_with fail
      refine (KN1.out _).mono ?_
      rintro e w1 ⟨rfl, rfl⟩
      go_wp2
      go_ret
      exact ⟨rfl, Below.refl _ _⟩
    · rw [he]
      clear he
      have c1 : ((n : Int) < 1) = False := eq_false (by omega)
      have c2 : ((1 : Int) < (n : Int)) = False := eq_false (by omega)
      have c3 : ((100 : Int) < (word.length : Int)) = False := eq_false (by omega)
      go_enter Tryz.func66, Tryz.ntmps66
      go_wp2_with fail
      refine (KN1.out _).mono ?_
      rintro e w1 ⟨rfl, rfl⟩
      go_wp2
      go_ret
      exact ⟨rfl, Below.refl _ _⟩
  | none =>
    rw [hq] at hcs KN
    have KN1 := Lib.hid KN
    clear KN hq
    rcases hcs with ⟨h1, he⟩ | ⟨h0, h1, he⟩ | ⟨h0, h1, hb, he⟩ | ⟨h0, h1, hb, h2, he⟩ | ⟨h0, h1, hb, h2, he⟩
    · rw [he]
      clear he
      have c1 : ((n : Int) < 1) = True := eq_true (by omega)
      go_enter Tryz.func66, Tryz.ntmps66
      go_wp2_with fail
      refine (KN1.out _).mono ?_
      rintro e w1 ⟨rfl, rfl⟩
      go_wp2
      go_ret
      exact ⟨rfl, Below.refl _ _⟩
    · rw [he]
      clear he
      have c1 : ((n : Int) < 1) = False := eq_false (by omega)
      have c2 : ((1 : Int) < (n : Int)) = True := eq_true (by omega)
      go_enter Tryz.func66, Tryz.ntmps66
      go_wp2_with fail
      refine (KN1.out _).mono ?_
      rintro e w1 ⟨rfl, rfl⟩
      go_wp2
      go_ret
      exact ⟨rfl, Below.refl _ _⟩
    · rw [he]
      clear he
      have c1 : ((n : Int) < 1) = False := eq_false (by omega)
      have c2 : ((1 : Int) < (n : Int)) = False := eq_false (by omega)
      go_enter Tryz.func66, Tryz.ntmps66
      go_wp2_with fail
      refine (KN1.out _).mono ?_
      rintro e w1 ⟨rfl, rfl⟩
      go_wp2
      go_ret
      exact ⟨rfl, Below.refl _ _⟩
    · cases hb
    · cases hb

set_option maxRecDepth 100000 in
theorem rerr_none (name word : List UInt8) (n : Nat) (w : World) (hk : mlook name kindsL = none) : Calls Tryz.prog 66 #[str name, str word, .int .i64 (n : Int)] w fun e w' => e = .returned (.int .i64 5) ∧ Below w.heap.size w w' := by
  have hne : ∀ x k, (x, k) ∈ kindsL → (name == x) = false := fun x k hm => by
    rw [beq_eq_false_iff_ne]
    rintro rfl
    have : ∀ {l : List (List UInt8 × Kd)}, (name, k) ∈ l → mlook name l ≠ none := by
      intro l
      induction l with
      | nil => intro h; cases h
      | cons p l ih =>
        intro h
        unfold mlook
        split
        · intro h'; cases h'
        · rename_i hp
          rcases List.mem_cons.1 h with h | h
          · exact absurd (congrArg Prod.fst h).symm hp
          · exact ih h
    exact this hm hk
  have n0 : (name == [119, 114, 105, 116, 101]) = false := hne _ ⟨0, 0, 121, 122⟩ (by unfold kindsL; simp)
  have n1 : (name == [106, 111, 105, 110]) = false := hne _ ⟨1, 8, 121, 123⟩ (by unfold kindsL; simp)
  have n2 : (name == [117, 112, 112, 101, 114]) = false := hne _ ⟨1, 1, 125, 126⟩ (by unfold kindsL; simp)
  have n3 : (name == [108, 105, 110, 101, 115]) = false := hne _ ⟨1, 1, 121, 127⟩ (by unfold kindsL; simp)
  have n4 : (name == [115, 111, 114, 116]) = false := hne _ ⟨1, 8, 128, 129⟩ (by unfold kindsL; simp)
  have n5 : (name == [99, 111, 117, 110, 116]) = false := hne _ ⟨1, 8, 125, 130⟩ (by unfold kindsL; simp)
  have n6 : (name == [115, 119, 97, 112]) = false := hne _ ⟨1, 1, 131, 132⟩ (by unfold kindsL; simp)
  have n7 : (name == [104, 101, 97, 100]) = false := hne _ ⟨1, 1, 133, 134⟩ (by unfold kindsL; simp)
  clear hne hk
  go_enter Tryz.func66, Tryz.ntmps66
  go_wp2
  go_ret
  exact ⟨rfl, Below.refl _ _⟩

/-- ActError of any command. -/
theorem rerr_any (name word : List UInt8) (n : Nat) (w : World) (hn : n ≤ 1000000) (hwl : word.length ≤ 100000) : Calls Tryz.prog 66 #[str name, str word, .int .i64 (n : Int)] w fun e w' => e = .returned (.int .i64 (actErr name word n : Nat)) ∧ Below w.heap.size w w' := by
  cases hk : mlook name kindsL with
  | none =>
    have : actErr name word n = 5 := by unfold actErr; rw [hk]
    rw [this]
    exact rerr_none name word n w hk
  | some k =>
    have hm := mlook_mem hk
    unfold kindsL at hm
    simp only [List.mem_cons, Prod.mk.injEq, List.not_mem_nil, or_false] at hm
    rcases hm with ⟨rfl, -⟩ | ⟨rfl, -⟩ | ⟨rfl, -⟩ | ⟨rfl, -⟩ | ⟨rfl, -⟩ | ⟨rfl, -⟩ | ⟨rfl, -⟩ | ⟨rfl, -⟩
    · exact rerr_write word n w hn hwl
    · exact rerr_join word n w hn hwl
    · exact rerr_upper word n w hn hwl
    · exact rerr_lines word n w hn hwl
    · exact rerr_sort word n w hn hwl
    · exact rerr_count word n w hn hwl
    · exact rerr_swap word n w hn hwl
    · exact rerr_head word n w hn hwl
end Go.Proofs.YtmlmogllgnfklaaGreatDoor
