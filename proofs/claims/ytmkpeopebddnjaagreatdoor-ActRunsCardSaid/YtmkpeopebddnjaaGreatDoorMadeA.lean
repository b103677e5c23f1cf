/-
  The reference's acts: has, in, lay.
-/
import Derived.Test.YtmkpeopebddnjaaGreatDoorActH
namespace Go.Proofs.YtmkpeopebddnjaaGreatDoor
open Go Go.RowKit Go.Kf Go.Sort Go.Proofs

set_option maxRecDepth 100000 in
theorem has_any (s p : List UInt8) (i : Nat) (w : World) (hi : i ≤ s.length) (hs : s.length ≤ 1000000) (hp : p.length ≤ 1000000) :
    Calls Tryz.prog 85 #[str s, .int .i64 (i : Int), str p] w fun e w' => e = .returned (.bool (hasB s i p)) ∧ w = w' := by
  have hw1 : IntKind.i64.wrap ((i : Int) + (p.length : Int)) = (i : Int) + (p.length : Int) := IntWalk.i64_in _ (by omega)
  by_cases h : i + p.length ≤ s.length
  · have hv : hasB s i p = ((s.drop i).take p.length == p) := by
      rw [hasB_take, show decide (i + p.length ≤ s.length ∨ p = []) = true from decide_eq_true (Or.inl h), Bool.true_and]
    rw [hv]
    have hex : (⟨s.toArray⟩ : ByteArray).extract i (i + p.length) = ⟨((s.drop i).take p.length).toArray⟩ := by
      rw [extract_list, Nat.add_sub_cancel_left]
    obtain ⟨b, hb⟩ : ∃ b, ((s.drop i).take p.length == p) = b := ⟨_, rfl⟩
    rw [hb]
    generalize (s.drop i).take p.length = q at *
    have hc : ((i : Int) + (p.length : Int) ≤ (s.length : Int)) = True := eq_true (by omega)
    have hc2 : (i + p.length ≤ s.length) = True := eq_true h
    have hc3 : ((i : Int) ≤ (i : Int) + (p.length : Int)) = True := eq_true (by omega)
    have hc4 : (0 ≤ (i : Int) + (p.length : Int)) = True := eq_true (by omega)
    have hc5 : ((i : Int) + (p.length : Int)).toNat = i + p.length := by omega
    clear hv
    go_enter Tryz.func85, Tryz.ntmps85
    go_wp2
    go_ret
    exact ⟨rfl, rfl⟩
  · have hv : hasB s i p = false := by
      cases hq : hasB s i p with
      | false => rfl
      | true => exact absurd (hasB_room hq hi) h
    rw [hv]
    have hc : ((i : Int) + (p.length : Int) ≤ (s.length : Int)) = False := eq_false (by omega)
    clear hv
    go_enter Tryz.func85, Tryz.ntmps85
    go_wp2
    go_ret
    exact ⟨rfl, rfl⟩

set_option maxRecDepth 100000 in
theorem in_any (s p : List UInt8) (w : World) (hs : s.length ≤ 1000000) (hp : p.length ≤ 1000000) :
    Calls Tryz.prog 83 #[str s, str p] w fun e w' => e = .returned (.bool (Lib.contains s p)) ∧ w = w' := by
  have KH := Lib.hid (fun (i : Nat) (w1 : World) (h : i ≤ s.length) => has_any s p i w1 h hs hp)
  go_enter Tryz.func83, Tryz.ntmps83
  go_wp2_with fail
  go_loopw [5] (fun iv wl => ∃ i : Nat, i ≤ s.length + 1 ∧ iv = .int .i64 i ∧ (∀ j, j < i → hasB s j p = false) ∧ wl = w) (fun iv _ => s.length + 1 - (intOf iv).toNat)
  case atStart => exact ⟨0, by omega, rfl, fun j hj => by omega, rfl⟩
  case round =>
    obtain ⟨i, hi, rfl, hno, rfl⟩ := hrel
    have HNO := Lib.hid hno
    clear hno
    by_cases hlt : i ≤ s.length
    · have hlc : ((i : Int) ≤ (s.length : Int)) = True := eq_true (by omega)
      have K1 := KH.out i wr hlt
      cases hh : hasB s i p with
      | true =>
        rw [hh] at K1
        have HC : Hid (Lib.contains s p = true) := Lib.hid ((contains_iff s p).2 ⟨i, hlt, hh⟩)
        have K2 := Lib.hid K1
        clear K1 hh
        go_wp2_with fail
        refine K2.out.mono ?_
        rintro e w2 ⟨rfl, rfl⟩
        go_wp2
        go_ret
        exact ⟨by rw [HC.out]; rfl, rfl⟩
      | false =>
        rw [hh] at K1
        have HN1 : Hid (∀ j, j < i + 1 → hasB s j p = false) := Lib.hid (fun j hj => by
          by_cases hji : j = i
          · rw [hji]; exact hh
          · exact HNO.out j (by omega))
        have K2 := Lib.hid K1
        clear K1 hh
        go_wp2_with fail
        refine K2.out.mono ?_
        rintro e w2 ⟨rfl, rfl⟩
        go_wp2
        go_roundw
        case rel => exact ⟨i + 1, by omega, by go_num, HN1.out, trivial⟩
        case measure => simp [intOf]; omega
    · obtain rfl : i = s.length + 1 := by omega
      have hlc : ((s.length : Int) + 1 ≤ (s.length : Int)) = False := eq_false (by omega)
      have HC : Hid (Lib.contains s p = false) := Lib.hid (by
        cases hq : Lib.contains s p with
        | false => rfl
        | true =>
          obtain ⟨j, hj, hh⟩ := (contains_iff s p).1 hq
          rw [HNO.out j (by omega)] at hh
          cases hh)
      go_wp2
      go_ret
      exact ⟨by rw [HC.out]; rfl, rfl⟩

/-! ### lay -/
theorem mem_while {α : Type} {p : α → Bool} {x : α} : ∀ {l : List α}, x ∈ l.takeWhile p → p x = true
  | [], h => by simp at h
  | y :: l, h => by
    rw [List.takeWhile_cons] at h
    split at h
    · rename_i hy
      rcases List.mem_cons.1 h with rfl | h
      · exact hy
      · exact mem_while h
    · cases h
theorem head_while {α : Type} {p : α → Bool} {y : α} {r : List α} : ∀ {l : List α}, l.dropWhile p = y :: r → p y = false
  | [], h => by simp at h
  | x :: l, h => by
    rw [List.dropWhile_cons] at h
    split at h
    · exact head_while h
    · rename_i hx
      obtain ⟨rfl, -⟩ := List.cons.inj h
      exact Bool.eq_false_iff.2 hx
/-- A text laid behind all that are not greater. -/
def layB (l : List (List UInt8)) (s : List UInt8) : List (List UInt8) := (l.reverse.dropWhile fun x => decide (s < x)).reverse ++ s :: (l.reverse.takeWhile fun x => decide (s < x)).reverse
theorem layB_perm (l : List (List UInt8)) (s : List UInt8) : (layB l s).Perm (s :: l) := by
  unfold layB
  refine List.perm_middle.trans (List.Perm.cons _ ?_)
  rw [← List.reverse_append, List.takeWhile_append_dropWhile, List.reverse_reverse]
/-- The place of it. -/
theorem layB_at {l : List (List UInt8)} {s : List UInt8} {k : Nat} (hk : k ≤ l.length) (h1 : ∀ j (h : j < l.length), k ≤ j → s < l[j]) (h2 : ∀ h : k - 1 < l.length, 0 < k → ¬ s < l[k - 1]) : layB l s = l.take k ++ s :: l.drop k := by
  have hsp : l.reverse = (l.drop k).reverse ++ (l.take k).reverse := by
    rw [← List.reverse_append, List.take_append_drop]
  have hall : ∀ x ∈ (l.drop k).reverse, decide (s < x) = true := fun x hx => by
    rw [List.mem_reverse] at hx
    obtain ⟨j, hj, rfl⟩ := List.mem_iff_getElem.1 hx
    rw [List.getElem_drop]
    rw [List.length_drop] at hj
    exact decide_eq_true (h1 _ (by omega) (by omega))
  unfold layB
  rw [hsp, List.dropWhile_append_of_pos hall, List.takeWhile_append_of_pos hall]
  have hno : (l.take k).reverse.dropWhile (fun x => decide (s < x)) = (l.take k).reverse ∧ (l.take k).reverse.takeWhile (fun x => decide (s < x)) = [] := by
    cases hq : (l.take k).reverse with
    | nil => exact ⟨rfl, rfl⟩
    | cons x r =>
      have hk0 : 0 < k := by
        rcases Nat.eq_zero_or_pos k with h | h
        · subst h; simp at hq
        · exact h
      have hx : x = l[k - 1]'(by omega) := by
        have h0 : (l.take k).reverse[0]? = some x := by rw [hq]; rfl
        rw [List.getElem?_reverse (by rw [List.length_take]; omega)] at h0
        rw [List.length_take, show min k l.length - 1 - 0 = k - 1 by omega, List.getElem?_take_of_lt (by omega), List.getElem?_eq_getElem (by omega)] at h0
        exact (Option.some.inj h0).symm
      have hd : decide (s < x) = false := by
        rw [hx]
        exact decide_eq_false (h2 (by omega) hk0)
      constructor
      · rw [List.dropWhile_cons, hd]; rfl
      · rw [List.takeWhile_cons, hd]; rfl
  rw [hno.1, hno.2, List.reverse_reverse, List.append_nil, List.reverse_reverse]
theorem layB_sorted {l : List (List UInt8)} (s : List UInt8) (h : l.Pairwise (· ≤ ·)) : (layB l s).Pairwise (· ≤ ·) := by
  have hsp : l = (l.reverse.dropWhile fun x => decide (s < x)).reverse ++ (l.reverse.takeWhile fun x => decide (s < x)).reverse := by
    rw [← List.reverse_append, List.takeWhile_append_dropWhile, List.reverse_reverse]
  unfold layB
  have hb : ∀ x ∈ (l.reverse.takeWhile fun x => decide (s < x)).reverse, s ≤ x := fun x hx => by
    rw [List.mem_reverse] at hx
    have := mem_while hx
    exact List.le_of_lt (of_decide_eq_true this)
  have ha : ∀ x ∈ (l.reverse.dropWhile fun x => decide (s < x)).reverse, x ≤ s := fun x hx => by
    rw [List.mem_reverse] at hx
    cases hq : l.reverse.dropWhile (fun x => decide (s < x)) with
    | nil => rw [hq] at hx; simp at hx
    | cons y r =>
      have hy : ¬ s < y := by
        have := head_while hq
        simpa using this
      rw [hq] at hx
      have hys : y ≤ s := List.not_lt.1 hy
      rcases List.mem_cons.1 hx with rfl | hx
      · exact hys
      · have hp : (y :: r).reverse.Pairwise (· ≤ ·) := by
          rw [← hq]
          have h' := h
          rw [hsp] at h'
          exact (List.pairwise_append.1 h').1
        rw [List.reverse_cons] at hp
        have := (List.pairwise_append.1 hp).2.2 x (List.mem_reverse.2 hx) y (by simp)
        exact List.le_trans this hys
  rw [hsp] at h
  obtain ⟨p1, p2, p3⟩ := List.pairwise_append.1 h
  refine List.pairwise_append.2 ⟨p1, List.pairwise_cons.2 ⟨hb, p2⟩, fun x hx y hy => ?_⟩
  rcases List.mem_cons.1 hy with rfl | hy
  · exact ha x hx
  · exact p3 x hx y hy
end Go.Proofs.YtmkpeopebddnjaaGreatDoor
