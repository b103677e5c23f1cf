/-
  The reference's acts: has, in, lay.
-/
import Derived.Test.YtmlmogllgnfklaaGreatDoorActN
namespace Go.Proofs.YtmlmogllgnfklaaGreatDoor
open Go Go.RowKit Go.Kf Go.Sort Go.Proofs

set_option maxRecDepth 100000 in
theorem has_any (s p : List UInt8) (i : Nat) (w : World) (hi : i ≤ s.length) (hs : s.length ≤ 1000000) (hp : p.length ≤ 1000000) :
    Calls Tryz.prog 84 #[str s, .int .i64 (i : Int), str p] w fun e w' => e = .returned (.bool (hasB s i p)) ∧ w = w' := by
  have hw1 : IntKind.i64.wrap ((i : Int) + (p.length : Int)) = (i : Int) + (p.length : Int) := IntWalk.i64_in _ (by omega)
  by_cases h : i + p.length ≤ s.length
  · have hv : hasB s i p = ((s.drop i).take p.length == p) := by
      rw [hasB_take, show decide (i + p.length ≤ s.length ∨ p = []) = true from decide_eq_true (Or.inl h), Bool.true_and]
    rw [hv]
    have hex : (⟨s.toArray⟩ : ByteArray).extract i (i + p.length) = ⟨((s.drop i).take p.length).toArray⟩ := by
      rw [extract_list, Nat.add_sub_cancel_left]
    obtain ⟨b, hb⟩ : ∃ b, ((s.drop i).take p.length == p) = b := ⟨_, rfl⟩
    rw [hb]
    generalize (s.drop i).take p.length = q at *
    have hc : ((i : Int) + (p.length : Int) ≤ (s.length : Int)) = True := eq_true (by omega)
    have hc2 : (i + p.length ≤ s.length) = True := eq_true h
    have hc3 : ((i : Int) ≤ (i : Int) + (p.length : Int)) = True := eq_true (by omega)
    have hc4 : (0 ≤ (i : Int) + (p.length : Int)) = True := eq_true (by omega)
    have hc5 : ((i : Int) + (p.length : Int)).toNat = i + p.length := by omega
    clear hv
    go_enter Tryz.func84, Tryz.ntmps84
    go_wp2
    go_ret
    exact ⟨rfl, rfl⟩
  · have hv : hasB s i p = false := by
      cases hq : hasB s i p with
      | false => rfl
      | true => exact absurd (hasB_room hq hi) h
    rw [hv]
    have hc : ((i : Int) + (p.length : Int) ≤ (s.length : Int)) = False := eq_false (by omega)
    clear hv
    go_enter Tryz.func84, Tryz.ntmps84
    go_wp2
    go_ret
    exact ⟨rfl, rfl⟩

/-! ### lay -/
theorem mem_while {α : Type} {p : α → Bool} {x : α} : ∀ {l : List α}, x ∈ l.takeWhile p → p x = true
  | [], h => by simp at h
  | y :: l, h => by
    rw [List.takeWhile_cons] at h
    split at h
    · rename_i hy
      rcases List.mem_cons.1 h with rfl | h
      · exact hy
      · exact mem_while h
    · cases h
theorem head_while {α : Type} {p : α → Bool} {y : α} {r : List α} : ∀ {l : List α}, l.dropWhile p = y :: r → p y = false
  | [], h => by simp at h
  | x :: l, h => by
    rw [List.dropWhile_cons] at h
    split at h
    · exact head_while h
    · rename_i hx
      obtain ⟨rfl, -⟩ := List.cons.inj h
      exact Bool.eq_false_iff.2 hx
/-- A text laid behind all that are not greater. -/
def layB (l : List (List UInt8)) (s : List UInt8) : List (List UInt8) := (l.reverse.dropWhile fun x => decide (s < x)).reverse ++ s :: (l.reverse.takeWhile fun x => decide (s < x)).reverse
theorem layB_perm (l : List (List UInt8)) (s : List UInt8) : (layB l s).Perm (s :: l) := by
  unfold layB
  refine List.perm_middle.trans (List.Perm.cons _ ?_)
  rw [← List.reverse_append, List.takeWhile_append_dropWhile, List.reverse_reverse]
/-- The place of it. -/
theorem layB_at {l : List (List UInt8)} {s : List UInt8} {k : Nat} (hk : k ≤ l.length) (h1 : ∀ j (h : j < l.length), k ≤ j → s < l[j]) (h2 : ∀ h : k - 1 < l.length, 0 < k → ¬ s < l[k - 1]) : layB l s = l.take k ++ s :: l.drop k := by
  have hsp : l.reverse = (l.drop k).reverse ++ (l.take k).reverse := by
    rw [← List.reverse_append, List.take_append_drop]
  have hall : ∀ x ∈ (l.drop k).reverse, decide (s < x) = true := fun x hx => by
    rw [List.mem_reverse] at hx
    obtain ⟨j, hj, rfl⟩ := List.mem_iff_getElem.1 hx
    rw [List.getElem_drop]
    rw [List.length_drop] at hj
    exact decide_eq_true (h1 _ (by omega) (by omega))
  unfold layB
  rw [hsp, List.dropWhile_append_of_pos hall, List.takeWhile_append_of_pos hall]
  have hno : (l.take k).reverse.dropWhile (fun x => decide (s < x)) = (l.take k).reverse ∧ (l.take k).reverse.takeWhile (fun x => decide (s < x)) = [] := by
    cases hq : (l.take k).reverse with
    | nil => exact ⟨rfl, rfl⟩
    | cons x r =>
      have hk0 : 0 < k := by
        rcases Nat.eq_zero_or_pos k with h | h
        · subst h; simp at hq
        · exact h
      have hx : x = l[k - 1]'(by omega) := by
        have h0 : (l.take k).reverse[0]? = some x := by rw [hq]; rfl
        rw [List.getElem?_reverse (by rw [List.length_take]; omega)] at h0
        rw [List.length_take, show min k l.length - 1 - 0 = k - 1 by omega, List.getElem?_take_of_lt (by omega), List.getElem?_eq_getElem (by omega)] at h0
        exact (Option.some.inj h0).symm
      have hd : decide (s < x) = false := by
        rw [hx]
        exact decide_eq_false (h2 (by omega) hk0)
      constructor
      · rw [List.dropWhile_cons, hd]; rfl
      · rw [List.takeWhile_cons, hd]; rfl
  rw [hno.1, hno.2, List.reverse_reverse, List.append_nil, List.reverse_reverse]
theorem layB_sorted {l : List (List UInt8)} (s : List UInt8) (h : l.Pairwise (· ≤ ·)) : (layB l s).Pairwise (· ≤ ·) := by
  have hsp : l = (l.reverse.dropWhile fun x => decide (s < x)).reverse ++ (l.reverse.takeWhile fun x => decide (s < x)).reverse := by
    rw [← List.reverse_append, List.takeWhile_append_dropWhile, List.reverse_reverse]
  unfold layB
  have hb : ∀ x ∈ (l.reverse.takeWhile fun x => decide (s < x)).reverse, s ≤ x := fun x hx => by
    rw [List.mem_reverse] at hx
    have := mem_while hx
    exact List.le_of_lt (of_decide_eq_true this)
  have ha : ∀ x ∈ (l.reverse.dropWhile fun x => decide (s < x)).reverse, x ≤ s := fun x hx => by
    rw [List.mem_reverse] at hx
    cases hq : l.reverse.dropWhile (fun x => decide (s < x)) with
    | nil => rw [hq] at hx; simp at hx
    | cons y r =>
      have hy : ¬ s < y := by
        have := head_while hq
        simpa using this
      rw [hq] at hx
      have hys : y ≤ s := List.not_lt.1 hy
      rcases List.mem_cons.1 hx with rfl | hx
      · exact hys
      · have hp : (y :: r).reverse.Pairwise (· ≤ ·) := by
          rw [← hq]
          have h' := h
          rw [hsp] at h'
          exact (List.pairwise_append.1 h').1
        rw [List.reverse_cons] at hp
        have := (List.pairwise_append.1 hp).2.2 x (List.mem_reverse.2 hx) y (by simp)
        exact List.le_trans this hys
  rw [hsp] at h
  obtain ⟨p1, p2, p3⟩ := List.pairwise_append.1 h
  refine List.pairwise_append.2 ⟨p1, List.pairwise_cons.2 ⟨hb, p2⟩, fun x hx y hy => ?_⟩
  rcases List.mem_cons.1 hy with rfl | hy
  · exact ha x hx
  · exact p3 x hx y hy
end Go.Proofs.YtmlmogllgnfklaaGreatDoor

/-
  The reference's acts: lay; what is made by join, upper, lines, head.
-/
namespace Go.Proofs.YtmlmogllgnfklaaGreatDoor
open Go Go.RowKit Go.Kf Go.Sort Go.Proofs

theorem join_snoc (sep x : List UInt8) : ∀ {l : List (List UInt8)}, l ≠ [] → Lib.join (l ++ [x]) sep = Lib.join l sep ++ sep ++ x
  | [], h => absurd rfl h
  | [s], _ => by simp [Lib.join]
  | s :: t :: r, _ => by
    have ih := join_snoc sep x (l := t :: r) (by simp)
    have e1 : Lib.join (s :: t :: r) sep = s ++ (sep ++ Lib.join (t :: r) sep) := by simp [Lib.join]
    have e2 : Lib.join (s :: t :: r ++ [x]) sep = s ++ (sep ++ Lib.join (t :: r ++ [x]) sep) := by simp [Lib.join]
    rw [e2, ih, e1]
    simp

end Go.Proofs.YtmlmogllgnfklaaGreatDoor

/-
  The reference's acts: NumberOf at three digits; what is made by lines, head, count.
-/
namespace Go.Proofs.YtmlmogllgnfklaaGreatDoor
open Go Go.RowKit Go.Kf Go.Sort Go.Proofs

set_option maxRecDepth 100000 in
set_option maxHeartbeats 1000000 in
theorem numberOf3_any (ds : List UInt8) (w : World) (hl : ds.length ≤ 100000) :
    Calls Tryz.prog 89 #[str ds, .int .i64 3] w fun e w' => w = w' ∧
      ((∃ n : Nat, IsN3 ds n ∧ e = .returned (.int .i64 n)) ∨ ((∀ n, ¬ IsN3 ds n) ∧ e = .returned (.int .i64 (-1)))) := by
  by_cases h4 : ds.length ≤ 3
  · cases ds with
    | nil =>
      have hno : Hid (∀ n, ¬ IsN3 [] n) := Lib.hid (fun n h => dec_ne n h.2.symm)
      go_enter Tryz.func89, Tryz.ntmps89
      go_wp2
      go_ret
      exact ⟨rfl, Or.inr ⟨hno.out, rfl⟩⟩
    | cons b r =>
      by_cases h48 : r ≠ [] ∧ b = 48
      · obtain ⟨hr, rfl⟩ := h48
        have hno : Hid (∀ n, ¬ IsN3 (48 :: r) n) := Lib.hid (fun n h => by
          by_cases hn : 10 ≤ n
          · obtain ⟨b, r', e, hb⟩ := dec_head n hn
            have := h.2
            rw [e] at this
            exact hb (List.cons.inj this).1.symm
          · have := h.2
            rw [Lib.decDigits_one (by omega)] at this
            exact hr (List.cons.inj this).2)
        have hlen : 1 < (48 :: r).length := by
          have : r.length ≠ 0 := by simpa using hr
          simp; omega
        obtain ⟨ds, hds⟩ : ∃ ds, 48 :: r = ds := ⟨_, rfl⟩
        have hidx : ∀ h, (⟨ds.toArray⟩ : ByteArray)[0]'h = (48 : UInt8) := fun _ => by
          show ds[0] = 48
          simp [← hds]
        rw [hds] at hno hlen h4 hl ⊢
        clear hds hr
        have hz1 : ((ds.length : Int) < 1) = False := by simp; omega
        have hz2 : ((3 : Int) < (ds.length : Int)) = False := by simp; omega
        have hz3 : ((1 : Int) < (ds.length : Int)) = True := by simp; omega
        go_enter Tryz.func89, Tryz.ntmps89
        go_wp2
        go_ret
        exact ⟨rfl, Or.inr ⟨hno.out, rfl⟩⟩
      · have hor : r = [] ∨ b ≠ 48 := by
          by_cases hr : r = []
          · exact Or.inl hr
          · exact Or.inr (fun e => h48 ⟨hr, e⟩)
        have HOR := Lib.hid hor
        obtain ⟨ds, hds⟩ : ∃ ds, b :: r = ds := ⟨_, rfl⟩
        have HDS := Lib.hid hds
        have hb0 : ds[0]? = some b := by rw [← hds]; rfl
        have hpos : 1 ≤ ds.length := by rw [← hds]; simp
        have hidx0 : ∀ h, (⟨ds.toArray⟩ : ByteArray)[0]'h = b := fun _ => by
          show ds[0] = b
          simp [← hds]
        rw [hds] at h4 hl ⊢
        have hz1 : ((ds.length : Int) < 1) = False := by simp; omega
        have hz2 : ((3 : Int) < (ds.length : Int)) = False := by simp; omega
        have key : (((b.toNat : Int) == 48) = false ∧ ((1 : Int) < (ds.length : Int)) = True) ∨ ((1 : Int) < (ds.length : Int)) = False := by
          by_cases h1 : 1 < ds.length
          · left
            refine ⟨?_, by simp; omega⟩
            have hb : b ≠ 48 := HOR.out.resolve_left (fun e => by rw [← HDS.out, e] at h1; simp at h1)
            have := Kf.u8_eq b 48
            rw [show ((48 : UInt8).toNat : Int) = 48 from rfl] at this
            rw [this]; simpa using hb
          · right
            simp; omega
        have FIN : Hid (∀ m : Nat, Lib.decFrom 0 ds = some m → IsN3 ds m) := Lib.hid (fun m hm => by
          rw [← HDS.out] at hm ⊢
          have e := dec_of r.length b r m rfl HOR.out hm
          refine ⟨dec_le3 ?_, e⟩
          rw [← e, HDS.out]; exact h4)
        clear hor hds hb0
        rcases key with ⟨hz4, hz3⟩ | hz3
        all_goals
          go_enter Tryz.func89, Tryz.ntmps89
          go_wp2_with fail
          go_loopw [5, 6] (fun nv iv wl => ∃ m i : Nat, i ≤ ds.length ∧ nv = .int .i64 m ∧ iv = .int .i64 i ∧ Lib.decFrom 0 (ds.take i) = some m ∧ wl = w) (fun _ iv _ => ds.length - (intOf iv).toNat)
          case atStart => exact ⟨0, 0, by omega, rfl, rfl, by simp [Lib.decFrom], rfl⟩
          case round =>
            obtain ⟨m, i, hi, rfl, rfl, hm, rfl⟩ := hrel
            have HMM := Lib.hid hm
            clear hm
            by_cases hlt : i < ds.length
            · obtain ⟨c, hc⟩ : ∃ c, ds[i] = c := ⟨_, rfl⟩
              have hidx : ∀ h, (⟨ds.toArray⟩ : ByteArray)[i]'h = c := fun _ => hc
              have HC := Lib.hid hc
              clear hc
              by_cases hlo : c.toNat < 48
              · have hd1 : ((c.toNat : Int) < 48) = True := by simp; omega
                have HNO : Hid (∀ n, ¬ IsN3 ds n) := Lib.hid (fun n h => by
                  have := dec_digit n c (by rw [← h.2, ← HC.out]; exact List.getElem_mem hlt)
                  omega)
                go_wp2
                go_ret
                exact ⟨rfl, Or.inr ⟨HNO.out, rfl⟩⟩
              · have hd1 : ((c.toNat : Int) < 48) = False := by simp; omega
                by_cases hhi : 57 < c.toNat
                · have hd2 : ((57 : Int) < (c.toNat : Int)) = True := by simp; omega
                  have HNO : Hid (∀ n, ¬ IsN3 ds n) := Lib.hid (fun n h => by
                    have := dec_digit n c (by rw [← h.2, ← HC.out]; exact List.getElem_mem hlt)
                    omega)
                  go_wp2
                  go_ret
                  exact ⟨rfl, Or.inr ⟨HNO.out, rfl⟩⟩
                · have hd2 : ((57 : Int) < (c.toNat : Int)) = False := by simp; omega
                  obtain ⟨d, hd⟩ : ∃ d, c.toNat = 48 + d := ⟨c.toNat - 48, by omega⟩
                  have hm9 : m ≤ 999 := by
                    have h1 := Lib.decFrom_lt _ _ _ HMM.out
                    have h2 : (ds.take i).length ≤ 3 := by rw [List.length_take]; omega
                    have h3 := Nat.pow_le_pow_right (n := 10) (by decide) h2
                    omega
                  have HST : Hid (Lib.decFrom 0 (ds.take (i + 1)) = some (m * 10 + d)) := Lib.hid (by
                    rw [List.take_succ_eq_append_getElem hlt, decFrom_app _ _ _ _ HMM.out, HC.out]
                    have hv : Lib.digitVal c = some d := by
                      unfold Lib.digitVal
                      rw [if_pos (by omega)]
                      congr 1
                      omega
                    simp only [Lib.decFrom, hv])
                  have hs0 : (c.toNat : Int) - 48 = (d : Int) := by omega
                  have hs1 : IntKind.u8.wrap ((c.toNat : Int) - 48) = (d : Int) := by
                    rw [hs0]
                    simp [IntKind.wrap, IntKind.signed, IntKind.bits]
                    omega
                  have hs2 : IntKind.i64.wrap (d : Int) = (d : Int) := IntWalk.i64_in _ (by omega)
                  have hs3 : IntKind.i64.wrap (10 * (m : Int)) = 10 * (m : Int) := IntWalk.i64_in _ (by omega)
                  have hs4 : IntKind.i64.wrap (10 * (m : Int) + (d : Int)) = 10 * (m : Int) + (d : Int) := IntWalk.i64_in _ (by omega)
                  go_wp2
                  go_roundw
                  case rel => exact ⟨m * 10 + d, i + 1, by omega, by go_num, by go_num, HST.out, by first | rfl | trivial⟩
                  case measure => simp [intOf]; omega
            · obtain rfl : i = ds.length := by omega
              have hM := HMM.out
              rw [List.take_length] at hM
              have HN := Lib.hid (FIN.out m hM)
              clear hM
              go_wp2
              go_ret
              exact ⟨rfl, Or.inl ⟨m, HN.out, rfl⟩⟩
  · have hno : Hid (∀ n, ¬ IsN3 ds n) := Lib.hid (fun n h => by
      have := digits_le 2 n (by have := h.1; omega)
      rw [← h.2] at this
      exact h4 this)
    have hz1 : ((ds.length : Int) < 1) = False := by simp; omega
    have hz2 : ((3 : Int) < (ds.length : Int)) = True := by simp; omega
    clear h4
    go_enter Tryz.func89, Tryz.ntmps89
    go_wp2
    go_ret
    exact ⟨rfl, Or.inr ⟨hno.out, rfl⟩⟩

def numV (s : List UInt8) : Int := match num3 s with
  | some n => n
  | none => -1
theorem number3 (ds : List UInt8) (w : World) (hl : ds.length ≤ 100000) :
    Calls Tryz.prog 89 #[str ds, .int .i64 3] w fun e w' => e = .returned (.int .i64 (numV ds)) ∧ w = w' := by
  refine (numberOf3_any ds w hl).mono ?_
  rintro e w' ⟨rfl, ⟨n, hn, rfl⟩ | ⟨hno, rfl⟩⟩
  · unfold numV
    rw [num3_is hn]
    exact ⟨rfl, rfl⟩
  · unfold numV
    cases hq : num3 ds with
    | some n => exact absurd (num3_of hq) (hno n)
    | none => exact ⟨rfl, rfl⟩

end Go.Proofs.YtmlmogllgnfklaaGreatDoor
