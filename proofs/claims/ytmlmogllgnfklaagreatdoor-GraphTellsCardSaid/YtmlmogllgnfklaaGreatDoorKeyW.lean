/-
  The plain law of keys: counted texts, one behind the other, tell the texts.
-/
import Derived.Lib.ItoaNum
import Derived.Test.YtmlmogllgnfklaaGreatDoorBuild
import Derived.Test.YtmlmogllgnfklaaGreatDoorShelf
import Derived.Test.YtmlmogllgnfklaaGreatDoorSameT
import Derived.Lib.AppendIntMem
import Derived.Laws.AppendOwnNone
import Derived.Laws.IdiomStrings
import Derived.Test.YtmlmogllgnfklaaGreatDoorCardAid
namespace Go.Kf
open Go

/-- A counted text. -/
def cnt (s : List UInt8) : List UInt8 := Lib.decDigits s.length ++ 58 :: s
/-- The key of a command. -/
def keyL (k w : List UInt8) (l : List (List UInt8)) : List UInt8 := cnt k ++ cnt w ++ (l.map cnt).flatten

theorem digits_range : ∀ u, ∀ c ∈ Lib.decDigits u, 48 ≤ c.toNat ∧ c.toNat ≤ 57 := by
  intro u
  induction u using Nat.strongRecOn with
  | _ u ih =>
    intro c hc
    rw [Lib.decDigits] at hc
    by_cases h : u < 10
    · rw [dif_pos h] at hc
      simp only [List.mem_singleton] at hc
      subst hc
      rw [UInt8.toNat_ofNat']
      omega
    · rw [dif_neg h] at hc
      simp only [List.mem_append, List.mem_singleton] at hc
      rcases hc with hc | rfl
      · exact ih (u / 10) (by omega) c hc
      · rw [UInt8.toNat_ofNat']
        omega
def valOf (l : List UInt8) : Nat := l.foldl (fun a c => 10 * a + (c.toNat - 48)) 0
theorem valOf_digits : ∀ u, valOf (Lib.decDigits u) = u := by
  intro u
  induction u using Nat.strongRecOn with
  | _ u ih =>
    rw [Lib.decDigits]
    by_cases h : u < 10
    · rw [dif_pos h]
      simp only [valOf, List.foldl_cons, List.foldl_nil, UInt8.toNat_ofNat']
      omega
    · rw [dif_neg h]
      have := ih (u / 10) (by omega)
      unfold valOf at this ⊢
      rw [List.foldl_append, this]
      simp only [List.foldl_cons, List.foldl_nil, UInt8.toNat_ofNat']
      omega
theorem digits_inj {a b : Nat} (h : Lib.decDigits a = Lib.decDigits b) : a = b := by
  rw [← valOf_digits a, ← valOf_digits b, h]
theorem not58 (u : Nat) : (58 : UInt8) ∉ Lib.decDigits u := by
  intro h
  have := digits_range u 58 h
  simp at this
theorem split_at {x : UInt8} : ∀ {a b c d : List UInt8}, x ∉ a → x ∉ b → a ++ x :: c = b ++ x :: d → a = b ∧ c = d
  | [], [], _, _, _, _, h => by simpa using h
  | [], y :: b, _, _, _, hb, h => by
    simp only [List.nil_append, List.cons_append, List.cons.injEq] at h
    exact absurd (by rw [h.1]; exact List.mem_cons_self) hb
  | y :: a, [], _, _, ha, _, h => by
    simp only [List.nil_append, List.cons_append, List.cons.injEq] at h
    exact absurd (by rw [h.1]; exact List.mem_cons_self) ha
  | y :: a, z :: b, c, d, ha, hb, h => by
    simp only [List.cons_append, List.cons.injEq] at h
    obtain ⟨rfl, h2⟩ := split_at (a := a) (b := b) (c := c) (d := d) (fun h => ha (List.mem_cons_of_mem _ h)) (fun h => hb (List.mem_cons_of_mem _ h)) h.2
    exact ⟨by rw [h.1], h2⟩
theorem cnt_inj {s t x y : List UInt8} (h : cnt s ++ x = cnt t ++ y) : s = t ∧ x = y := by
  unfold cnt at h
  simp only [List.append_assoc, List.cons_append] at h
  obtain ⟨h1, h2⟩ := split_at (not58 _) (not58 _) h
  exact List.append_inj h2 (digits_inj h1)
theorem cnt_ne (s : List UInt8) : cnt s ≠ [] := by unfold cnt; simp
theorem flat_inj : ∀ {l m : List (List UInt8)}, (l.map cnt).flatten = (m.map cnt).flatten → l = m
  | [], [], _ => rfl
  | [], t :: m, h => by
    simp only [List.map_nil, List.flatten_nil, List.map_cons, List.flatten_cons] at h
    have := h.symm
    rw [List.append_eq_nil_iff] at this
    exact absurd this.1 (cnt_ne t)
  | s :: l, [], h => by
    simp only [List.map_nil, List.flatten_nil, List.map_cons, List.flatten_cons] at h
    rw [List.append_eq_nil_iff] at h
    exact absurd h.1 (cnt_ne s)
  | s :: l, t :: m, h => by
    simp only [List.map_cons, List.flatten_cons] at h
    obtain ⟨rfl, h2⟩ := cnt_inj h
    rw [flat_inj h2]
theorem keyL_inj {k w k' w' : List UInt8} {l l' : List (List UInt8)} : keyL k w l = keyL k' w' l' ↔ k = k' ∧ w = w' ∧ l = l' := by
  refine ⟨fun h => ?_, fun ⟨a, b, c⟩ => by rw [a, b, c]⟩
  unfold keyL at h
  simp only [List.append_assoc] at h
  obtain ⟨h1, h2⟩ := cnt_inj h
  obtain ⟨h3, h4⟩ := cnt_inj h2
  exact ⟨h1, h3, flat_inj h4⟩
theorem keyL_beq (k w k' w' : List UInt8) (l l' : List (List UInt8)) : (keyL k w l == keyL k' w' l') = ((k == k') && ((w == w') && (l == l'))) := by
  rw [Bool.eq_iff_iff]
  simp only [beq_iff_eq, Bool.and_eq_true]
  exact keyL_inj
theorem keyL_snoc (k w : List UInt8) (l : List (List UInt8)) (s : List UInt8) : keyL k w (l ++ [s]) = keyL k w l ++ cnt s := by
  unfold keyL; simp
theorem keyL_nil (k w : List UInt8) : keyL k w [] = cnt k ++ cnt w := by unfold keyL; simp

/-- How many digits a short text's length has. -/
theorem digits_short {n : Nat} (h : n ≤ 1000) : (Lib.decDigits n).length ≤ 4 := by
  rw [Lib.decDigits_length, Lib.nDigits]
  split
  · omega
  · rw [Lib.nDigits]
    split
    · omega
    · rw [Lib.nDigits]
      split
      · omega
      · rw [Lib.nDigits_small (by omega)]
        omega
theorem cnt_short {s : List UInt8} (h : s.length ≤ 1000) : (cnt s).length ≤ s.length + 5 := by
  unfold cnt
  have := digits_short h
  simp
  omega
theorem flat_short : ∀ {l : List (List UInt8)}, (∀ s ∈ l, s.length ≤ 1000) → ((l.map cnt).flatten).length ≤ 1005 * l.length
  | [], _ => by simp
  | s :: l, h => by
    have h1 := cnt_short (h s List.mem_cons_self)
    have h0 := h s List.mem_cons_self
    have h2 := flat_short (l := l) (fun t ht => h t (List.mem_cons_of_mem _ ht))
    simp only [List.map_cons, List.flatten_cons, List.length_append, List.length_cons]
    omega
theorem keyL_short {k w : List UInt8} {l : List (List UInt8)} (hk : k.length ≤ 1000) (hw : w.length ≤ 1000) (hl : ∀ s ∈ l, s.length ≤ 1000) (hn : l.length ≤ 1000) : (keyL k w l).length ≤ 2000000 := by
  have a := cnt_short hk
  have b := cnt_short hw
  have c := flat_short hl
  unfold keyL
  simp only [List.length_append]
  omega
theorem digits_len_le : ∀ u, (Lib.decDigits u).length ≤ u + 1 := by
  intro u
  induction u using Nat.strongRecOn with
  | _ u ih =>
    rw [Lib.decDigits]
    by_cases h : u < 10
    · rw [dif_pos h]; simp
    · rw [dif_neg h]
      have := ih (u / 10) (by omega)
      simp
      omega
end Go.Kf

/-
  The walks of the keys of commands: counted, Key, Decimal, KeyOf, LongTexts, OwnTexts.
-/
namespace Go.Proofs.YtmlmogllgnfklaaGreatDoor
open Go Go.RowKit Go.Kf

/-- The table of powers of ten is laid. -/
abbrev Tab (w : World) : Prop := Lib.TabIs Tryz.prog w "internal/strconv.uint64pow10" .u64 Lib.pow10Tab
theorem tab_below {B : Nat} {w w' : World} (h : Tab w) (hb : Below B w w') (hB : w.heap.size ≤ B) : Tab w' := by
  have hgn : Tryz.prog.globalNamed "internal/strconv.uint64pow10" = some 18 := by kernel_rfl
  unfold Tab Lib.TabIs World.var? at h ⊢
  rw [hgn] at h ⊢
  simp only [Option.bind_some] at h ⊢
  have hlt : 18 < w.heap.size := by
    rcases Nat.lt_or_ge 18 w.heap.size with h' | h'
    · exact h'
    · rw [Array.getElem?_eq_none h'] at h; cases h
  rw [hb.block _ (by omega)]
  exact h

theorem itoa_any (n : Nat) (w : World) (hn : n ≤ 1000000) (ht : Tab w) : Calls Tryz.prog 169 #[.int .i64 n] w fun e w' => e = .returned (str (Lib.decDigits n)) ∧ Below w.heap.size w w' := by
  refine (Tryz.strconv_Itoa n (by omega) (by omega) w ht).mono ?_
  rintro e w' ⟨rfl, k, os, rfl⟩
  exact ⟨by rw [Lib.itoa_nonneg], Lib.below_grow _ w (Nat.le_refl _) k os⟩

/-- A slice value is nil, or has an address. -/
def NilOr (v : Value) : Prop := v = .slice none 0 0 ∨ ∃ a n c, v = .slice (some a) n c
theorem tyStrsK : SliceTy Tryz.prog 25 9 (str []) 16 := ⟨Tryz.underlying25, by kernel_rfl, rfl⟩

set_option maxRecDepth 100000 in
theorem own_texts (v : Value) (l : List (List UInt8)) (w : World) (hr : Reads w v (l.map str)) (hn : NilOr v) (hl : l.length ≤ 1000) :
    Calls Tryz.prog 29 #[v] w fun e w' => ∃ v', e = .returned v' ∧ NilOr v' ∧ Reads w' v' (l.map str) ∧ Below w.heap.size w w' := by
  rcases hn with rfl | ⟨ad, n, c, rfl⟩
  · obtain ⟨i, hi, hz0, hz1, hz2⟩ := info_parts tyStrsK.info
    have HR := Lib.hid hr
    clear hr
    go_enter Tryz.func29, Tryz.ntmps29
    go_wp2_with (at_builtin; refine wpList_append_own_none rfl _ _ 25 rfl 0 9 i 1 tyStrsK.und hi _ 0 [] rfl (World.ownsRow_nil _ _ _ _) rfl ?_)
    go_ret
    exact ⟨_, rfl, Or.inl rfl, HR.out, Below.refl _ _⟩
  · obtain rfl := hr.len
    have HR := Lib.hid hr
    have hm : (l.map str).length = l.length := List.length_map _
    rw [hm]
    clear hr hm
    go_enter Tryz.func29, Tryz.ntmps29
    go_wp2_with (at_builtin; refine wpList_app _ rfl _ _ 25 rfl tyStrsK 0 _ 0 [] rfl (World.ownsRow_nil _ _ _ _) ad l.length c (l.map str) rfl (by simp) ?c1 ?c2 (by decide) (by omega) (Nat.zero_le _) ?_)
    case c1 =>
      intro j u hj
      obtain ⟨a', cap', e, -, hc⟩ := HR.out
      cases e
      obtain ⟨b, o, e, hcell⟩ := hc j u hj
      cases e
      rw [addr_add rfl]
      exact hcell
    case c2 =>
      intro u hu
      obtain ⟨t, -, rfl⟩ := List.mem_map.1 hu
      rfl
    intro v' w' hown hgrow hblk
    go_wp2
    go_ret
    refine ⟨_, rfl, ?_, ?_, (Below.refl _ _).grown hgrow (Nat.le_refl _) (fun k hk => by cases hk)⟩
    · rcases hown.2 with ⟨rfl, -⟩ | ⟨g, cap, cur, rfl, -⟩
      · exact Or.inl rfl
      · exact Or.inr ⟨_, _, _, rfl⟩
    · have := ownsRow_reads hown
      simpa using this

theorem byteCells_size (l : List UInt8) : (Lib.byteCells l).length = l.length := Lib.byteCells_length l

end Go.Proofs.YtmlmogllgnfklaaGreatDoor
