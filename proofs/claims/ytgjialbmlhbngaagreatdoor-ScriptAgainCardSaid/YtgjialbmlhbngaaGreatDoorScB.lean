/-
  Scripts in plain Lean: commands out of lines, rules out of text, and what each command makes of a yard. Lines that are none: by their first word. Scripts: an error as a script tells it: bare of its place; its text. The script of the closed fact, in plain Lean.
-/
import Derived.Test.YtgjialbmlhbngaaGreatDoorRsB
import Derived.Test.YtgjialbmlhbngaaGreatDoorPkH
import Derived.Test.YtgjialbmlhbngaaGreatDoorPkM
import Derived.Test.YtgjialbmlhbngaaGreatDoorScA
import Derived.Lib.Replace
import Derived.Test.YtgjialbmlhbngaaGreatDoorPkD
import Derived.Test.YtgjialbmlhbngaaGreatDoorPkK
import Derived.Test.YtgjialbmlhbngaaGreatDoorPkO
import Derived.Handy
import Derived.Test.YtgjialbmlhbngaaGreatDoorYdC

namespace Go.Proofs.YtgjialbmlhbngaaGreatDoor
open Go Go.RowKit Go.Kf Go.Sort Go.Proofs
def errTx (c : Nat) : List UInt8 := [107, 105, 108, 110, 102, 105, 101, 108, 100, 58, 32] ++
  ([[116, 101, 120, 116], [98, 111, 117, 110, 100], [115, 104, 97, 112, 101], [110, 97, 109, 101], [107, 105, 110, 100], [110, 111, 110, 101], [101, 120, 105, 115, 116], [102, 117, 108, 108], [99, 121, 99, 108, 101], [108, 111, 110, 103], [116, 117, 114, 110], [100, 111, 110, 101]] : List (List UInt8)).getD (c - 1) []
structure SS where
  l : List RuleL
  m : List Ent
  mo : List Ent
  c : CS
inductive Cmd
  | bad | clear | stale | order | leaves | files
  | make (outs : List (List UInt8))
  | put (p t : List UInt8)
  | rule (r : List UInt8)
  | drop (p : List UInt8)
  | show (p : List UInt8)
  | want (p : List UInt8)
def semiB (s : List UInt8) : List UInt8 := Lib.replaceAll s [59] [10]
def shownB (s : List UInt8) : List UInt8 := Lib.replaceAll s [10] [59]
def joinedB (l : List (List UInt8)) : List UInt8 := if l = [] then [110, 111, 116, 104, 105, 110, 103] else Lib.join l [32]
def aboutC (w : List UInt8) (l : List (List UInt8)) : Cmd :=
  if l.all isPathB = true then
    if w = [109, 97, 107, 101] then .make l
    else match l with
      | [p] => if w = [100, 114, 111, 112] then .drop p else if w = [115, 104, 111, 119] then .show p else if w = [119, 97, 110, 116] then .want p else .bad
      | _ => .bad
  else .bad
def putCmd (r : List UInt8) : Cmd := if (Lib.cut r [32]).2.2 = true ∧ isPathB (Lib.cut r [32]).1 = true then .put (Lib.cut r [32]).1 (semiB (Lib.cut r [32]).2.1) else .bad
def cmdOf (s : List UInt8) : Cmd :=
  if s = [99, 108, 101, 97, 114] then .clear
  else if s = [115, 116, 97, 108, 101] then .stale
  else if s = [111, 114, 100, 101, 114] then .order
  else if s = [108, 101, 97, 118, 101, 115] then .leaves
  else if s = [102, 105, 108, 101, 115] then .files
  else if s = [109, 97, 107, 101] then .make []
  else if (Lib.cut s [32]).2.2 = false then .bad
  else if (Lib.cut s [32]).1 = [112, 117, 116] then putCmd (Lib.cut s [32]).2.1
  else if (Lib.cut s [32]).1 = [114, 117, 108, 101] then .rule ((Lib.cut s [32]).2.1 ++ [10])
  else aboutC (Lib.cut s [32]).1 (spl 32 (Lib.cut s [32]).2.1)
abbrev okT : List UInt8 := [111, 107]
def fourB (n : Nat → Nat) : List UInt8 := Lib.join [Lib.decDigits (n 0), Lib.decDigits (n 1), Lib.decDigits (n 2), Lib.decDigits (n 3)] [32]
inductive Does (a : SS) : Cmd → Nat → List UInt8 → SS → Prop
  | bad : Does a .bad 1 [] a
  | clear : Does a .clear 0 okT { a with l := [] }
  | stale : Does a .stale 0 (joinedB (sortB (staleL a.l (fun p => mlook p a.m) a.mo))) a
  | order {o : List Nat} : orderB (edgesB a.l) (fun _ => true) a.l.length = some o → Does a .order 0 (joinedB (o.map fun i => (a.l.getD i noR).out)) a
  | leaves : Does a .leaves 0 (joinedB (leavesB a.l)) a
  | files : Does a .files 0 (joinedB (sortK a.m)) a
  | make {outs : List (List UInt8)} {n : Nat → Nat} {mo' : List Ent} {c' : CS} : (∀ s ∈ outs, s ∈ a.l.map RuleL.out) → MakeRel a.l outs (fun p => mlook p a.m) a.mo a.c n mo' c' → Does a (.make outs) 0 (fourB n) ⟨a.l, a.m, mo', c'⟩
  | made {outs : List (List UInt8)} : ¬ (∀ s ∈ outs, s ∈ a.l.map RuleL.out) → Does a (.make outs) 6 [] a
  | put {p t : List UInt8} : Does a (.put p t) (putC p t a.m) okT { a with m := putM p t a.m }
  | text {r : List UInt8} : readB r = none → Does a (.rule r) 1 [] a
  | sheet {r : List UInt8} {l : List RuleL} {c : Nat} {p : Int} : readB r = some l → FaultIs l c p → 0 < c → Does a (.rule r) c [] a
  | sheets {r : List UInt8} {l : List RuleL} {c : Nat} {p : Int} : readB r = some l → RightS l → FaultIs (a.l ++ l) c p → 0 < c → Does a (.rule r) c [] a
  | cycle {r : List UInt8} {l : List RuleL} : readB r = some l → RightS l → RightS (a.l ++ l) → orderB (edgesB (a.l ++ l)) (fun _ => true) (a.l ++ l).length = none → Does a (.rule r) 9 [] a
  | rules {r : List UInt8} {l : List RuleL} {o : List Nat} : readB r = some l → RightS l → RightS (a.l ++ l) → orderB (edgesB (a.l ++ l)) (fun _ => true) (a.l ++ l).length = some o → Does a (.rule r) 0 okT { a with l := a.l ++ l }
  | drop {p : List UInt8} : Does a (.drop p) (removeC p a.m) okT { a with m := mdel p a.m }
  | out {p b : List UInt8} : mlook p a.mo = some b → Does a (.show p) 0 (shownB b) a
  | file {p b : List UInt8} : mlook p a.mo = none → mlook p a.m = some b → Does a (.show p) 0 (shownB b) a
  | none {p : List UInt8} : mlook p a.mo = none → mlook p a.m = none → Does a (.show p) 6 [] a
  | want {p : List UInt8} : p ∈ a.l.map RuleL.out → Does a (.want p) (wantV a.l (fun p => mlook p a.m) p).1 (shownB (wantV a.l (fun p => mlook p a.m) p).2) a
  | wants {p : List UInt8} : p ∉ a.l.map RuleL.out → Does a (.want p) 6 [] a
theorem fault_one {l : List RuleL} {c c' : Nat} {p p' : Int} (h : FaultIs l c p) (h' : FaultIs l c' p') : c = c' := by
  rcases h with ⟨h1, h2, h3, -⟩ | ⟨h1, h3, -⟩ | ⟨h1, i, r, m, g1, g2, g3, h3, -⟩
  · rcases h' with ⟨k1, k2, k3, -⟩ | ⟨k1, k3, -⟩ | ⟨k1, i', r', m', e1, e2, e3, k3, -⟩
    · omega
    · omega
    · have := h2 i' r' e2; omega
  · rcases h' with ⟨k1, k2, k3, -⟩ | ⟨k1, k3, -⟩ | ⟨k1, i', r', m', e1, e2, e3, k3, -⟩ <;> omega
  · rcases h' with ⟨k1, k2, k3, -⟩ | ⟨k1, k3, -⟩ | ⟨k1, i', r', m', e1, e2, e3, k3, -⟩
    · have := k2 i r g2; omega
    · omega
    · have hii : i = i' := by
        rcases Nat.lt_trichotomy i i' with h | h | h
        · have := e1 i r h g2; omega
        · exact h
        · have := g1 i' r' h e2; omega
      subst hii
      have hrr : r = r' := Option.some.inj (g2.symm.trans e2)
      subst hrr
      omega
theorem fault_wrong {l : List RuleL} {c : Nat} {p : Int} (h : FaultIs l c p) (hc : 0 < c) : ¬ RightS l := fun hr => by
  rcases h with ⟨h1, h2, h3, -⟩ | ⟨h1, h3, -⟩ | ⟨h1, i, r, m, g1, g2, g3, h3, -⟩
  · omega
  · have := hr.1; omega
  · have := hr.2 i r g2; omega
theorem Does.one {a b b' : SS} {k : Cmd} {c c' : Nat} {t t' : List UInt8} (h : Does a k c t b) (h' : Does a k c' t' b') : c = c' ∧ t = t' ∧ b = b' := by
  cases h with
  | bad => cases h'; exact ⟨rfl, rfl, rfl⟩
  | clear => cases h'; exact ⟨rfl, rfl, rfl⟩
  | stale => cases h'; exact ⟨rfl, rfl, rfl⟩
  | order h1 => cases h' with | order h2 => rw [h1] at h2; cases h2; exact ⟨rfl, rfl, rfl⟩
  | leaves => cases h'; exact ⟨rfl, rfl, rfl⟩
  | files => cases h'; exact ⟨rfl, rfl, rfl⟩
  | make h1 h2 => cases h' with
    | make g1 g2 =>
      obtain ⟨rfl, rfl, e0, e1, e2, e3⟩ := h2.one g2
      exact ⟨rfl, by unfold fourB; rw [e0, e1, e2, e3], rfl⟩
    | made g1 => exact absurd h1 g1
  | made h1 => cases h' with
    | make g1 g2 => exact absurd g1 h1
    | made g1 => exact ⟨rfl, rfl, rfl⟩
  | put => cases h'; exact ⟨rfl, rfl, rfl⟩
  | text h1 => cases h' with
    | text g1 => exact ⟨rfl, rfl, rfl⟩
    | sheet g1 _ _ => rw [h1] at g1; cases g1
    | sheets g1 _ _ _ => rw [h1] at g1; cases g1
    | cycle g1 _ _ _ => rw [h1] at g1; cases g1
    | rules g1 _ _ _ => rw [h1] at g1; cases g1
  | sheet h1 h2 h3 => cases h' with
    | text g1 => rw [h1] at g1; cases g1
    | sheet g1 g2 _ => rw [h1] at g1; cases g1; exact ⟨fault_one h2 g2, rfl, rfl⟩
    | sheets g1 g2 _ _ => rw [h1] at g1; cases g1; exact absurd g2 (fault_wrong h2 h3)
    | cycle g1 g2 _ _ => rw [h1] at g1; cases g1; exact absurd g2 (fault_wrong h2 h3)
    | rules g1 g2 _ _ => rw [h1] at g1; cases g1; exact absurd g2 (fault_wrong h2 h3)
  | sheets h1 h2 h3 h4 => cases h' with
    | text g1 => rw [h1] at g1; cases g1
    | sheet g1 g2 g3 => rw [h1] at g1; cases g1; exact absurd h2 (fault_wrong g2 g3)
    | sheets g1 g2 g3 _ => rw [h1] at g1; cases g1; exact ⟨fault_one h3 g3, rfl, rfl⟩
    | cycle g1 _ g3 _ => rw [h1] at g1; cases g1; exact absurd g3 (fault_wrong h3 h4)
    | rules g1 _ g3 _ => rw [h1] at g1; cases g1; exact absurd g3 (fault_wrong h3 h4)
  | cycle h1 h2 h3 h4 => cases h' with
    | text g1 => rw [h1] at g1; cases g1
    | sheet g1 g2 g3 => rw [h1] at g1; cases g1; exact absurd h2 (fault_wrong g2 g3)
    | sheets g1 _ g3 g4 => rw [h1] at g1; cases g1; exact absurd h3 (fault_wrong g3 g4)
    | cycle g1 _ _ _ => exact ⟨rfl, rfl, rfl⟩
    | rules g1 _ _ g4 => rw [h1] at g1; cases g1; rw [h4] at g4; cases g4
  | rules h1 h2 h3 h4 => cases h' with
    | text g1 => rw [h1] at g1; cases g1
    | sheet g1 g2 g3 => rw [h1] at g1; cases g1; exact absurd h2 (fault_wrong g2 g3)
    | sheets g1 _ g3 g4 => rw [h1] at g1; cases g1; exact absurd h3 (fault_wrong g3 g4)
    | cycle g1 _ _ g4 => rw [h1] at g1; cases g1; rw [h4] at g4; cases g4
    | rules g1 _ _ _ => rw [h1] at g1; cases g1; exact ⟨rfl, rfl, rfl⟩
  | drop => cases h'; exact ⟨rfl, rfl, rfl⟩
  | out h1 => cases h' with
    | out g1 => rw [h1] at g1; cases g1; exact ⟨rfl, rfl, rfl⟩
    | file g1 _ => rw [h1] at g1; cases g1
    | none g1 _ => rw [h1] at g1; cases g1
  | file h1 h2 => cases h' with
    | out g1 => rw [h1] at g1; cases g1
    | file _ g2 => rw [h2] at g2; cases g2; exact ⟨rfl, rfl, rfl⟩
    | none _ g2 => rw [h2] at g2; cases g2
  | none h1 h2 => cases h' with
    | out g1 => rw [h1] at g1; cases g1
    | file _ g2 => rw [h2] at g2; cases g2
    | none _ _ => exact ⟨rfl, rfl, rfl⟩
  | want h1 => cases h' with
    | want _ => exact ⟨rfl, rfl, rfl⟩
    | wants g1 => exact absurd h1 g1
  | wants h1 => cases h' with
    | want g1 => exact absurd g1 h1
    | wants _ => exact ⟨rfl, rfl, rfl⟩
def LineDoes (a : SS) (s : List UInt8) (t : List UInt8) (b : SS) : Prop := ∃ c x, Does a (cmdOf s) c x b ∧ t = if c = 0 then x else errTx c
theorem LineDoes.one {a b b' : SS} {s t t' : List UInt8} (h : LineDoes a s t b) (h' : LineDoes a s t' b') : t = t' ∧ b = b' := by
  obtain ⟨c, x, h1, rfl⟩ := h
  obtain ⟨c', x', h2, rfl⟩ := h'
  obtain ⟨rfl, rfl, rfl⟩ := h1.one h2
  exact ⟨rfl, rfl⟩
inductive Script (a : SS) : List (List UInt8) → List (List UInt8) → SS → Prop
  | nil : Script a [] [] a
  | snoc {l r : List (List UInt8)} {s t : List UInt8} {b d : SS} : Script a l r b → LineDoes b s t d → Script a (l ++ [s]) (r ++ [t]) d
theorem Script.len {a b : SS} {l r : List (List UInt8)} (h : Script a l r b) : r.length = l.length := by
  induction h with
  | nil => rfl
  | snoc _ _ ih => rw [List.length_append, List.length_append, ih]; rfl
theorem Script.one {a b : SS} {l r : List (List UInt8)} (h1 : Script a l r b) : ∀ {r2 : List (List UInt8)} {b2 : SS}, Script a l r2 b2 → r = r2 ∧ b = b2 := by
  induction h1 with
  | nil =>
    intro r2 b2 h2
    generalize hl : ([] : List (List UInt8)) = l at h2
    cases h2 with
    | nil => exact ⟨rfl, rfl⟩
    | snoc _ _ => simp at hl
  | @snoc l r s t b d h hd ih =>
    intro r2 b2 h2
    generalize hl : l ++ [s] = l2 at h2
    cases h2 with
    | nil => simp at hl
    | snoc h3 h4 =>
      obtain ⟨rfl, rfl⟩ := snoc_inj hl
      obtain ⟨rfl, rfl⟩ := ih h3
      obtain ⟨rfl, rfl⟩ := hd.one h4
      exact ⟨rfl, rfl⟩
theorem Script.ahead {a b : SS} {l r : List (List UInt8)} (h : Script a l r b) (k : Nat) (hk : k ≤ l.length) : ∃ d, Script a (l.take k) (r.take k) d := by
  induction h with
  | nil => exact ⟨a, by simp only [List.take_nil]; exact .nil⟩
  | @snoc l r s t b d h hd ih =>
    have hlen := h.len
    by_cases e : k ≤ l.length
    · rw [List.take_append_of_le_length e, List.take_append_of_le_length (by omega)]
      exact ih e
    · rw [List.length_append, List.length_singleton] at hk
      rw [List.take_of_length_le (by rw [List.length_append, List.length_singleton]; omega), List.take_of_length_le (by rw [List.length_append, List.length_singleton]; omega)]
      exact ⟨d, .snoc h hd⟩
theorem Script.at {a b : SS} {l r : List (List UInt8)} (h : Script a l r b) (i : Nat) (hi : i < l.length) (hr : i < r.length) : ∃ d e, LineDoes d l[i] r[i] e := by
  induction h with
  | nil => simp at hi
  | @snoc l r s t b d h hd ih =>
    have hlen := h.len
    by_cases e : i < l.length
    · rw [List.getElem_append_left e, List.getElem_append_left (by omega)]
      exact ih e (by omega)
    · rw [List.length_append, List.length_singleton] at hi
      obtain rfl : i = l.length := by omega
      refine ⟨b, d, ?_⟩
      rw [List.getElem_append_right (Nat.le_refl _), List.getElem_append_right (by omega)]
      simpa using hd
def wordsL : List (List UInt8) := [[112, 117, 116], [100, 114, 111, 112], [114, 117, 108, 101], [99, 108, 101, 97, 114], [109, 97, 107, 101], [115, 104, 111, 119], [119, 97, 110, 116], [115, 116, 97, 108, 101], [111, 114, 100, 101, 114], [108, 101, 97, 118, 101, 115], [102, 105, 108, 101, 115]]
theorem line_cut (s : List UInt8) : (32 ∉ s ∧ spl 32 s = [s] ∧ Lib.cut s [32] = (s, [], false)) ∨ ∃ h r, s = h ++ 32 :: r ∧ 32 ∉ h ∧ spl 32 s = h :: spl 32 r ∧ Lib.cut s [32] = (h, r, true) := by
  by_cases h : 32 ∈ s
  · obtain ⟨a, r, rfl, ha⟩ := split_at h
    exact Or.inr ⟨a, r, rfl, ha, spl_hit ha, cut_at ha⟩
  · exact Or.inl ⟨h, spl_miss h, cut_miss h⟩
theorem about_bad {w : List UInt8} {l : List (List UInt8)} (h1 : w ≠ [109, 97, 107, 101]) (h2 : w ≠ [100, 114, 111, 112]) (h3 : w ≠ [115, 104, 111, 119]) (h4 : w ≠ [119, 97, 110, 116]) : aboutC w l = .bad := by
  unfold aboutC
  simp only [h1, h2, h3, h4, if_false]
  split
  · split <;> rfl
  · rfl
theorem word_bad {s h : List UInt8} {l : List (List UInt8)} (hs : spl 32 s = h :: l) (hn : h ∉ wordsL ∨ (h ∈ wordsL.drop 7 ∧ h ≠ s)) : cmdOf s = .bad := by
  rcases line_cut s with ⟨hb, h1, h2⟩ | ⟨a, r, rfl, ha, h1, h2⟩
  · rw [h1] at hs
    obtain ⟨rfl, rfl⟩ := List.cons.inj hs
    rcases hn with hn | ⟨-, hn⟩
    case inr => exact absurd rfl hn
    unfold wordsL at hn
    simp only [List.mem_cons, List.not_mem_nil, or_false, not_or] at hn
    obtain ⟨n0, n1, n2, n3, n4, n5, n6, n7, n8, n9, n10⟩ := hn
    unfold cmdOf
    rw [if_neg n3, if_neg n7, if_neg n8, if_neg n9, if_neg n10, if_neg n4, h2, if_pos rfl]
  · rw [h1] at hs
    obtain ⟨rfl, rfl⟩ := List.cons.inj hs
    have hbl : ∀ t : List UInt8, 32 ∉ t → a ++ 32 :: r ≠ t := fun t ht e => ht (e ▸ List.mem_append_right _ List.mem_cons_self)
    have hne : a ≠ [112, 117, 116] ∧ a ≠ [100, 114, 111, 112] ∧ a ≠ [114, 117, 108, 101] ∧ a ≠ [109, 97, 107, 101] ∧ a ≠ [115, 104, 111, 119] ∧ a ≠ [119, 97, 110, 116] := by
      rcases hn with hn | ⟨hn, -⟩
      · unfold wordsL at hn
        simp only [List.mem_cons, List.not_mem_nil, or_false, not_or] at hn
        obtain ⟨n0, n1, n2, n3, n4, n5, n6, n7, n8, n9, n10⟩ := hn
        exact ⟨n0, n1, n2, n4, n5, n6⟩
      · have hn2 : a ∈ ([[115, 116, 97, 108, 101], [111, 114, 100, 101, 114], [108, 101, 97, 118, 101, 115], [102, 105, 108, 101, 115]] : List (List UInt8)) := hn
        simp only [List.mem_cons, List.not_mem_nil, or_false] at hn2
        rcases hn2 with rfl | rfl | rfl | rfl <;> decide
    obtain ⟨n0, n1, n2, n3, n4, n5⟩ := hne
    unfold cmdOf
    rw [if_neg (hbl _ (by decide)), if_neg (hbl _ (by decide)), if_neg (hbl _ (by decide)), if_neg (hbl _ (by decide)), if_neg (hbl _ (by decide)), if_neg (hbl _ (by decide)), h2]
    simp only
    rw [if_neg (by decide), if_neg n0, if_neg n2]
    exact about_bad n3 n1 n4 n5
theorem bad_text {a b : SS} {s t : List UInt8} (h : LineDoes a s t b) (hc : cmdOf s = .bad) : t = errTx 1 := by
  obtain ⟨c, x, h1, rfl⟩ := h
  rw [hc] at h1
  cases h1
  rfl
def ErrTxt (w : World) (S : Nat → Addr) : Prop := ∀ k, k < 12 → w.cell? (S k) = some (str (errTx (k + 1)))
theorem ErrTxt.below {w w' : World} {S : Nat → Addr} (h : ErrTxt w S) (hb : Below w.heap.size w w') : ErrTxt w' S := fun k hk => (hb.cell (lt_of_cell (h k hk))).trans (h k hk)
def ErrIs (S : Nat → Addr) (c : Nat) (err : Value) (w : World) : Prop :=
  (c = 0 ∧ err = .nilIface) ∨ (1 ≤ c ∧ c ≤ 12 ∧ (err = errI (S (c - 1)) ∨ ∃ g i, err = .iface 220 (.pointer (some ⟨g, 0, none⟩)) ∧ w.heap[g]? = some (.cells #[.int .i64 i, errI (S (c - 1))] 222 (0, 0))))
theorem ErrIs.fr {S : Nat → Addr} {c : Nat} {err : Value} {w w' : World} {Q : Nat → Prop} (h : ErrIs S c err w) (hf : Fr w.heap.size Q w w') (hQ : ∀ q cs, w.heap[q]? = some (.cells cs 222 (0, 0)) → ¬ Q q) : ErrIs S c err w' := by
  rcases h with h | ⟨h1, h2, h | ⟨g, i, h3, h4⟩⟩
  · exact Or.inl h
  · exact Or.inr ⟨h1, h2, Or.inl h⟩
  · exact Or.inr ⟨h1, h2, Or.inr ⟨g, i, h3, (hf.block g (lt_of_heap h4) (hQ g _ h4)).trans h4⟩⟩
theorem ErrIs.below {S : Nat → Addr} {c : Nat} {err : Value} {w w' : World} (h : ErrIs S c err w) (hb : Below w.heap.size w w') : ErrIs S c err w' := h.fr (Q := fun _ => False) (Fr.of_below hb) (fun _ _ _ => id)
theorem ErrIs.nil {S : Nat → Addr} {w : World} : ErrIs S 0 .nilIface w := Or.inl ⟨rfl, rfl⟩
theorem ErrIs.some {S : Nat → Addr} {w : World} {k : Nat} (h : k < 12) : ErrIs S (k + 1) (errI (S k)) w := Or.inr ⟨by omega, by omega, Or.inl rfl⟩
theorem ErrIs.code {S : Nat → Addr} {w : World} {c : Nat} (h : c ≤ 12) : ErrIs S c (codeV S c) w := by
  unfold codeV
  split
  · rename_i h0; exact Or.inl ⟨h0, rfl⟩
  · exact Or.inr ⟨by omega, h, Or.inl rfl⟩
theorem ErrIs.sheet {S : Nat → Addr} {l : List RuleL} {B : Nat} {err : Value} {w : World} {c : Nat} {p : Int} (h : SheetBad S l B err w) (hf : FaultIs l c p) : 0 < c ∧ ErrIs S c err w := by
  rcases h with ⟨h1, rfl⟩ | ⟨h0, i, r, m, g, h1, h2, h3, rfl, -, h6⟩
  · rcases hf with ⟨h2, -⟩ | ⟨-, rfl, -⟩ | ⟨h2, -⟩
    · omega
    · exact ⟨by omega, ErrIs.some (k := 1) (by omega)⟩
    · omega
  · rcases hf with ⟨-, h4, -⟩ | ⟨h4, -⟩ | ⟨-, i', r', m', g1, g2, g3, rfl, -⟩
    · have := h4 i r h2; omega
    · omega
    · have hii : i = i' := by
        rcases Nat.lt_trichotomy i i' with h | h | h
        · have := g1 i r h h2; omega
        · exact h
        · have := h1 i' r' h g2; omega
      subst hii
      have hrr : r = r' := Option.some.inj (h2.symm.trans g2)
      subst hrr
      have hmm : m = m' := by omega
      subst hmm
      have hle := errAt_le l i r
      exact ⟨by omega, Or.inr ⟨by omega, by omega, Or.inr ⟨g, i, rfl, h6⟩⟩⟩
theorem SheetBad.fault {S : Nat → Addr} {l : List RuleL} {B : Nat} {err : Value} {w : World} (h : SheetBad S l B err w) : ∃ c p, FaultIs l c p := by
  rcases h with ⟨h1, -⟩ | ⟨h0, i, r, m, g, h1, h2, h3, -, -, -⟩
  · exact ⟨2, -1, Or.inr (Or.inl ⟨h1, rfl, rfl⟩)⟩
  · exact ⟨m + 1, i, Or.inr (Or.inr ⟨h0, i, r, m, h1, h2, h3, rfl, rfl⟩)⟩
set_option maxRecDepth 1000000 in
set_option maxHeartbeats 4000000 in
theorem sbare_any {S : Nat → Addr} (w : World) (c : Nat) (err : Value) (hS : ErrW w S) (h : ErrIs S c err w) (hc : 0 < c) :
    Calls Tryz.prog 126 #[err] w fun e w' => e = .returned (errI (S (c - 1))) ∧ Below w.heap.size w w' := by
  rcases h with ⟨h, -⟩ | ⟨-, h12, rfl | ⟨g, i, rfl, hg⟩⟩
  · omega
  · go_enter Tryz.func126, Tryz.ntmps126
    go_wp2_with fail
    go_at_call 154
    have b1 : Below w.heap.size w (w.alloc (.cells #[.pointer none] 220)) := (Below.refl _ _).alloc (Nat.le_refl _) _
    have h1 := hS.below b1 (Nat.le_refl _)
    refine (as_miss _ _ _ h1.typ (by have := h1.big; omega)).mono ?_
    rintro e w2 ⟨rfl, hb2⟩
    have HB := Hd (b1.trans (hb2.mono (by simp)))
    clear b1 h1 hb2
    go_wp2
    go_ret
    exact ⟨rfl, HB.out⟩
  · have hg0 : w.cell? ⟨g, 1, none⟩ = some (errI (S (c - 1))) := (cell_of_heap hg 1).trans rfl
    go_enter Tryz.func126, Tryz.ntmps126
    go_wp2_with fail
    go_at_call 154
    have b1 : Below w.heap.size w (w.alloc (.cells #[.pointer none] 220)) := (Below.refl _ _).alloc (Nat.le_refl _) _
    have h1 := hS.below b1 (Nat.le_refl _)
    refine (as_hit _ _ (.pointer none) _ h1.typ (by have := h1.big; omega) (by simp) (by simp)).mono ?_
    rintro e w2 ⟨rfl, w1, hb1, hw2⟩
    have ht : w2.cell? ⟨w.heap.size, 0, none⟩ = some (.pointer (some ⟨g, 0, none⟩)) := by
      have hh : w1.heap[w.heap.size]? = some (.cells #[.pointer none] 220 (0, 0)) := (hb1.block _ (by simp)).trans (heap_alloc_here _ _)
      rw [hw2]
      exact (cell_of_heap (Kf.heap_setCell_same hh _) 0).trans rfl
    have b2 : Below w.heap.size w w2 := by
      rw [hw2]
      exact b1.trans ((hb1.mono (B' := w.heap.size) (by simp)).setCell (Nat.le_refl _) _)
    clear hw2
    have hg2 := (b2.cell (p := ⟨g, 1, none⟩) (lt_of_cell hg0)).trans hg0
    have HB := Hd b2
    clear b1 b2 h1 hb1 hg hg0 hS
    go_wp2
    go_ret
    exact ⟨rfl, HB.out⟩
def SS.new : SS := ⟨[], [], [], ⟨8, [], []⟩⟩
def hFiles : List Ent := [([97], [120, 10, 121])]
theorem hel_inP : inP oneL [0] (fun p => mlook p hFiles) (fun _ => st0) [97] = some [120, 10, 121] := by decide +kernel
theorem hel_ins {ins : List (List UInt8)} (h : (oneL.getD 0 noR).ins.map (inP oneL [0] (fun p => mlook p hFiles) (fun _ => st0)) = ins.map some) : ins = [[120, 10, 121]] := by
  have e : (oneL.getD 0 noR).ins = [[97]] := rfl
  rw [e, List.map_cons, List.map_nil, hel_inP] at h
  match ins, h with
  | [x], h =>
    simp only [List.map_cons, List.map_nil, List.cons.injEq, Option.some.injEq, and_true] at h
    rw [h]
theorem hel_act : actOf [117, 112, 112, 101, 114] [] [[120, 10, 121]] = (0, [88, 10, 89]) := by decide +kernel
theorem hel_all {c' : Option CS} {st' : Nat → St} {js : List Nat} (h : AllRel oneL [0] (fun p => mlook p hFiles) (some ⟨8, [], []⟩) (fun _ => st0) js c' st') : st' 0 = ⟨2, false, [88, 10, 89], 0⟩ := by
  generalize hc0 : some (⟨8, [], []⟩ : CS) = c0 at h
  generalize hs0 : (fun _ => st0 : Nat → St) = s0 at h
  cases h with
  | stop h1 =>
    subst hs0
    have : (0 : Nat) ∈ readyL oneL [0] (fun _ => st0) := List.mem_filter.2 ⟨List.mem_singleton_self 0, readyB_iff.2 one_ready⟩
    rw [h1] at this
    cases this
  | more h1 h2 h3 =>
    subst hs0
    obtain ⟨hk, -⟩ := ready_head h1
    obtain rfl := List.mem_singleton.1 hk
    cases h2 with
    | gone h4 h5 =>
      obtain ⟨s, hs, hn⟩ := h4
      have : s = [97] := List.mem_singleton.1 hs
      subst this
      rw [hel_inP] at hn
      cases hn
    | hit h4 h5 => cases hc0; cases h5
    | run h4 h5 h6 =>
      have := hel_ins h4
      subst this
      have h7 : actOf [117, 112, 112, 101, 114] [] [[120, 10, 121]] = _ := h6
      rw [hel_act] at h7
      cases h7
      cases h3 with
      | stop h8 => exact setSt_at _ _ _
      | more h8 h9 h10 =>
        obtain ⟨hk, hr, -⟩ := ready_head h8
        obtain rfl := List.mem_singleton.1 hk
        rw [setSt_at] at hr
        cases hr
    | bad h4 h5 h6 h7 =>
      have := hel_ins h4
      subst this
      have h8 : actOf [117, 112, 112, 101, 114] [] [[120, 10, 121]] = _ := h6
      rw [hel_act] at h8
      cases h8
theorem hel_make {n : Nat → Nat} {mo' : List Ent} {c' : CS} (h : MakeRel oneL [] (fun p => mlook p hFiles) [] ⟨8, [], []⟩ n mo' c') : n 0 = 1 ∧ n 1 = 0 ∧ n 2 = 0 ∧ n 3 = 0 ∧ mo' = [([98], [88, 10, 89])] := by
  obtain ⟨P, o, ks, js, ord, st', hpl, hN, hO, hall, hord, rfl, e0, e1, e2, e3⟩ := h
  have hP : P = [0] := by
    have h0 : (0 : Nat) ∈ P := by
      obtain ⟨h1, h2⟩ := hpl
      match ks, h1, h2, hN with
      | k :: _, h1, _, hN =>
        have : k < 1 := h1 k List.mem_cons_self
        obtain rfl : k = 0 := by omega
        exact (hN 0).2 (.base List.mem_cons_self)
    have hlt : ∀ k ∈ P, k = 0 := fun k hk => by have : k < 1 := hO.ok.lt k hk; omega
    match P, h0, hlt, hO.ok.nodup with
    | [a], _, hlt, _ => rw [hlt a List.mem_cons_self]
    | a :: b :: r, _, hlt, hnd =>
      have h1 := hlt a List.mem_cons_self
      have h2 := hlt b (List.mem_cons_of_mem _ List.mem_cons_self)
      exact absurd (h1.trans h2.symm) (fun e => (List.nodup_cons.1 hnd).1 (e ▸ List.mem_cons_self))
  subst hP
  have hst : st' 0 = ⟨2, false, [88, 10, 89], 0⟩ := hel_all hall
  have hord1 : orderB (edgesB oneL) (fun _ => true) oneL.length = some [0] := by decide +kernel
  rw [hord1] at hord
  cases hord
  have hlay : [0].foldl (layOne oneL [0] st') [] = [([98], [88, 10, 89])] := by
    rw [List.foldl_cons, List.foldl_nil]
    unfold layOne rSt
    rw [hst]
    decide +kernel
  refine ⟨?_, ?_, ?_, ?_, hlay⟩
  · rw [e0]; unfold cntP isRan; simp [hst]
  · rw [e1]; unfold cntP isHit; simp [hst]
  · rw [e2]; unfold cntP isFailed; simp [hst]
  · rw [e3]; unfold cntP isLeft; simp [hst]
theorem Script.back {a b : SS} {l r : List (List UInt8)} {s : List UInt8} (h : Script a (l ++ [s]) r b) : ∃ r' t d, r = r' ++ [t] ∧ Script a l r' d ∧ LineDoes d s t b := by
  generalize hl : l ++ [s] = l2 at h
  cases h with
  | nil => simp at hl
  | snoc h3 h4 =>
    obtain ⟨rfl, rfl⟩ := snoc_inj hl
    exact ⟨_, _, _, rfl, h3, h4⟩
def hLines : List (List UInt8) := [[112, 117, 116, 32, 97, 32, 120, 59, 121], [114, 117, 108, 101, 32, 98, 32, 61, 32, 117, 112, 112, 101, 114, 32, 97], [109, 97, 107, 101], [115, 104, 111, 119, 32, 98]]
theorem hel_one {t : List UInt8} {b : SS} (h : LineDoes SS.new [112, 117, 116, 32, 97, 32, 120, 59, 121] t b) : t = okT ∧ b = ⟨[], hFiles, [], ⟨8, [], []⟩⟩ := by
  obtain ⟨c, x, h1, rfl⟩ := h
  rw [show cmdOf [112, 117, 116, 32, 97, 32, 120, 59, 121] = .put [97] [120, 10, 121] by rfl] at h1
  cases h1
  rw [show putC [97] [120, 10, 121] SS.new.m = 0 by decide +kernel, if_pos rfl]
  exact ⟨rfl, by rw [show putM [97] [120, 10, 121] SS.new.m = hFiles by decide +kernel]; rfl⟩
theorem hel_read : readB [98, 32, 61, 32, 117, 112, 112, 101, 114, 32, 97, 10] = some oneL := by rfl
theorem hel_two {t : List UInt8} {b : SS} (h : LineDoes ⟨[], hFiles, [], ⟨8, [], []⟩⟩ [114, 117, 108, 101, 32, 98, 32, 61, 32, 117, 112, 112, 101, 114, 32, 97] t b) : t = okT ∧ b = ⟨oneL, hFiles, [], ⟨8, [], []⟩⟩ := by
  obtain ⟨c, x, h1, rfl⟩ := h
  rw [show cmdOf [114, 117, 108, 101, 32, 98, 32, 61, 32, 117, 112, 112, 101, 114, 32, 97] = .rule [98, 32, 61, 32, 117, 112, 112, 101, 114, 32, 97, 10] by rfl] at h1
  cases h1 with
  | text h => rw [hel_read] at h; cases h
  | sheet h hf hc => rw [hel_read] at h; cases h; exact absurd oneL_right (fault_wrong hf hc)
  | sheets h hr hf hc => rw [hel_read] at h; cases h; exact absurd oneL_right (fault_wrong hf hc)
  | cycle h hr hr2 ho =>
    rw [hel_read] at h
    cases h
    exact absurd ho (by decide +kernel)
  | rules h hr hr2 ho =>
    rw [hel_read] at h
    cases h
    exact ⟨rfl, rfl⟩
theorem hel_three {t : List UInt8} {b : SS} (h : LineDoes ⟨oneL, hFiles, [], ⟨8, [], []⟩⟩ [109, 97, 107, 101] t b) : t = [49, 32, 48, 32, 48, 32, 48] ∧ b.mo = [([98], [88, 10, 89])] := by
  obtain ⟨c, x, h1, rfl⟩ := h
  rw [show cmdOf [109, 97, 107, 101] = .make [] by rfl] at h1
  cases h1 with
  | make h hm =>
    obtain ⟨e0, e1, e2, e3, e4⟩ := hel_make hm
    refine ⟨?_, e4⟩
    rw [if_pos rfl]
    unfold fourB
    rw [e0, e1, e2, e3]
    decide +kernel
  | made h => exact absurd (fun s hs => by cases hs) h
theorem hel_four {a b : SS} {t : List UInt8} (ha : a.mo = [([98], [88, 10, 89])]) (h : LineDoes a [115, 104, 111, 119, 32, 98] t b) : t = [88, 59, 89] := by
  obtain ⟨c, x, h1, rfl⟩ := h
  rw [show cmdOf [115, 104, 111, 119, 32, 98] = .show [98] by rfl] at h1
  have hl : mlook [98] a.mo = some [88, 10, 89] := by rw [ha]; decide +kernel
  cases h1 with
  | out h =>
    rw [hl] at h
    cases h
    rw [if_pos rfl]
    rfl
  | file h _ => rw [hl] at h; cases h
  | none h _ => rw [hl] at h; cases h
theorem hello_plain {r : List (List UInt8)} {b : SS} (h : Script SS.new hLines r b) : r = [okT, okT, [49, 32, 48, 32, 48, 32, 48], [88, 59, 89]] := by
  obtain ⟨r3, t4, d3, rfl, h3, l4⟩ := Script.back (l := [[112, 117, 116, 32, 97, 32, 120, 59, 121], [114, 117, 108, 101, 32, 98, 32, 61, 32, 117, 112, 112, 101, 114, 32, 97], [109, 97, 107, 101]]) h
  obtain ⟨r2, t3, d2, rfl, h2, l3⟩ := Script.back (l := [[112, 117, 116, 32, 97, 32, 120, 59, 121], [114, 117, 108, 101, 32, 98, 32, 61, 32, 117, 112, 112, 101, 114, 32, 97]]) h3
  obtain ⟨r1, t2, d1, rfl, h1, l2⟩ := Script.back (l := [[112, 117, 116, 32, 97, 32, 120, 59, 121]]) h2
  obtain ⟨r0, t1, d0, rfl, h0, l1⟩ := Script.back (l := []) h1
  generalize hn : ([] : List (List UInt8)) = l0 at h0
  cases h0 with
  | snoc _ _ => simp at hn
  | nil =>
    obtain ⟨rfl, rfl⟩ := hel_one l1
    obtain ⟨rfl, rfl⟩ := hel_two l2
    obtain ⟨rfl, e3⟩ := hel_three l3
    obtain rfl := hel_four e3 l4
    rfl
end Go.Proofs.YtgjialbmlhbngaaGreatDoor
