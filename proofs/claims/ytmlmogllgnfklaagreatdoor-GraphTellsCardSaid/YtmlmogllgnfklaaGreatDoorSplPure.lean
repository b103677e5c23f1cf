/-
  A text cut at a byte: the plain function, and that the library's words for it say the same.
-/
import Derived.Lib.Bytealg
import Derived.Lib.IndexLaws
import Derived.Lib.IndexBytes
import Derived.Lib.Split
import Derived.Lib.SplitLaws
import Derived.Lib.CountLaws
namespace Go.Kf
open Go

/-- A text cut at each byte c. -/
def spl (c : UInt8) : List UInt8 → List (List UInt8)
  | [] => [[]]
  | b :: l => if b = c then [] :: spl c l else match spl c l with
    | [] => [[b]]
    | h :: t => (b :: h) :: t
theorem spl_ne (c : UInt8) : ∀ l, spl c l ≠ []
  | [] => by simp [spl]
  | b :: l => by
    unfold spl
    split
    · simp
    · split <;> simp
theorem spl_nil (c : UInt8) : spl c [] = [[]] := rfl
/-- No such byte: one piece. -/
theorem spl_miss {c : UInt8} : ∀ {l : List UInt8}, c ∉ l → spl c l = [l]
  | [], _ => rfl
  | b :: l, h => by
    unfold spl
    rw [if_neg (fun e => h (by rw [e]; exact List.mem_cons_self)), spl_miss (l := l) (fun hm => h (List.mem_cons_of_mem _ hm))]
/-- The first piece, and the rest. -/
theorem spl_hit {c : UInt8} : ∀ {p l : List UInt8}, c ∉ p → spl c (p ++ c :: l) = p :: spl c l
  | [], l, _ => by rw [List.nil_append, spl, if_pos rfl]
  | b :: p, l, h => by
    rw [List.cons_append, spl, if_neg (fun e => h (by rw [e]; exact List.mem_cons_self)), spl_hit (p := p) (fun hm => h (List.mem_cons_of_mem _ hm))]
theorem spl_length_le (c : UInt8) : ∀ l, (spl c l).length ≤ l.length + 1
  | [] => by simp [spl]
  | b :: l => by
    have ih := spl_length_le c l
    have hne := spl_ne c l
    unfold spl
    split
    · simp; omega
    · cases hs : spl c l with
      | nil => exact absurd hs hne
      | cons h t => rw [hs] at ih; simp at ih ⊢; omega
theorem spl_length_pos (c : UInt8) (l : List UInt8) : 1 ≤ (spl c l).length := by
  have := spl_ne c l
  cases h : spl c l with
  | nil => exact absurd h this
  | cons a b => simp
theorem spl_mem_len (c : UInt8) : ∀ l, ∀ s ∈ spl c l, s.length ≤ l.length
  | [], s, h => by simp [spl] at h; simp [h]
  | b :: l, s, h => by
    have ih := spl_mem_len c l
    have hne := spl_ne c l
    unfold spl at h
    split at h
    · rcases List.mem_cons.1 h with rfl | h
      · simp
      · have := ih s h; simp; omega
    · cases hs : spl c l with
      | nil => exact absurd hs hne
      | cons a t =>
        rw [hs] at h ih
        rcases List.mem_cons.1 h with rfl | h
        · have := ih a List.mem_cons_self; simp; omega
        · have := ih s (List.mem_cons_of_mem _ h); simp; omega
theorem spl_not_mem (c : UInt8) : ∀ l, ∀ s ∈ spl c l, c ∉ s
  | [], s, h => by simp [spl] at h; simp [h]
  | b :: l, s, h => by
    have ih := spl_not_mem c l
    have hne := spl_ne c l
    unfold spl at h
    split at h
    · rcases List.mem_cons.1 h with rfl | h
      · simp
      · exact ih s h
    · rename_i hb
      cases hs : spl c l with
      | nil => exact absurd hs hne
      | cons a t =>
        rw [hs] at h ih
        rcases List.mem_cons.1 h with rfl | h
        · intro hm
          rcases List.mem_cons.1 hm with rfl | hm
          · exact hb rfl
          · exact ih a List.mem_cons_self hm
        · exact ih s (List.mem_cons_of_mem _ h)

/-- Where a byte first stands, in the library's word. -/
theorem indexByte_cases (l : List UInt8) (c : UInt8) : (Lib.indexByte l c = -1 ∧ c ∉ l) ∨ ∃ (p q : List UInt8), l = p ++ c :: q ∧ c ∉ p ∧ Lib.indexByte l c = (p.length : Int) := by
  induction l with
  | nil => exact Or.inl ⟨rfl, by simp⟩
  | cons b l ih =>
    unfold Lib.indexByte
    by_cases h : b = c
    · subst h
      exact Or.inr ⟨[], l, rfl, by simp, by simp⟩
    · have h' : (b == c) = false := by simpa using h
      rw [h', if_neg (by simp)]
      rcases ih with ⟨h1, h2⟩ | ⟨p, q, rfl, h2, h3⟩
      · refine Or.inl ⟨by rw [h1]; rfl, ?_⟩
        intro hm
        rcases List.mem_cons.1 hm with rfl | hm
        · exact h rfl
        · exact h2 hm
      · refine Or.inr ⟨b :: p, q, rfl, ?_, ?_⟩
        · intro hm
          rcases List.mem_cons.1 hm with rfl | hm
          · exact h rfl
          · exact h2 hm
        · rw [h3, if_neg (by simp)]
          simp

theorem extract_list (l : List UInt8) (a b : Nat) : (⟨l.toArray⟩ : ByteArray).extract a b = ⟨((l.drop a).take (b - a)).toArray⟩ := by
  apply ByteArray.ext
  apply Array.toList_inj.1
  simp [ByteArray.data_extract]

/-- strings.Split's word. -/
theorem splitB_spl (c : UInt8) : ∀ (k : Nat) (s : List UInt8), Lib.countB ⟨s.toArray⟩ ⟨#[c]⟩ = k → (Lib.splitB ⟨#[c]⟩ 0 k ⟨s.toArray⟩) = (spl c s).map fun l => ⟨l.toArray⟩ := by
  intro k
  induction k with
  | zero =>
    intro s hc
    rw [Lib.splitB_zero]
    rcases indexByte_cases s c with ⟨h1, h2⟩ | ⟨p, q, rfl, h2, h3⟩
    · rw [spl_miss h2]; rfl
    · have hi : Lib.indexB ⟨(p ++ c :: q).toArray⟩ ⟨#[c]⟩ = (p.length : Nat) := by
        show Lib.index (p ++ c :: q) [c] = _
        rw [Lib.index_one, h3]
      have := Lib.countB_hit ⟨(p ++ c :: q).toArray⟩ ⟨#[c]⟩ p.length (Nat.le_refl 1) hi
      omega
  | succ k ih =>
    intro s hc
    rcases indexByte_cases s c with ⟨h1, h2⟩ | ⟨p, q, rfl, h2, h3⟩
    · have hi : Lib.indexB ⟨s.toArray⟩ ⟨#[c]⟩ = -1 := by
        show Lib.index s [c] = _
        rw [Lib.index_one, h1]
      have := Lib.countB_miss ⟨s.toArray⟩ ⟨#[c]⟩ hi
      omega
    · have hi : Lib.indexB ⟨(p ++ c :: q).toArray⟩ ⟨#[c]⟩ = (p.length : Nat) := by
        show Lib.index (p ++ c :: q) [c] = _
        rw [Lib.index_one, h3]
      have h4 := Lib.countB_hit ⟨(p ++ c :: q).toArray⟩ ⟨#[c]⟩ p.length (Nat.le_refl 1) hi
      rw [Lib.splitB_hit _ _ _ _ _ hi, spl_hit h2, List.map_cons]
      have hex : (⟨(p ++ c :: q).toArray⟩ : ByteArray).extract (p.length + (⟨#[c]⟩ : ByteArray).size) (⟨(p ++ c :: q).toArray⟩ : ByteArray).size = ⟨q.toArray⟩ := by
        rw [extract_list]
        congr 2
        have e1 : (⟨#[c]⟩ : ByteArray).size = 1 := rfl
        have e2 : (⟨(p ++ c :: q).toArray⟩ : ByteArray).size = p.length + (q.length + 1) := by simp [ByteArray.size]
        rw [e1, e2, List.drop_append, List.drop_of_length_le (by omega)]
        simp only [List.nil_append, Nat.add_sub_cancel_left, List.drop_succ_cons, List.drop_zero]
        exact List.take_of_length_le (by omega)
      rw [hex] at h4 ⊢
      rw [ih q (by omega)]
      congr 1
      rw [extract_list]
      congr 2
      simp
theorem countB_spl (c : UInt8) (s : List UInt8) : Lib.countB ⟨s.toArray⟩ ⟨#[c]⟩ + 1 = (spl c s).length := by
  have h := Lib.splitB_all ⟨#[c]⟩ (Nat.le_refl 1) 0 _ ⟨s.toArray⟩ rfl
  rw [splitB_spl c _ s rfl, List.length_map] at h
  exact h.symm
end Go.Kf
