/-
  The walks of package path: parts, Check, Dir, Last.
-/
import Derived.Test.YtmlmogllgnfklaaGreatDoorPathW
namespace Go.Proofs.YtmlmogllgnfklaaGreatDoor
open Go Go.RowKit Go.Kf

theorem partsAt_below {w w' : World} {B : Nat} {v : Value} {l : List (List UInt8)} (h : PartsAt w B v l) (hb : Below w.heap.size w w') : PartsAt w' B v l := by
  obtain ⟨g, rfl, hB, hg, hc⟩ := h
  exact ⟨g, rfl, hB, Nat.lt_of_lt_of_le hg hb.size, fun j s hj => (hb.cell (p := ⟨g, j, none⟩) hg).trans (hc j s hj)⟩
theorem partsAt_reads {w : World} {B : Nat} {v : Value} {l : List (List UInt8)} (h : PartsAt w B v l) (hl : l.length ≤ 9223372036854775807) : Reads w v (l.map str) := by
  obtain ⟨g, rfl, hB, hg, hc⟩ := h
  refine ⟨_, l.length, by simp, by simpa using hl, fun i u hi => ⟨g, 0, rfl, ?_⟩⟩
  rw [List.getElem?_map] at hi
  obtain ⟨s, hs, rfl⟩ := Option.map_eq_some_iff.1 hi
  rw [Nat.zero_add]
  exact hc i s hs
theorem partsAt_made (w : World) (l : List (List UInt8)) (B : Nat) (hB : B ≤ w.heap.size) : PartsAt (w.alloc (.cells (l.map str).toArray 9)) B (.slice (some ⟨w.heap.size, 0, none⟩) l.length l.length) l :=
  ⟨_, rfl, hB, by simp, fun j s hj => by rw [cell_of_heap (heap_alloc_here w _)]; simp [hj]⟩

/-- What parts hands back. -/
def PartsPost (s : List UInt8) (stars : Bool) (w : World) (e : Ending) (w' : World) : Prop :=
  Below w.heap.size w w' ∧ ((partsL s stars = [] ∧ e = .returned (.slice none 0 0)) ∨ (partsL s stars ≠ [] ∧ ∃ v, e = .returned v ∧ PartsAt w' w.heap.size v (partsL s stars)))

set_option maxRecDepth 100000 in
theorem parts_any (s : List UInt8) (stars : Bool) (w : World) (hm : Ml w) (hs : s.length ≤ 1000000) : Calls Tryz.prog 85 #[str s, .bool stars] w (PartsPost s stars w) := by
  have b0 : Below w.heap.size w (w.alloc (.cells #[.bool stars] 4)) := (Below.refl _ _).alloc (Nat.le_refl _) _
  have hm0 := hm.below b0 (Nat.le_refl _)
  have hcell : (w.alloc (.cells #[.bool stars] 4)).cell? ⟨w.heap.size, 0, none⟩ = some (.bool stars) := by
    rw [cell_of_heap (heap_alloc_here w _)]; rfl
  have hp := partsAt_made (w.alloc (.cells #[.bool stars] 4)) (spl 47 s) w.heap.size b0.size
  rw [World.size_alloc] at hp
  have b1 := b0.trans (((Below.refl (w.alloc (.cells #[.bool stars] 4)).heap.size _).alloc (Nat.le_refl _) (.cells ((spl 47 s).map str).toArray 9)).mono (by simp))
  have hcell1 := (((Below.refl (w.alloc (.cells #[.bool stars] 4)).heap.size (w.alloc (.cells #[.bool stars] 4))).alloc (Nat.le_refl _) (.cells ((spl 47 s).map str).toArray 9)).cell (p := ⟨w.heap.size, 0, none⟩) (by simp)).trans hcell
  have hne := spl_ne 47 s
  have hlen := spl_length_le 47 s
  have HM0 := Lib.hid hm0
  have HP := Lib.hid hp
  have HB1 := Lib.hid b1
  have HC := Lib.hid hcell1
  clear hm0 hp b0 b1 hcell hcell1 hm
  by_cases h5 : (spl 47 s).length ≤ 5
  · cases hn : namesB stars (spl 47 s) with
    | true =>
      have hpl : partsL s stars = spl 47 s := by unfold partsL; rw [if_pos ⟨h5, hn⟩]
      have HPL := Lib.hid hpl
      have HN := Lib.hid hn
      have HNE := Lib.hid hne
      clear hpl hn hne
      go_enter Tryz.func85, Tryz.ntmps85
      go_wp2_with fail
      refine (split_any s _ HM0.out hs).mono ?_
      rintro e w1 ⟨rfl, hw1⟩
      rw [← hw1] at HP HB1 HC
      clear hw1
      go_wp2_with fail
      refine (containsParts_any stars _ (spl 47 s) w.heap.size w1 (partsAt_reads HP.out (by omega)) HC.out).mono ?_
      rw [HN.out]
      rintro e w2 ⟨rfl, hb2⟩
      go_wp2
      go_ret
      exact ⟨HB1.out.trans (hb2.mono HB1.out.size), Or.inr ⟨by rw [HPL.out]; exact HNE.out, _, rfl, by rw [HPL.out]; exact partsAt_below HP.out hb2⟩⟩
    | false =>
      have hpl : partsL s stars = [] := by unfold partsL; rw [if_neg (fun h => by rw [hn] at h; cases h.2)]
      have HPL := Lib.hid hpl
      have HN := Lib.hid hn
      clear hpl hn hne
      go_enter Tryz.func85, Tryz.ntmps85
      go_wp2_with fail
      refine (split_any s _ HM0.out hs).mono ?_
      rintro e w1 ⟨rfl, hw1⟩
      rw [← hw1] at HP HB1 HC
      clear hw1
      go_wp2_with fail
      refine (containsParts_any stars _ (spl 47 s) w.heap.size w1 (partsAt_reads HP.out (by omega)) HC.out).mono ?_
      rw [HN.out]
      rintro e w2 ⟨rfl, hb2⟩
      go_wp2
      go_ret
      exact ⟨HB1.out.trans (hb2.mono HB1.out.size), Or.inl ⟨HPL.out, rfl⟩⟩
  · have hpl : partsL s stars = [] := by unfold partsL; rw [if_neg (fun h => h5 h.1)]
    have HPL := Lib.hid hpl
    clear hpl hne
    go_enter Tryz.func85, Tryz.ntmps85
    go_wp2_with fail
    refine (split_any s _ HM0.out hs).mono ?_
    rintro e w1 ⟨rfl, hw1⟩
    rw [← hw1] at HP HB1 HC
    clear hw1
    go_wp2_with fail
    go_ret
    exact ⟨HB1.out, Or.inl ⟨HPL.out, rfl⟩⟩

/-- An error of package api. -/
abbrev errI (a : Addr) : Value := .iface 252 (.pointer (some a))
/-- The four errors that package path hands back. -/
structure PErr (w : World) (S : Nat → Addr) : Prop where
  bound : w.cell? ⟨2, 0, none⟩ = some (errI (S 1))
  shape : w.cell? ⟨5, 0, none⟩ = some (errI (S 2))
  name : w.cell? ⟨6, 0, none⟩ = some (errI (S 3))
  none : w.cell? ⟨0, 0, none⟩ = some (errI (S 5))
/-- The one error that Check hands back. -/
structure PErr1 (w : World) (S : Nat → Addr) : Prop where
  name : w.cell? ⟨6, 0, none⟩ = some (errI (S 3))
theorem PErr1.below {B : Nat} {w w' : World} {S : Nat → Addr} (h : PErr1 w S) (hb : Below B w w') (hB : w.heap.size ≤ B) : PErr1 w' S :=
  ⟨(hb.cell (by have := lt_of_cell h.name; omega)).trans h.name⟩
theorem PErr.p1 {w : World} {S : Nat → Addr} (h : PErr w S) : PErr1 w S := ⟨h.name⟩
theorem PErr.below {B : Nat} {w w' : World} {S : Nat → Addr} (h : PErr w S) (hb : Below B w w') (hB : w.heap.size ≤ B) : PErr w' S :=
  have keep : ∀ {p : Addr} {v : Value}, w.cell? p = some v → w'.cell? p = some v := fun hc => (hb.cell (by have := lt_of_cell hc; omega)).trans hc
  ⟨keep h.bound, keep h.shape, keep h.name, keep h.none⟩

theorem nilYes (w : World) : (binOp .eql 25 (.slice none 0 0) (.slice none 0 0)).run Tryz.prog w = .ok (.bool true) w :=
  Lib.run_eql_slice_nil w _ _ none 0 0 0 0 Tryz.underlying25
theorem nilNo (a : Addr) (n c : Nat) (w : World) : (binOp .eql 25 (.slice (some a) n c) (.slice none 0 0)).run Tryz.prog w = .ok (.bool false) w :=
  Lib.run_eql_slice_nil w _ _ (some a) n c 0 0 Tryz.underlying25

/-- What Check answers. -/
def checkV (S : Nat → Addr) (s : List UInt8) : Value := if partsL s false = [] then errI (S 3) else .nilIface

set_option maxRecDepth 100000 in
theorem check_any (s : List UInt8) (w : World) (S : Nat → Addr) (hm : Ml w) (hE : PErr1 w S) (hs : s.length ≤ 1000000) : Calls Tryz.prog 62 #[str s] w fun e w' => e = .returned (checkV S s) ∧ Below w.heap.size w w' := by
  have HP := Lib.hid (parts_any s false w hm hs)
  have HE := Lib.hid hE
  have q1 := nilYes
  have q2 := nilNo
  clear hm hE
  go_enter Tryz.func62, Tryz.ntmps62
  go_wp2_with fail
  refine HP.out.mono ?_
  rintro e w1 ⟨hb, ⟨h0, rfl⟩ | ⟨h0, v, rfl, hv⟩⟩
  · have c3 := (HE.out.below hb (Nat.le_refl _)).name
    have H0 := Lib.hid h0
    clear h0
    go_wp2
    go_ret
    exact ⟨by unfold checkV; rw [if_pos H0.out]; rfl, hb⟩
  · have H0 := Lib.hid h0
    obtain ⟨g, rfl, -⟩ := hv
    clear h0
    go_wp2
    go_ret
    exact ⟨by unfold checkV; rw [if_neg H0.out]; rfl, hb⟩

/-- All but the last part, and the last one. -/
def dirL (s : List UInt8) : List UInt8 := Lib.join (partsL s false).dropLast [47]
def lastL (s : List UInt8) : List UInt8 := (partsL s false).getLastD []

theorem join_len (l : List (List UInt8)) (n : Nat) (hl : ∀ s ∈ l, s.length ≤ n) : (Lib.join l [47]).length ≤ (n + 1) * l.length := by
  cases l with
  | nil => simp [Lib.join_nil]
  | cons x r =>
    rw [Lib.join_cons]
    have h1 : ∀ r : List (List UInt8), (∀ s ∈ r, s.length ≤ n) → (Lib.joinTail [47] r).length ≤ (n + 1) * r.length := by
      intro r
      induction r with
      | nil => simp [Lib.joinTail]
      | cons y r ih =>
        intro h
        have a := ih (fun s hs => h s (List.mem_cons_of_mem _ hs))
        have b := h y List.mem_cons_self
        unfold Lib.joinTail at a ⊢
        simp only [List.map_cons, List.flatten_cons, List.length_append, List.length_cons, List.length_nil] at a ⊢
        rw [Nat.mul_add]
        omega
    have a := h1 r (fun s hs => hl s (List.mem_cons_of_mem _ hs))
    have b := hl x List.mem_cons_self
    simp only [List.length_append, List.length_cons]
    rw [Nat.mul_add]
    omega
/-- strings.Join by a slash. -/
theorem join_any (g c : Nat) (l : List (List UInt8)) (w : World) (hg : g < w.heap.size) (hl : l.length ≤ 1000) (hlen : ∀ s ∈ l, s.length ≤ 1000000) (hc : l.length ≤ c) (hcell : ∀ (j : Nat) s, l[j]? = some s → w.cell? ⟨g, j, none⟩ = some (str s)) :
    Calls Tryz.prog 124 #[.slice (some ⟨g, 0, none⟩) l.length c, str [47]] w fun e w' => e = .returned (str (Lib.join l [47])) ∧ Below w.heap.size w w' := by
  have hj := join_len l 1000000 hlen
  have h := Tryz.strings_Join g 0 c (l.map fun x => ⟨x.toArray⟩) ⟨#[47]⟩ w (fun j x hx => ?_) hg (by simp; omega) (by simpa using hc) ?_
  · simp only [List.length_map, List.map_map] at h
    have e : l.map ((fun x : ByteArray => x.data.toList) ∘ fun x => (⟨x.toArray⟩ : ByteArray)) = l := by
      conv => rhs; rw [← List.map_id l]
      exact List.map_congr_left (fun x _ => by simp)
    rw [e] at h
    exact h
  · rw [List.getElem?_map] at hx
    obtain ⟨s, hs, rfl⟩ := Option.map_eq_some_iff.1 hx
    rw [Nat.zero_add]
    exact hcell j s hs
  · have e : l.map ((fun x : ByteArray => x.data.toList) ∘ fun x => (⟨x.toArray⟩ : ByteArray)) = l := by
      conv => rhs; rw [← List.map_id l]
      exact List.map_congr_left (fun x _ => by simp)
    rw [List.map_map, e]
    have : (⟨#[47]⟩ : ByteArray).data.toList = [47] := rfl
    rw [this]
    have := Nat.mul_le_mul_left (1000000 + 1) hl
    omega

theorem partsL_len (s : List UInt8) (b : Bool) : (partsL s b).length ≤ 5 := by
  unfold partsL
  split
  · rename_i h; exact h.1
  · simp
theorem partsL_mem (s : List UInt8) (b : Bool) : ∀ t ∈ partsL s b, t.length ≤ s.length := by
  unfold partsL
  split
  · exact spl_mem_len 47 s
  · intro t ht; simp at ht

end Go.Proofs.YtmlmogllgnfklaaGreatDoor
