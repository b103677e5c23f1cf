/-
  The kinds sort and count on a built slice; what the law ActSorts compares.
-/
import Derived.Test.YtmkpeopebddnjaaGreatDoorActC
import Derived.Deep.RegionHeld3
namespace Go.Proofs.YtmkpeopebddnjaaGreatDoor
open Go Go.RowKit Go.Kf Go.Sort

/-- A slice of texts that is built here. -/
theorem reads_built (ins : List (List UInt8)) (w : World) (n : Nat) (hn : ins.length = n) (h : n ≤ 1000) : Reads (w.alloc (.cells (ins.map str).toArray 9)) (.slice (some ⟨w.heap.size, 0, none⟩) n n) (ins.map str) := by
  subst hn
  refine ⟨_, _, by rw [List.length_map], by rw [List.length_map]; omega, fun i u hi => ⟨w.heap.size, 0, rfl, ?_⟩⟩
  rw [cell_of_heap (heap_alloc_here w _), Nat.zero_add]
  simpa using hi

set_option maxRecDepth 100000 in
/-- The kind sort, on a built slice. -/
theorem run_sort (word : List UInt8) (ins : List (List UInt8)) (n : Nat) (hn : ins.length = n) (h1 : 1 ≤ n) (h8 : n ≤ 8) (hw : word = [] ∨ word = onceB) (hx : ∀ s ∈ ins, s.length ≤ 10000) (hl : (endedL (allB ins)).length ≤ 2000) (w : World) (hm : Ml w) :
    Calls Tryz.prog 27 #[str [115, 111, 114, 116], str word, .slice (some ⟨w.heap.size, 0, none⟩) n n] (w.alloc (.cells (ins.map str).toArray 9)) fun e w' => e = .returned (.tuple #[str (endedL (sortedC word (allB ins))), .nilIface]) ∧ Below w.heap.size w w' := by
  have hA : Below w.heap.size w (w.alloc (.cells (ins.map str).toArray 9)) := (Below.refl _ w).alloc (Nat.le_refl _) _
  have hrd := reads_built ins w n hn (by omega)
  have hmA := hm.below hA (Nat.le_refl _)
  subst hn
  refine (run_ok [115, 111, 114, 116] word (endedL (sortedC word (allB ins))) _ ins ⟨1, 8, 75, 76⟩ _ hrd (by kernel_rfl) (by show (1 : Int) ≤ _; omega) (by show _ ≤ (8 : Int); omega) (sort_word _ _ word hw) (by rcases hw with rfl | rfl <;> decide) (fun _ _ => rfl) (fun _ _ => rfl)
    (fun w1 hb1 => sorted_any word _ ins w1 (hrd.below0 hb1) (hmA.below hb1 (Nat.le_refl _)) (by omega) hx (by omega)) (Nat.le_trans (sortedC_len _ _) hl)).mono ?_
  rintro e w' ⟨rfl, hb⟩
  exact ⟨rfl, hA.trans (hb.mono hA.size)⟩

theorem countB_len {ins : List (List UInt8)} (hn : ins.length ≤ 8) (hx : ∀ s ∈ ins, s.length ≤ 10000) : (countB ins).length ≤ 100 := by
  have h1 := allB_len hx
  have h2 := sum_lens hx
  have h3 := digits_le6 (allB ins).length (by omega)
  have h4 := digits_le6 (ins.map List.length).sum (by omega)
  unfold countB
  simp only [List.length_append, List.length_cons, List.length_nil]
  omega

set_option maxRecDepth 100000 in
/-- The kind count, on a built slice. -/
theorem run_count (ins : List (List UInt8)) (n : Nat) (hn : ins.length = n) (h1 : 1 ≤ n) (h8 : n ≤ 8) (hx : ∀ s ∈ ins, s.length ≤ 10000) (w : World) (hm : Ml w) (ht : Tab w) :
    Calls Tryz.prog 27 #[str [99, 111, 117, 110, 116], str [], .slice (some ⟨w.heap.size, 0, none⟩) n n] (w.alloc (.cells (ins.map str).toArray 9)) fun e w' => e = .returned (.tuple #[str (countB ins), .nilIface]) ∧ Below w.heap.size w w' := by
  have hA : Below w.heap.size w (w.alloc (.cells (ins.map str).toArray 9)) := (Below.refl _ w).alloc (Nat.le_refl _) _
  have hrd := reads_built ins w n hn (by omega)
  have hmA := hm.below hA (Nat.le_refl _)
  have htA := tab_below ht hA (Nat.le_refl _)
  subst hn
  refine (run_ok [99, 111, 117, 110, 116] [] (countB ins) _ ins ⟨1, 8, 72, 77⟩ _ hrd (by kernel_rfl) (by show (1 : Int) ≤ _; omega) (by show _ ≤ (8 : Int); omega) (empty_word _ _) (by decide) (fun _ _ => rfl) (fun _ _ => rfl)
    (fun w1 hb1 => count_any [] _ ins w1 (hrd.below0 hb1) (hmA.below hb1 (Nat.le_refl _)) (tab_below htA hb1 (Nat.le_refl _)) (by omega) hx) (Nat.le_trans (countB_len h8 hx) (by decide))).mono ?_
  rintro e w' ⟨rfl, hb⟩
  exact ⟨rfl, hA.trans (hb.mono hA.size)⟩

/-- All that the law compares, of three texts. -/
structure SortsOf (a b c : List UInt8) (L C : List (List UInt8)) : Prop where
  xs : endedL (sortedC [] (allB [a, b, c])) = endedL L
  ys : endedL (sortedC [] (allB [c, a, b])) = endedL L
  zs : endedL (sortedC [] (allB [endedL L])) = endedL L
  us : endedL (sortedC onceB (allB [endedL L])) = endedL C
  la : (endedL (allB [a, b, c])).length ≤ 1503
  lc : (endedL (allB [c, a, b])).length ≤ 1503
  lx : (endedL L).length ≤ 1503
  lxa : (endedL (allB [endedL L])).length ≤ 1503
  lu : (endedL C).length ≤ 1503
  xl : linesB (endedL L) = L
  ul : linesB (endedL C) = C
  n1 : ∃ r, spl 32 (countB [a, b, c]) = Lib.decDigits L.length :: r
  n2 : ∃ r, spl 32 (countB [endedL L]) = Lib.decDigits L.length :: r
  up : ∀ (i : Nat) (h : i + 1 < L.length), ¬ L[i + 1] < L[i]
  cc : C = Lib.compact L

theorem sortsOf (a b c : List UInt8) (ha : a.length ≤ 500) (hb : b.length ≤ 500) (hc : c.length ≤ 500) : ∃ L C, SortsOf a b c L C := by
  have e0 : ∀ l, sortedC [] l = sortB l := fun l => if_neg (by decide)
  have e1 : ∀ l, sortedC onceB l = Lib.compact (sortB l) := fun l => if_pos rfl
  have hp : (allB [c, a, b]).Perm (allB [a, b, c]) := by
    have e : allB [c, a, b] = linesB c ++ (linesB a ++ linesB b) := by simp [allB]
    have e' : allB [a, b, c] = (linesB a ++ linesB b) ++ linesB c := by simp [allB]
    rw [e, e']
    exact List.perm_append_comm
  have hno : ∀ s ∈ sortB (allB [a, b, c]), (10 : UInt8) ∉ s := fun s hs => all_no ((sortB_perm _).mem_iff.1 hs)
  have hla : (endedL (allB [a, b, c])).length ≤ 1503 := by
    have := ended_all [a, b, c]
    simp only [List.map_cons, List.map_nil, List.sum_cons, List.sum_nil] at this
    omega
  have hpl := (sortB_perm (allB [a, b, c])).length_eq
  have hcount := count_head [a, b, c]
  rw [← hpl] at hcount
  have hlx : (endedL (sortB (allB [a, b, c]))).length ≤ 1503 := by rw [endedL_perm (sortB_perm _)]; exact hla
  have hlc : (endedL (allB [c, a, b])).length ≤ 1503 := by rw [endedL_perm hp]; exact hla
  have hys : sortB (allB [c, a, b]) = sortB (allB [a, b, c]) := sortB_eq hp
  have hid := sortB_idem (allB [a, b, c])
  have hso := sortB_sorted (allB [a, b, c])
  have hxs : sortB (allB [a, b, c]) = sortB (allB [a, b, c]) := rfl
  obtain ⟨L, hL⟩ : ∃ L, sortB (allB [a, b, c]) = L := ⟨_, rfl⟩
  rw [hL] at hno hcount hlx hys hid hso
  have hxl : linesB (endedL L) = L := lines_ended hno
  have hall : allB [endedL L] = L := by rw [allB_one, hxl]
  refine ⟨L, Lib.compact L, ?_, ?_, ?_, ?_, hla, hlc, hlx, ?_, Nat.le_trans (compact_len L) hlx, hxl, lines_ended (fun s hs => hno s (compact_mem hs)), hcount, ?_, ?_, rfl⟩
  · rw [e0, hL]
  · rw [e0, hys]
  · rw [e0, hall, hid]
  · rw [e1, hall, hid]
  · rw [hall]; exact hlx
  · have := count_head [endedL L]
    rw [hall] at this
    exact this
  · intro i h hlt
    have := List.pairwise_iff_getElem.1 hso i (i + 1) (by omega) h (by omega)
    exact absurd hlt (List.not_lt.2 (of_decide_eq_true this))

theorem reads_cells {w : World} {v : Value} {n : Nat} {l : List (List UInt8)} {base : Nat} {e : TypeId} (h : w.ownsRow base e 1 v n (l.map str)) : Reads w v (l.map str) := ownsRow_reads h

set_option maxRecDepth 100000 in
theorem cut_first (s d : List UInt8) (r : List (List UInt8)) (hs : spl 32 s = d :: r) (w : World) (hl : s.length ≤ 1000000) :
    Calls Tryz.prog 29 #[str s, .int .u8 32] w fun e w' => ∃ a n c b o, e = .returned (.slice a n c) ∧ Below w.heap.size w w' ∧ (∀ w'', (Instr.indexAt 39 (.slice a n c) (.int .i64 0)).run Tryz.prog w'' = .ok (.pointer (some ⟨b, o, none⟩)) w'') ∧ w'.cell? ⟨b, o, none⟩ = some (str d) := by
  refine (cut_any s 32 w hl).mono ?_
  rintro e w' ⟨v, rfl, ho, hb⟩
  have hr := ownsRow_reads ho
  rw [hs] at hr
  obtain ⟨a, c, rfl, -, -⟩ := id hr
  obtain ⟨b, o, hix, hce⟩ := hr.at (P := Tryz.prog) Tryz.underlying39 (by kernel_rfl) 0 (by simp)
  exact ⟨a, _, c, b, o, rfl, hb, hix, hce⟩

/-- A text whose first piece is d. -/
def CutOf (d s : List UInt8) : Prop := s.length ≤ 1000 ∧ ∃ r, spl 32 s = d :: r
theorem cut_of (d s : List UInt8) (h : CutOf d s) (w : World) :
    Calls Tryz.prog 29 #[str s, .int .u8 32] w fun e w' => ∃ a n c b o, e = .returned (.slice a n c) ∧ Below w.heap.size w w' ∧ (∀ w'', (Instr.indexAt 39 (.slice a n c) (.int .i64 0)).run Tryz.prog w'' = .ok (.pointer (some ⟨b, o, none⟩)) w'') ∧ w'.cell? ⟨b, o, none⟩ = some (str d) := by
  obtain ⟨hl, r, hr⟩ := h
  exact cut_first s d r hr w (by omega)

end Go.Proofs.YtmkpeopebddnjaaGreatDoor
