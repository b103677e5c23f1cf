/-
  The walk of the law Names: it answers true in every world that bears the program's errors.
-/
import Derived.Test.YtmmgbgekcpbelaaDoorCodeF
import Derived.Test.YtmmgbgekcpbelaaDoorSame
namespace Go.Proofs.YtmmgbgekcpbelaaDoor
open Go Go.RowKit Go.Kf

theorem reads_of_heap {w : World} {b : Nat} {c : Array Value} {t : TypeId} (h : w.heap[b]? = some (.cells c t (0, 0))) (xs : List Value) (hx : c.toList = xs) (hl : xs.length ≤ 9223372036854775807) :
    Reads w (.slice (some ⟨b, 0, none⟩) xs.length xs.length) xs :=
  ⟨_, _, rfl, hl, fun i u hi => ⟨b, 0, rfl, by rw [Nat.zero_add, cell_of_heap h, ← Array.getElem?_toList, hx]; exact hi⟩⟩

/-- coded, where the error's number is the one that is wanted. -/
theorem coded_yes (v : Value) (n : Int) (w : World) (h : Calls Tryd.prog 18 #[v] w fun e w' => e = .returned (.tuple #[.int .i64 n, .int .i64 (-1)]) ∧ Below w.heap.size w w') :
    Calls Tryd.prog 19 #[v, .int .i64 n] w fun e w' => e = .returned (.bool true) ∧ Below w.heap.size w w' := by
  have H := Lib.hid h
  clear h
  go_enter Tryd.func19, Tryd.ntmps19
  go_wp2_with fail
  go_at_call 18
  refine H.out.mono ?_
  rintro e w' ⟨rfl, hb⟩
  go_wp2
  go_ret
  exact ⟨rfl, hb⟩

theorem code_sent (w : World) (S : Nat → Addr) (h : ErrW w S) (k : Nat) (hk : k < 12) :
    Calls Tryd.prog 18 #[errV (S k)] w fun e w' => e = .returned (.tuple #[.int .i64 ((k : Int) + 1), .int .i64 (-1)]) ∧ Below w.heap.size w w' := by
  refine (code_leaf w S h (S k) k (by omega) (fun i hi e => by have := h.inj k i hk (by omega) e; omega) (fun _ => rfl) (h.blk k hk)).mono ?_
  rintro e w' ⟨rfl, hb⟩
  exact ⟨by unfold codeOf; rw [if_pos hk], hb⟩
theorem new_any (s : ByteArray) (w : World) : Calls Tryd.prog 20 #[.string s] w fun e w' => e = .returned (errV ⟨w.heap.size, 0, none⟩) ∧ w' = w.alloc (.cells #[.string s] 83) := by
  go_enter Tryd.func20, Tryd.ntmps20
  go_wp2
  go_ret
  exact ⟨rfl, rfl⟩
theorem code_new (w : World) (S : Nat → Addr) (h : ErrW w S) (s : Value) :
    Calls Tryd.prog 18 #[errV ⟨w.heap.size, 0, none⟩] (w.alloc (.cells #[s] 83)) fun e w' => e = .returned (.tuple #[.int .i64 (-1), .int .i64 (-1)]) ∧ Below w.heap.size w w' := by
  have hb : Below w.heap.size w (w.alloc (.cells #[s] 83)) := (Below.refl _ _).alloc (Nat.le_refl _) _
  refine (code_leaf _ S (h.below hb (Nat.le_refl _)) ⟨w.heap.size, 0, none⟩ 12 (by omega) (fun i hi e => ?_) (fun h => by omega) ⟨_, _, heap_alloc_here w _⟩).mono ?_
  · obtain ⟨c, t, hc⟩ := h.blk i hi
    have := lt_of_heap hc
    rw [← e] at this
    exact absurd this (Nat.lt_irrefl _)
  · rintro e w' ⟨rfl, hb'⟩
    exact ⟨rfl, hb.trans (hb'.mono (by simp))⟩

abbrev eleven : List Int := [12, 5, 2000, 60, 40, 8, 10000, 100, 3000, 100, 16]

set_option maxRecDepth 1000000 in
theorem names_any (w : World) (S : Nat → Addr) (h : ErrW w S) : Calls Tryd.prog 4 #[] w fun e w' => e = .returned (.bool true) ∧ Below w.heap.size w w' := by
  have H := Lib.hid h
  clear h
  go_enter Tryd.func4, Tryd.ntmps4
  go_wp2_with fail
  go_at_call 17
  have g0 : ((w.alloc (.cells (eleven.map num).toArray 3)).alloc (.cells (eleven.map num).toArray 3)).heap[w.heap.size]? = some (.cells (eleven.map num).toArray 3 (0, 0)) :=
    Kf.heap_alloc_old (w := w.alloc (.cells (eleven.map num).toArray 3)) (heap_alloc_here w _) _
  have g1 : ((w.alloc (.cells (eleven.map num).toArray 3)).alloc (.cells (eleven.map num).toArray 3)).heap[w.heap.size + 1]? = some (.cells (eleven.map num).toArray 3 (0, 0)) := by
    have := heap_alloc_here (w.alloc (.cells (eleven.map num).toArray 3)) (.cells (eleven.map num).toArray 3)
    simpa using this
  have b1 : Below w.heap.size w ((w.alloc (.cells (eleven.map num).toArray 3)).alloc (.cells (eleven.map num).toArray 3)) := ((Below.refl _ _).alloc (Nat.le_refl _) _).alloc (by simp) _
  refine (sameInts _ _ eleven eleven ((w.alloc (.cells (eleven.map num).toArray 3)).alloc (.cells (eleven.map num).toArray 3)) (reads_of_heap g0 _ rfl (by decide)) (reads_of_heap g1 _ rfl (by decide)) (fun k hk => by cases hk; simp; omega) (fun k hk => by cases hk; simp)).mono ?_
  rintro e w2 ⟨he, hb2⟩
  rw [show (eleven == eleven) = true by decide] at he
  subst he
  have b2 := b1.trans (hb2.mono (by simp; omega))
  have h2 := H.out.below b2 (Nat.le_refl _)
  have c0 := h2.var 0 (by decide)
  have c1 := h2.var 1 (by decide)
  have c2 := h2.var 2 (by decide)
  have c3 := h2.var 3 (by decide)
  have c4 := h2.var 4 (by decide)
  have c5 := h2.var 5 (by decide)
  have c6 := h2.var 6 (by decide)
  have c7 := h2.var 7 (by decide)
  have c8 := h2.var 8 (by decide)
  have c9 := h2.var 9 (by decide)
  have c10 := h2.var 10 (by decide)
  have c11 := h2.var 11 (by decide)
  have HB := Lib.hid b2
  have HE := Lib.hid h2
  clear b1 g0 g1 hb2 b2 h2
  go_wp2
  have hr := twelve_reads S w2 26
  have ba : Below w2.heap.size w2 (w2.alloc (.cells (twelve S).toArray 26)) := (Below.refl _ _).alloc (Nat.le_refl _) _
  have hz : w2.heap.size < (w2.alloc (.cells (twelve S).toArray 26)).heap.size := by simp
  generalize hW3 : w2.alloc (.cells (twelve S).toArray 26) = w3 at hr ba hz ⊢
  have H3 := Lib.hid (HE.out.below ba (Nat.le_refl _))
  have B3 := Lib.hid (HB.out.trans (ba.mono HB.out.size))
  have HR := Lib.hid hr
  have HZ := Lib.hid hz
  clear hr ba hz hW3 c0 c1 c2 c3 c4 c5 c6 c7 c8 c9 c10 c11 HB HE H
  go_loopw [4] (fun i wl => ∃ j : Nat, j ≤ 12 ∧ i = .int .i64 j ∧ Below w3.heap.size w3 wl) (fun i _ => 12 - (intOf i).toNat)
  case atStart => exact ⟨0, by omega, rfl, Below.refl _ _⟩
  case round =>
    obtain ⟨j, hj, rfl, hbl⟩ := hrel
    have HL := Lib.hid hbl
    have hE := H3.out.below hbl (Nat.le_refl _)
    have hrl := HR.out.below hbl (fun k hk => by cases hk; exact HZ.out)
    clear hbl
    have HEr := Lib.hid hE
    by_cases hl : j < 12
    · obtain ⟨b, o, hix, hce⟩ := hrl.at (P := Tryd.prog) Tryd.underlying40 (by kernel_rfl) j (by simpa using hl)
      have hce' : wr.cell? ⟨b, o, none⟩ = some (errV (S j)) := by
        rw [hce, ← twelve_at S j hl, List.getElem?_eq_getElem]
      have hbb : b < wr.heap.size := lt_of_cell hce'
      clear hce hrl hE
      go_wp2_with fail
      go_at_call 18
      have b4 : Below wr.heap.size wr (wr.alloc (.cells #[.int .i64 7, errV (S j)] 45)) := (Below.refl _ _).alloc (Nat.le_refl _) _
      have hh := heap_alloc_here wr (.cells #[.int .i64 7, errV (S j)] 45)
      refine (code_fault _ S (HEr.out.below b4 (Nat.le_refl _)) wr.heap.size j 7 hl ((cell_of_heap hh 0).trans rfl) ((cell_of_heap hh 1).trans rfl)).mono ?_
      rintro e w5 ⟨rfl, hb5⟩
      have b5 : Below wr.heap.size wr w5 := b4.trans (hb5.mono (by simp))
      have hce5 : w5.cell? ⟨b, o, none⟩ = some (errV (S j)) := (b5.cell (p := ⟨b, o, none⟩) hbb).trans hce'
      have B5 := Lib.hid b5
      clear b4 hh hb5 b5 hce' hbb
      go_wp2_with fail
      go_at_call 19
      refine (coded_yes (errV (S j)) _ w5 (code_sent w5 S (HEr.out.below B5.out (Nat.le_refl _)) j hl)).mono ?_
      rintro e w6 ⟨rfl, hb6⟩
      have B6 := Lib.hid (HL.out.trans ((B5.out.trans (hb6.mono B5.out.size)).mono HL.out.size))
      clear hb6 hce5
      go_wp2
      go_roundw
      case rel => exact ⟨j + 1, by omega, by go_num, B6.out⟩
      case measure => simp [intOf]; omega
    · clear hrl hE
      go_wp2_with fail
      go_at_call 20
      refine (new_any _ _).mono ?_
      rintro e w5 ⟨rfl, rfl⟩
      go_wp2_with fail
      go_at_call 18
      refine (code_new wr S HEr.out _).mono ?_
      rintro e w6 ⟨rfl, hb6⟩
      have B6 := Lib.hid hb6
      clear hb6
      go_wp2_with fail
      go_at_call 19
      refine (coded_yes .nilIface 0 w6 ((code_nil w6).mono fun e w' ⟨h1, h2⟩ => ⟨h1, by rw [h2]; exact Below.refl _ _⟩)).mono ?_
      rintro e w7 ⟨rfl, hb7⟩
      have B7 : Below w.heap.size w w7 := B3.out.trans ((HL.out.trans ((B6.out.trans (hb7.mono B6.out.size)).mono HL.out.size)).mono B3.out.size)
      clear hb7
      go_wp2
      go_ret
      exact ⟨rfl, B7⟩
end Go.Proofs.YtmmgbgekcpbelaaDoor
