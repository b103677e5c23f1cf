/-
  plain.Code by its contract at a fault round one of the twelve sentinels.
-/
import Derived.Test.YtmkpeopebddnjaaGreatDoorErrHit
import Derived.Test.YtmkpeopebddnjaaGreatDoorCode
namespace Go.Proofs.YtmkpeopebddnjaaGreatDoor
open Go Go.RowKit Go.Kf

set_option maxRecDepth 1000000 in
theorem code_fault (w : World) (S : Nat → Addr) (h : ErrW w S) (pb k : Nat) (n : Int) (hk : k < 12) (hn : w.cell? ⟨pb, 0, none⟩ = some (.int .i64 n)) (he : w.cell? ⟨pb, 1, none⟩ = some (errV (S k))) :
    Calls Tryz.prog 37 #[.iface 104 (.pointer (some ⟨pb, 0, none⟩))] w fun e w' => e = .returned (.tuple #[.int .i64 ((k : Int) + 1), .int .i64 n]) ∧ Below w.heap.size w w' := by
  have hpb : pb < w.heap.size := lt_of_cell hn
  go_enter Tryz.func37, Tryz.ntmps37
  go_wp2_with fail
  go_at_call 55
  have b1 : Below w.heap.size w (w.alloc (.cells #[.pointer none] 104)) := (Below.refl _ _).alloc (Nat.le_refl _) _
  have h1 := h.below b1 (Nat.le_refl _)
  refine (as_hit _ _ (.pointer none) _ h1.typ (by have := h1.big; omega) (by simp) (by simp)).mono ?_
  rintro e w2 ⟨rfl, w1, hb1, hw2⟩
  have ht : w2.cell? ⟨w.heap.size, 0, none⟩ = some (.pointer (some ⟨pb, 0, none⟩)) := by
    have hh : w1.heap[w.heap.size]? = some (.cells #[.pointer none] 104 (0, 0)) := (hb1.block _ (by simp)).trans (heap_alloc_here _ _)
    rw [hw2]
    exact (cell_of_heap (Kf.heap_setCell_same hh _) 0).trans rfl
  have b2 : Below w.heap.size w w2 := by
    rw [hw2]
    exact b1.trans ((hb1.mono (B' := w.heap.size) (by simp)).setCell (Nat.le_refl _) _)
  clear hw2
  have h2 := h.below b2 (Nat.le_refl _)
  have hn2 := (b2.cell (p := ⟨pb, 0, none⟩) hpb).trans hn
  have he2 := (b2.cell (p := ⟨pb, 1, none⟩) hpb).trans he
  have c0 := by simpa only [sentG] using h2.var 0 (by decide)
  have c1 := by simpa only [sentG] using h2.var 1 (by decide)
  have c2 := by simpa only [sentG] using h2.var 2 (by decide)
  have c3 := by simpa only [sentG] using h2.var 3 (by decide)
  have c4 := by simpa only [sentG] using h2.var 4 (by decide)
  have c5 := by simpa only [sentG] using h2.var 5 (by decide)
  have c6 := by simpa only [sentG] using h2.var 6 (by decide)
  have c7 := by simpa only [sentG] using h2.var 7 (by decide)
  have c8 := by simpa only [sentG] using h2.var 8 (by decide)
  have c9 := by simpa only [sentG] using h2.var 9 (by decide)
  have c10 := by simpa only [sentG] using h2.var 10 (by decide)
  have c11 := by simpa only [sentG] using h2.var 11 (by decide)
  have HB := Lib.hid b2
  have HE := Lib.hid h2
  have HF := Lib.hid he2
  have HP := Lib.hid hpb
  clear b1 h1 hb1 b2 h2 h hn he he2 hpb
  go_wp2
  have hr := twelve_reads S w2 34
  have ba : Below w2.heap.size w2 (w2.alloc (.cells (twelve S).toArray 34)) := (Below.refl _ _).alloc (Nat.le_refl _) _
  generalize hW3 : w2.alloc (.cells (twelve S).toArray 34) = w3 at hr ba ⊢
  have h3 := Lib.hid (HE.out.below ba (Nat.le_refl _))
  have b3 := Lib.hid (HB.out.trans (ba.mono HB.out.size))
  have he3 : w3.cell? ⟨pb, 1, none⟩ = some (errV (S k)) := (ba.cell (p := ⟨pb, 1, none⟩) (Nat.lt_of_lt_of_le HP.out HB.out.size)).trans HF.out
  have H3 := Lib.hid he3
  have HR := Lib.hid hr
  clear hr ba hW3 c0 c1 c2 c3 c4 c5 c6 c7 c8 c9 c10 c11 HB HE HF HP hn2 ht he3
  go_loop [3, 30] (fun c i => ∃ j : Nat, j ≤ k ∧ i = .int .i64 j ∧ c = .int .i64 n) (fun _ i => 12 - (intOf i).toNat)
  case atStart => exact ⟨0, by omega, rfl, rfl⟩
  case round =>
    obtain ⟨j, hjk, rfl, rfl⟩ := hrel
    have hl : j < 12 := by omega
    obtain ⟨b, o, hix, hce⟩ := HR.out.at (P := Tryz.prog) Tryz.underlying109 (by kernel_rfl) j (by simpa using hl)
    have hce' : w3.cell? ⟨b, o, none⟩ = some (errV (S j)) := by
      rw [hce, ← twelve_at S j hl, List.getElem?_eq_getElem]
    clear hce
    by_cases he : j = k
    · subst he
      go_wp2_with (go_at_call 56; refine (is_fault_same _ _ _ H3.out).mono ?_; rintro e w' ⟨rfl, rfl⟩)
      go_ret2
      refine ⟨?_, b3.out⟩
      go_num
    · obtain ⟨cj, tj, hbj⟩ := h3.out.blk j hl
      obtain ⟨ck, tk, hbk⟩ := h3.out.blk k hk
      have hne : S k ≠ S j := fun e => he (h3.out.inj _ _ hl hk e.symm)
      have HN := Lib.hid hne
      clear hne
      go_wp2_with (go_at_call 56; refine (is_fault_other _ (S j) (S k) _ _ _ _ _ H3.out HN.out hbk hbj).mono ?_; rintro e w' ⟨rfl, rfl⟩)
      go_round
      case rel => exact ⟨j + 1, by omega, by go_num, rfl⟩
      case measure => simp [intOf]; omega
end Go.Proofs.YtmkpeopebddnjaaGreatDoor
