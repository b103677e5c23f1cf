/-
  faulted and coded, at what a sheet is told.
-/
import Derived.Test.YtmlmogllgnfklaaGreatDoorRSheet
import Derived.Test.YtmlmogllgnfklaaGreatDoorGAid
import Derived.Test.YtmlmogllgnfklaaGreatDoorCodeF
namespace Go.Proofs.YtmlmogllgnfklaaGreatDoor
open Go Go.RowKit Go.Kf Go.Sort Go.Proofs

theorem kErr_of_errW {w : World} {S : Nat → Addr} (h : ErrW w S) : KErr w S := ⟨h.var 1 (by decide), h.var 2 (by decide), h.var 3 (by decide), h.var 4 (by decide), h.var 6 (by decide), h.var 8 (by decide), h.var 9 (by decide)⟩
theorem lErr_of_errW {w : World} {S : Nat → Addr} (h : ErrW w S) : LErr w S := h.var 5 (by decide)
theorem actErr_le (k w : List UInt8) (n : Nat) : actErr k w n ≤ 10 := by
  unfold actErr
  split
  · omega
  · split
    · split <;> omega
    · omega
theorem errAt_le (l : List RuleL) (i : Nat) (r : RuleL) : errAt l i r ≤ 10 := by
  have h0 : ruleErr r ≤ 10 := by
    have := actErr_le r.kind r.word r.ins.length
    unfold ruleErr
    split
    · omega
    · split
      · exact this
      · split
        · omega
        · split <;> omega
  unfold errAt
  split
  · exact h0
  · split <;> omega
/-- plain.Code at a sentinel. -/
theorem code_at (w : World) (S : Nat → Addr) (hE : ErrW w S) (k : Nat) (hk : k < 12) : Calls Tryz.prog 56 #[errI (S k)] w fun e w' => e = .returned (.tuple #[.int .i64 ((k + 1 : Nat) : Int), .int .i64 (-1)]) ∧ Below w.heap.size w w' := by
  refine (code_leaf w S hE (S k) k (by omega) (fun i hi e => ?_) (fun _ => rfl) (hE.blk k hk)).mono ?_
  · have := hE.inj k i hk (by omega) e
    omega
  · rintro e w' ⟨rfl, hb⟩
    refine ⟨?_, hb⟩
    unfold codeOf
    rw [if_pos hk]
    rfl
theorem bad_code {S : Nat → Addr} {l : List RuleL} {B : Nat} {err : Value} {w : World} {c : Nat} {p : Int} (hb : SheetBad S l B err w) (hf : FaultIs l c p) (hE : ErrW w S) :
    0 < c ∧ Calls Tryz.prog 56 #[err] w fun e w' => e = .returned (.tuple #[.int .i64 (c : Int), .int .i64 p]) ∧ Below w.heap.size w w' := by
  rcases hb with ⟨h1, rfl⟩ | ⟨h0, i, r, m, g, h1, h2, h3, rfl, -, h6⟩
  · rcases hf with ⟨h2, -⟩ | ⟨-, rfl, rfl⟩ | ⟨h2, -⟩
    · omega
    · exact ⟨by omega, code_at w S hE 1 (by decide)⟩
    · omega
  · rcases hf with ⟨-, h4, -⟩ | ⟨h4, -⟩ | ⟨-, i', r', m', g1, g2, g3, rfl, rfl⟩
    · have := h4 i r h2; omega
    · omega
    · have hii : i = i' := by
        rcases Nat.lt_trichotomy i i' with h | h | h
        · have := g1 i r h h2; omega
        · exact h
        · have := h1 i' r' h g2; omega
      subst hii
      have hrr : r = r' := Option.some.inj (h2.symm.trans g2)
      subst hrr
      have hmm : m = m' := by omega
      subst hmm
      have hle := errAt_le l i r
      refine ⟨by omega, (code_fault w S hE g m i (by omega) ((cell_of_heap h6 0).trans rfl) ((cell_of_heap h6 1).trans rfl)).mono ?_⟩
      rintro e w' ⟨rfl, hb⟩
      exact ⟨by rfl, hb⟩
theorem right_fault {l : List RuleL} {c : Nat} {p : Int} (hr : RightS l) (hf : FaultIs l c p) : c = 0 ∧ p = -1 := by
  rcases hf with ⟨-, -, h⟩ | ⟨h, -⟩ | ⟨-, i, r, m, -, h2, h3, -⟩
  · exact h
  · have := hr.1; omega
  · have := hr.2 i r h2; omega

set_option maxRecDepth 100000 in
theorem coded_any (err : Value) (c : Nat) (w : World) (h : Calls Tryz.prog 56 #[err] w fun e w' => e = .returned (.tuple #[.int .i64 (c : Int), .int .i64 (-1)]) ∧ Below w.heap.size w w') :
    Calls Tryz.prog 25 #[err, .int .i64 (c : Int)] w fun e w' => e = .returned (.bool true) ∧ Below w.heap.size w w' := by
  have H := Lib.hid h
  clear h
  go_enter Tryz.func25, Tryz.ntmps25
  go_wp2_with fail
  go_at_call 56
  refine H.out.mono ?_
  rintro e w' ⟨rfl, hb⟩
  go_wp2
  go_ret
  exact ⟨rfl, hb⟩
set_option maxRecDepth 100000 in
theorem faulted_any (err : Value) (c : Nat) (p : Int) (w : World) (h : ∀ w1, Below w.heap.size w w1 → Calls Tryz.prog 56 #[err] w1 fun e w' => e = .returned (.tuple #[.int .i64 (c : Int), .int .i64 p]) ∧ Below w1.heap.size w1 w') :
    Calls Tryz.prog 19 #[err, faultV c p] w fun e w' => e = .returned (.bool true) ∧ Below w.heap.size w w' := by
  obtain ⟨W0, hW0⟩ : ∃ W, w.alloc (.cells #[.int .i64 (c : Int), .int .i64 p] 43) = W := ⟨_, rfl⟩
  have hA : Below w.heap.size w W0 := hW0 ▸ (Below.refl _ w).alloc (Nat.le_refl _) _
  have hz : w.heap.size < W0.heap.size := by rw [← hW0]; simp
  have hg : W0.heap[w.heap.size]? = some (.cells #[.int .i64 (c : Int), .int .i64 p] 43 (0, 0)) := hW0 ▸ heap_alloc_here w _
  have HG := Lib.hid (fun wl (hb : Below W0.heap.size W0 wl) => (fun k => (cell_of_heap ((hb.block _ hz).trans hg) k) : ∀ k, wl.cell? ⟨w.heap.size, k, none⟩ = (#[.int .i64 (c : Int), .int .i64 p] : Array Value)[k]?))
  have H := Lib.hid (h W0 hA)
  have HA := Lib.hid hA
  clear h hA hg
  go_enter Tryz.func19, Tryz.ntmps19
  go_wp2_with fail
  go_at_call 56
  refine H.out.mono ?_
  rintro e w' ⟨rfl, hb⟩
  have h0 : w'.cell? ⟨w.heap.size, 0, none⟩ = some (.int .i64 (c : Int)) := HG.out w' hb 0
  have h1 : w'.cell? ⟨w.heap.size, 1, none⟩ = some (.int .i64 p) := HG.out w' hb 1
  have HB := Lib.hid (HA.out.trans (hb.mono HA.out.size))
  clear hb
  cases hc : (c : Int) == 0 with
  | true =>
    go_wp2
    go_ret
    exact ⟨by simp, HB.out⟩
  | false =>
    go_wp2
    go_ret
    exact ⟨by simp, HB.out⟩
end Go.Proofs.YtmlmogllgnfklaaGreatDoor
