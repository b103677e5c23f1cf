/-
  plain.Code by its contracts: at nil, at a sentinel (one of the twelve or another one), at a fault round one of the twelve. The walk of the law Names: it answers true in every world that bears the program's errors. coded, at an error by its number.
-/
import Derived.Test.YtgjialbmlhbngaaGreatDoorPkV
import Derived.Test.YtgjialbmlhbngaaGreatDoorPkJ
import Derived.Test.YtgjialbmlhbngaaGreatDoorPkA

namespace Go.Proofs.YtgjialbmlhbngaaGreatDoor
open Go Go.RowKit Go.Kf
abbrev errV (a : Addr) : Value := .iface 380 (.pointer (some a))
def sentG : Nat → Nat
  | 0 => 9
  | 1 => 1
  | 2 => 4
  | 3 => 8
  | 4 => 10
  | 5 => 0
  | 6 => 2
  | 7 => 3
  | 8 => 7
  | 9 => 11
  | 10 => 6
  | 11 => 5
  | _ => 0
theorem sentG_lt (k : Nat) : sentG k < 13 := by
  unfold sentG
  split <;> decide
structure ErrW (w : World) (S : Nat → Addr) : Prop where
  typ : ErrType w
  big : 13 ≤ w.heap.size
  var : ∀ k, k < 12 → w.cell? ⟨sentG k, 0, none⟩ = some (errV (S k))
  blk : ∀ k, k < 12 → ∃ c t, w.heap[(S k).block]? = some (.cells c t (0, 0))
  inj : ∀ i j, i < 12 → j < 12 → S i = S j → i = j
theorem ErrW.below {w w' : World} {S : Nat → Addr} {B : Nat} (h : ErrW w S) (hb : Below B w w') (hB : w.heap.size ≤ B) : ErrW w' S where
  typ := (hb.cell (by show 12 < B; have := h.big; omega)).trans h.typ
  big := Nat.le_trans h.big hb.size
  var k hk := (hb.cell (by show sentG k < B; have := sentG_lt k; have := h.big; omega)).trans (h.var k hk)
  blk k hk := by
    obtain ⟨c, t, hc⟩ := h.blk k hk
    exact ⟨c, t, (hb.block _ (Nat.lt_of_lt_of_le (lt_of_heap hc) hB)).trans hc⟩
  inj := h.inj
abbrev twelve (S : Nat → Addr) : List Value := [errV (S 0), errV (S 1), errV (S 2), errV (S 3), errV (S 4), errV (S 5), errV (S 6), errV (S 7), errV (S 8), errV (S 9), errV (S 10), errV (S 11)]
theorem twelve_at (S : Nat → Addr) : ∀ i, i < 12 → (twelve S)[i]? = some (errV (S i))
  | 0, _ => rfl | 1, _ => rfl | 2, _ => rfl | 3, _ => rfl | 4, _ => rfl | 5, _ => rfl | 6, _ => rfl | 7, _ => rfl | 8, _ => rfl | 9, _ => rfl | 10, _ => rfl | 11, _ => rfl
  | n + 12, h => by omega
theorem twelve_reads (S : Nat → Addr) (w : World) (t : TypeId) : Reads (w.alloc (.cells (twelve S).toArray t)) (.slice (some ⟨w.heap.size, 0, none⟩) 12 12) (twelve S) :=
  ⟨_, _, rfl, by simp, fun i u hi => ⟨_, _, rfl, by rw [Nat.zero_add, cell_of_heap (heap_alloc_here w _)]; simpa using hi⟩⟩
def codeOf (k : Nat) : Int := if k < 12 then (k : Int) + 1 else -1
set_option maxRecDepth 1000000 in
theorem code_leaf (w : World) (S : Nat → Addr) (h : ErrW w S) (a : Addr) (k : Nat) (hk : k ≤ 12) (hlt : ∀ i, i < k → a ≠ S i) (heq : k < 12 → S k = a) (ha : ∃ c t, w.heap[a.block]? = some (.cells c t (0, 0))) :
    Calls Tryz.prog 86 #[errV a] w fun e w' => e = .returned (.tuple #[.int .i64 (codeOf k), .int .i64 (-1)]) ∧ Below w.heap.size w w' := by
  obtain ⟨ca, ta, ha⟩ := ha
  go_enter Tryz.func86, Tryz.ntmps86
  go_wp2_with fail
  go_at_call 154
  have b1 : Below w.heap.size w (w.alloc (.cells #[.pointer none] 220)) := (Below.refl _ _).alloc (Nat.le_refl _) _
  have h1 := h.below b1 (Nat.le_refl _)
  refine (as_miss a _ _ h1.typ (by have := h1.big; omega)).mono ?_
  rintro e w2 ⟨rfl, hb2⟩
  have b2 := b1.trans (hb2.mono (by simp))
  have h2 := h.below b2 (Nat.le_refl _)
  have c0 := by simpa only [sentG] using h2.var 0 (by decide)
  have c1 := by simpa only [sentG] using h2.var 1 (by decide)
  have c2 := by simpa only [sentG] using h2.var 2 (by decide)
  have c3 := by simpa only [sentG] using h2.var 3 (by decide)
  have c4 := by simpa only [sentG] using h2.var 4 (by decide)
  have c5 := by simpa only [sentG] using h2.var 5 (by decide)
  have c6 := by simpa only [sentG] using h2.var 6 (by decide)
  have c7 := by simpa only [sentG] using h2.var 7 (by decide)
  have c8 := by simpa only [sentG] using h2.var 8 (by decide)
  have c9 := by simpa only [sentG] using h2.var 9 (by decide)
  have c10 := by simpa only [sentG] using h2.var 10 (by decide)
  have c11 := by simpa only [sentG] using h2.var 11 (by decide)
  have HB := Hd b2
  have HE := Hd h2
  clear b1 h1 hb2 b2 h2
  go_wp2
  have hr := twelve_reads S w2 28
  have ba : Below w2.heap.size w2 (w2.alloc (.cells (twelve S).toArray 28)) := (Below.refl _ _).alloc (Nat.le_refl _) _
  generalize hW3 : w2.alloc (.cells (twelve S).toArray 28) = w3 at hr ba ⊢
  have h3 := Hd (HE.out.below ba (Nat.le_refl _))
  have b3 := Hd (HB.out.trans (ba.mono HB.out.size))
  have ha3 : w3.heap[a.block]? = some (.cells ca ta (0, 0)) := (b3.out.block _ (lt_of_heap ha)).trans ha
  have HR := Hd hr
  have HL := Hd hlt
  have HQ := Hd heq
  clear hr ba hW3 c0 c1 c2 c3 c4 c5 c6 c7 c8 c9 c10 c11 HB HE ha h hlt heq
  go_loop [3, 30] (fun c i => ∃ j : Nat, j ≤ 12 ∧ j ≤ k ∧ i = .int .i64 j ∧ c = .int .i64 (-1)) (fun _ i => 12 - (intOf i).toNat)
  case atStart => exact ⟨0, by omega, by omega, rfl, rfl⟩
  case round =>
    obtain ⟨j, hj, hjk, rfl, rfl⟩ := hrel
    by_cases hl : j < 12
    · obtain ⟨b, o, hix, hce⟩ := HR.out.at (P := Tryz.prog) Tryz.underlying227 (by kernel_rfl) j (by simpa using hl)
      have hce' : w3.cell? ⟨b, o, none⟩ = some (errV (S j)) := by
        rw [hce, ← twelve_at S j hl, List.getElem?_eq_getElem]
      clear hce
      by_cases he : j = k
      · have hS : S j = a := by rw [he]; exact HQ.out (by omega)
        rw [hS] at hce'
        subst he
        go_wp2_with (go_at_call 155; refine (is_same a _).mono ?_; rintro e w' ⟨rfl, rfl⟩)
        go_ret2
        refine ⟨?_, b3.out⟩
        unfold codeOf
        rw [if_pos hl]
        go_num
      · obtain ⟨cj, tj, hbj⟩ := h3.out.blk j hl
        have hne : a ≠ S j := HL.out j (by omega)
        have HN := Hd hne
        clear hne
        go_wp2_with (go_at_call 155; refine (is_other a (S j) _ _ _ _ _ HN.out ha3 hbj).mono ?_; rintro e w' ⟨rfl, rfl⟩)
        go_round
        case rel => exact ⟨j + 1, by omega, by omega, by go_num, rfl⟩
        case measure => simp [intOf]; omega
    · go_wp2
      go_ret2
      refine ⟨?_, b3.out⟩
      unfold codeOf
      rw [if_neg (by omega)]
      rfl
open Go.Extern.Stop Go.Stop Go.Extern
set_option maxRecDepth 1000000 in
set_option maxHeartbeats 4000000 in
theorem as_hit (e t : Addr) (old : Value) (w : World) (hg : ErrType w) (hlt : 12 < w.heap.size) (ht0 : w.cell? t = some old) (hf0 : w.frozen? t = false) :
    Calls Tryz.prog 154 #[.iface 220 (.pointer (some e)), .iface 226 (.pointer (some t))] w fun ev w' => ev = .returned (.bool true) ∧ ∃ w1, Below w.heap.size w w1 ∧ w' = w1.setCell t (.pointer (some e)) := by
  have f6 := aValueOf
  have f6b := aValueOfF
  have f7 := aType
  have mK := aMethodKind
  have mE := aMethodElem
  have mI := aMethodImplements
  have mA := aMethodAssignable
  have k2 := aKind2
  have k1 := aKind1
  have el := aElem
  have im := aImplements
  have tO := aTypeOfF
  have asg := aAssignF
  have n8 := aIsNil ⟨w.heap.size, 0, none⟩ t ((w.alloc (.cells #[.pointer (some t)] 226)).alloc (.cells #[.pointer (some ⟨26, 226, none⟩), .pointer (some ⟨w.heap.size, 0, none⟩), .int .u64 150] 285)) (by simp)
  have hg2 : ((w.alloc (.cells #[.pointer (some t)] 226)).alloc (.cells #[.pointer (some ⟨26, 226, none⟩), .pointer (some ⟨w.heap.size, 0, none⟩), .int .u64 150] 285)).cell? ⟨12, 0, none⟩ = some (typAt 28) := by
    rw [World.cell?_alloc_lt _ _ ⟨12, 0, none⟩ (by simp; omega), World.cell?_alloc_lt _ _ ⟨12, 0, none⟩ hlt]; exact hg
  have htl : t.block < w.heap.size := lt_of_cell ht0
  have ev := aElemV ⟨w.heap.size, 0, none⟩ t (((w.alloc (.cells #[.pointer (some t)] 226)).alloc (.cells #[.pointer (some ⟨26, 226, none⟩), .pointer (some ⟨w.heap.size, 0, none⟩), .int .u64 150] 285)).alloc (.cells #[.pointer (some ⟨26, 226, none⟩), .pointer (some ⟨w.heap.size, 0, none⟩), .int .u64 150] 285)) (by rw [World.cell?_alloc_lt _ _ ⟨w.heap.size, 0, none⟩ (by simp; omega)]; simp)
  have st := aSet t ⟨w.heap.size + 1 + 1 + 1, 0, none⟩ e old ((((w.alloc (.cells #[.pointer (some t)] 226)).alloc (.cells #[.pointer (some ⟨26, 226, none⟩), .pointer (some ⟨w.heap.size, 0, none⟩), .int .u64 150] 285)).alloc (.cells #[.pointer (some ⟨26, 226, none⟩), .pointer (some ⟨w.heap.size, 0, none⟩), .int .u64 150] 285)).alloc (.cells #[.pointer (some e)] 220))
    (by rw [World.cell?_alloc_at _ _ _ _ (by simp)]; rfl)
    (by rw [World.cell?_alloc_lt _ _ t (by simp; omega), World.cell?_alloc_lt _ _ t (by simp; omega), World.cell?_alloc_lt _ _ t (by simp; omega), World.cell?_alloc_lt _ _ t htl]; exact ht0)
    (by rw [World.frozen?_alloc_old _ _ t (by simp; omega), World.frozen?_alloc_old _ _ t (by simp; omega), World.frozen?_alloc_old _ _ t (by simp; omega), World.frozen?_alloc_old _ _ t (Nat.ne_of_lt htl)]; exact hf0)
  go_enter Tryz.func154, Tryz.ntmps154
  go_wp2
  refine wp_loop_rounds 1 ?_
  rw [rounds_succ]
  go_wp2
  go_ret
  exact ⟨rfl, _, (((((Below.refl _ _).alloc (Nat.le_refl _) _).alloc (by simp) _).alloc (by simp; omega) _).alloc (by simp; omega) _), rfl⟩
end Go.Proofs.YtgjialbmlhbngaaGreatDoor
namespace Go.Proofs.YtgjialbmlhbngaaGreatDoor
open Go Go.RowKit Go.Kf
end Go.Proofs.YtgjialbmlhbngaaGreatDoor
