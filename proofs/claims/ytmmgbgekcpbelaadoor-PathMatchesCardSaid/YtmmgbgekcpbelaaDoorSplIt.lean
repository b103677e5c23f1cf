/-
  strings.SplitSeq at a separator of one byte: the iterator's contract.
-/
import Derived.Test.YtmmgbgekcpbelaaDoorRangeIt
import Derived.Test.YtmmgbgekcpbelaaDoorSplPure
import Derived.Test.YtmmgbgekcpbelaaDoorShelf
import Derived.Test.YtmmgbgekcpbelaaDoorBase
import Derived.RangeFuncBox
import Derived.Shelf.Abstract
import Derived.Shelf.RegionOpen
import Derived.WalkKit
import Derived.OwnWalkIn
import Derived.TacticsInMore
import Derived.LoopNIn
import Derived.LoopIn
import Derived.Lib.Hide
namespace Go.Proofs.YtmmgbgekcpbelaaDoor
open Go Go.RowKit Go.Shelf Go.Kf

attribute [local go_sem] Oper.semAt_some

/-- The three captured variables of splitSeq lie from block b on: the text's rest, the separator, nothing saved. -/
structure SplBoxes (W : World) (b : Nat) (c : UInt8) (rest : List UInt8) : Prop where
  s : Boxed W b 9 (str rest)
  sep : Boxed W (b + 1) 9 (str [c])
  save : Boxed W (b + 2) 3 (.int .i64 0)
/-- What a round keeps: those three blocks. -/
def KpSpl (b : Nat) (W W' : World) : Prop := ∀ k, b ≤ k → k ≤ b + 2 → W'.heap[k]? = W.heap[k]?
theorem SplBoxes.kept {W W' : World} {b : Nat} {c : UInt8} {rest : List UInt8} (h : SplBoxes W b c rest) (hk : KpSpl b W W') : SplBoxes W' b c rest :=
  ⟨(hk b (by omega) (by omega)).trans h.s, (hk (b + 1) (by omega) (by omega)).trans h.sep, (hk (b + 2) (by omega) (by omega)).trans h.save⟩
theorem SplBoxes.set {W : World} {b : Nat} {c : UInt8} {rest : List UInt8} (h : SplBoxes W b c rest) (r : List UInt8) : SplBoxes (W.setCell ⟨b, 0, none⟩ (str r)) b c r :=
  ⟨h.s.set _, h.sep.kept (grownBy_setCell' W b _) (by simp), h.save.kept (grownBy_setCell' W b _) (by simp)⟩

def left (b : Nat) (W : World) : Nat := match W.cell? ⟨b, 0, none⟩ with
  | some (.string s) => s.size
  | _ => 0
theorem left_eq {W : World} {b : Nat} {c : UInt8} {rest : List UInt8} (h : SplBoxes W b c rest) : left b W = rest.length := by
  unfold left
  rw [h.s.cell]
  rfl

set_option maxRecDepth 100000 in
set_option maxHeartbeats 1000000 in
theorem spl_it (n : Nat) (hn : 1 ≤ n) (l b : Nat) (c : UInt8) (s : List UInt8) (hs : s.length ≤ 1000000) (J Jx : List (List UInt8) → World → Prop)
    (hJ : ∀ s A v, J s A → J s (A.setCell ⟨b, 0, none⟩ v))
    (hY : ∀ pre x W, J pre W → pre.length < s.length + 1 → YieldAt Fence.wide (n - 1) Tryd.prog l #[str x] W fun e W' =>
      (e = .returned (.bool true) ∧ J (pre ++ [x]) W' ∧ KpSpl b W W') ∨ (e = .returned (.bool false) ∧ Jx (pre ++ [x]) W'))
    (W : World) (hB : SplBoxes W b c s) (h0 : J [] W) :
    CallsIn Fence.wide n Tryd.prog 84 #[.func (.yield l) #[] #[], .pointer (some ⟨b + 1, 0, none⟩), .pointer (some ⟨b, 0, none⟩), .pointer (some ⟨b + 2, 0, none⟩)] W fun e W' => (∃ v, e = .returned v) ∧
      ((∃ ys, ys = spl c s ∧ J ys W') ∨ (∃ pre, pre <+: spl c s ∧ Jx pre W')) := by
  have hc1 := hB.sep.cell
  have HB := Lib.hid hB
  have H0 := Lib.hid h0
  clear hB h0
  refine callsIn_of_wp Tryd.func84 rfl trivial ?_ rfl
  simp only [Tryd.ntmps84, List.size_toArray, List.length_cons, List.length_nil, Nat.reduceAdd, Nat.reduceSub, Array.replicate_succ, Array.replicate_zero, List.push_toArray, List.append_toArray, List.nil_append, List.cons_append]
  gi_wp2
  gi_loopw [7] (fun _ wr => ∃ (pre : List (List UInt8)) (rest : List UInt8), spl c s = pre ++ spl c rest ∧ pre.length + rest.length ≤ s.length ∧ SplBoxes wr b c rest ∧ J pre wr) (fun _ wr => left b wr)
  case atStart => exact ⟨[], s, rfl, by simp, HB.out, H0.out⟩
  case round =>
    obtain ⟨pre, rest, hsp, hlen, hbx, hj⟩ := hrel
    have c0 := hbx.s.cell
    have c1 := hbx.sep.cell
    have c2 := hbx.save.cell
    have f0 := hbx.s.frozen
    have HX := Lib.hid hbx
    have HJ := Lib.hid hj
    have HS := Lib.hid hsp
    clear hbx hj hsp
    rcases indexByte_cases rest c with ⟨h1, h2⟩ | ⟨p, q, rfl, h2, h3⟩
    · have hi := Tryd.strings_Index_one ⟨rest.toArray⟩ c wr
      simp only [h1] at hi
      have HI := Lib.hid hi
      clear hi
      obtain ⟨fn, tmps, assign, body, hy, hR⟩ := hY pre rest wr HJ.out (by omega)
      have HR := Lib.hid hR
      have hneg : ((-1 : Int) < 0) = True := by simp
      clear hR
      gi_wp2_with (refine ⟨trivial, ?_⟩; gi_at_call 86; refine (callsIn_wide.2 HI.out).mono ?_; rintro e w' ⟨rfl, rfl⟩)
      gi_wp2
      refine HR.out.mono ?_
      rintro e W3 (⟨rfl, hJ3, -⟩ | ⟨rfl, hJ3⟩)
      · gi_wp2
        go_end0
        exact ⟨⟨_, rfl⟩, .inl ⟨_, by rw [HS.out, spl_miss h2], hJ3⟩⟩
      · gi_wp2
        go_end0
        exact ⟨⟨_, rfl⟩, .inr ⟨_, by rw [HS.out, spl_miss h2]; exact List.prefix_refl _, hJ3⟩⟩
    · have hi := Tryd.strings_Index_one ⟨(p ++ c :: q).toArray⟩ c wr
      simp only [h3] at hi
      have HI := Lib.hid hi
      have H2 := Lib.hid h2
      have e1 : (⟨(p ++ c :: q).toArray⟩ : ByteArray).extract 0 p.length = ⟨p.toArray⟩ := by
        rw [extract_list]
        simp
      have e2 : (⟨(p ++ c :: q).toArray⟩ : ByteArray).extract (p.length + 1) (p.length + (q.length + 1)) = ⟨q.toArray⟩ := by
        rw [extract_list]
        congr 2
        rw [List.drop_append, List.drop_of_length_le (by omega)]
        simp only [List.nil_append, Nat.add_sub_cancel_left, List.drop_succ_cons, List.drop_zero]
        exact List.take_of_length_le (by omega)
      have hlen' : pre.length + (p.length + 1 + q.length) ≤ s.length := by simpa [Nat.add_assoc, Nat.add_comm, Nat.add_left_comm] using hlen
      clear hi h2 h3 hlen
      obtain ⟨fn, tmps, assign, body, hy, hR⟩ := hY pre p wr HJ.out (by omega)
      have HR := Lib.hid hR
      clear hR
      gi_wp2_with (refine ⟨trivial, ?_⟩; gi_at_call 86; refine (callsIn_wide.2 HI.out).mono ?_; rintro e w' ⟨rfl, rfl⟩)
      refine HR.out.mono ?_
      rintro e W3 (⟨rfl, hJ3, hk3⟩ | ⟨rfl, hJ3⟩)
      · have hX3 := HX.out.kept hk3
        have d0 := hX3.s.cell
        have d1 := hX3.sep.cell
        have d2 := hX3.save.cell
        have g0 := hX3.s.frozen
        have HX3 := Lib.hid hX3
        have HJ3 := Lib.hid hJ3
        clear hX3 hJ3 hk3
        gi_wp2
        go_roundw
        case rel => exact ⟨pre ++ [p], q, by rw [HS.out, spl_hit H2.out]; simp, by simp; omega, HX3.out.set q, hJ _ _ _ HJ3.out⟩
        case measure =>
          rw [left_eq (HX3.out.set q), left_eq HX.out]
          simp
          omega
      · gi_wp2
        refine bodyPost_ret (results_none rfl _ _ _) rfl ?_
        exact ⟨⟨_, rfl⟩, .inr ⟨_, by rw [HS.out, spl_hit H2.out]; exact ⟨spl c q, by simp⟩, hJ3⟩⟩

/-- strings.SplitSeq: what it hands back captures three variables of its own. -/
theorem splitSeq_any (s sep : List UInt8) (w : World) : Calls Tryd.prog 53 #[str s, str sep] w fun e w' =>
    e = .returned (.func (.func 84) #[] #[.pointer (some ⟨w.heap.size + 1, 0, none⟩), .pointer (some ⟨w.heap.size, 0, none⟩), .pointer (some ⟨w.heap.size + 2, 0, none⟩)]) ∧
      w' = ((w.alloc (.cells #[str s] 9)).alloc (.cells #[str sep] 9)).alloc (.cells #[.int .i64 0] 3) := by
  go_enter Tryd.func53, Tryd.ntmps53
  go_wp2
  go_ret
  exact ⟨rfl, rfl⟩
theorem spl_stops (n : Nat) (hn : 1 ≤ n) (b : Nat) (c : UInt8) (s : List UInt8) (hs : s.length ≤ 1000000) (w : World) (hw : b + 2 < w.heap.size) (hB : SplBoxes w b c s) :
    SeqBox Fence.wide n Tryd.prog 84 #[.pointer (some ⟨b + 1, 0, none⟩), .pointer (some ⟨b, 0, none⟩), .pointer (some ⟨b + 2, 0, none⟩)] (fun x : List UInt8 => #[str x]) (KpSpl b) (fun ys => ys = spl c s) (fun pre => pre <+: spl c s) (s.length + 1) b w :=
  fun l J Jx W hW hJ _ hY h0 => spl_it n hn l b c s hs J Jx hJ hY W ⟨(hW.block b (by omega)).trans hB.s, (hW.block (b + 1) (by omega)).trans hB.sep, (hW.block (b + 2) (by omega)).trans hB.save⟩ h0
theorem kpSpl_t {b : Nat} {A B C : World} (h : KpSpl b A B) (k : KpSpl b B C) : KpSpl b A C := fun i h1 h2 => (k i h1 h2).trans (h i h1 h2)
theorem kpSpl_b {b : Nat} {w : World} (hb : b + 2 < w.heap.size) (W : World) (l : Nat) (o o' : Obj) (hl : w.heap.size ≤ l) (_ : W.heap[l]? = some o) (_ : o.isCells = false) (_ : o.isWalk = false) : KpSpl b W (W.putObj l o') :=
  fun k _ h2 => World.putObj_heap_other (by omega)
end Go.Proofs.YtmmgbgekcpbelaaDoor
