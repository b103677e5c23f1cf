/-
  Package act: Lines, all; slices.Sort and slices.Compact of a slice of the call's own.
-/
import Derived.Test.YtmkpeopebddnjaaGreatDoorAct
import Derived.Test.YtmkpeopebddnjaaGreatDoorBaseK
import Derived.Sort.OwnSorted
namespace Go.Proofs.YtmkpeopebddnjaaGreatDoor
open Go Go.RowKit Go.Kf Go.Sort

theorem linesB_eq (s : List UInt8) : ∃ k, (spl 10 s).length = k + 1 ∧ ∃ t, (spl 10 s)[k]? = some t ∧ linesB s = if t = [] then (spl 10 s).take k else spl 10 s := by
  have hp := spl_length_pos 10 s
  refine ⟨(spl 10 s).length - 1, by omega, (spl 10 s).getLast (spl_ne 10 s), ?_, ?_⟩
  · rw [← List.getLast?_eq_getElem?, List.getLast?_eq_some_getLast (spl_ne 10 s)]
  · unfold linesB
    rw [List.dropLast_eq_take]
theorem LnAt.reads {w : World} {g : Nat} {v : Value} {l : List (List UInt8)} (h : LnAt w g v l) (hn : l.length ≤ 9223372036854775807) : Reads w v (l.map str) := by
  obtain ⟨c, rfl, -, -, hc⟩ := h
  refine ⟨some ⟨g, 0, none⟩, c, by simp, by simpa using hn, fun i u hi => ⟨g, 0, rfl, ?_⟩⟩
  rw [List.getElem?_map] at hi
  obtain ⟨s, hs, rfl⟩ := Option.map_eq_some_iff.1 hi
  rw [Nat.zero_add]
  exact hc i s hs

set_option maxRecDepth 100000 in
theorem lines_any (s : List UInt8) (w : World) (hm : Ml w) (hs : s.length ≤ 1000000) : Calls Tryz.prog 107 #[str s] w fun e w' =>
    ∃ v, e = .returned v ∧ LnAt w' w.heap.size v (linesB s) ∧ Below w.heap.size w w' := by
  have K := split_nl s w hm hs
  have hlb := spl_length_le 10 s
  obtain ⟨k, hk, t, ht, he⟩ := linesB_eq s
  rw [he]
  clear he
  generalize spl 10 s = l at *
  have hce : ∀ (j : Nat) x, l[j]? = some x → (w.alloc (.cells (l.map str).toArray 9)).cell? ⟨w.heap.size, j, none⟩ = some (str x) := fun j x hx => by
    rw [cell_of_heap (heap_alloc_here w _)]
    simp [hx]
  have hbw : Below w.heap.size w (w.alloc (.cells (l.map str).toArray 9)) := (Below.refl _ _).alloc (Nat.le_refl _) _
  have FULL : Hid (LnAt (w.alloc (.cells (l.map str).toArray 9)) w.heap.size (.slice (some ⟨w.heap.size, 0, none⟩) l.length l.length) l) := Lib.hid ⟨l.length, rfl, Nat.le_refl _, by simp, hce⟩
  have PART : Hid (LnAt (w.alloc (.cells (l.map str).toArray 9)) w.heap.size (.slice (some ⟨w.heap.size, 0, none⟩) k (k + 1)) (l.take k)) := Lib.hid ⟨k + 1, by rw [List.length_take, show min k l.length = k by omega], by rw [List.length_take]; omega, by simp, fun j x hx => hce j x (by
    rw [List.getElem?_take] at hx
    split at hx
    · exact hx
    · cases hx)⟩
  have HB := Lib.hid hbw
  have hrd := FULL.out.reads (by omega)
  obtain ⟨b, o, hix, hc⟩ := hrd.at (P := Tryz.prog) Tryz.underlying39 (by kernel_rfl) k (by simp; omega)
  have hlk : l[k] = t := by
    rw [List.getElem?_eq_getElem (by omega)] at ht
    exact Option.some.inj ht
  simp only [List.getElem_map, hlk] at hc
  rw [hk] at K hix FULL
  have K1 := Lib.hid K
  have hw1 : IntKind.i64.wrap ((k : Int) + 1 - 1) = (k : Int) := by rw [show (k : Int) + 1 - 1 = (k : Int) by omega]; exact IntWalk.i64_in _ (by omega)
  have hw2 : IntKind.i64.wrap (k : Int) = (k : Int) := IntWalk.i64_in _ (by omega)
  obtain ⟨W1, hW1⟩ : ∃ W, w.alloc (.cells (l.map str).toArray 9) = W := ⟨_, rfl⟩
  rw [hW1] at K1 PART FULL HB hc
  clear K hrd hce hbw hm ht hlk hW1
  by_cases h0 : t = []
  · have hd : (t == []) = true := by simpa using h0
    rw [if_pos h0]
    clear h0
    go_enter Tryz.func107, Tryz.ntmps107
    go_wp2_with fail
    refine K1.out.mono ?_
    rintro e w' ⟨rfl, rfl⟩
    go_wp2
    go_ret
    exact ⟨_, rfl, PART.out, HB.out⟩
  · have hd : (t == []) = false := by simpa using h0
    rw [if_neg h0]
    clear h0
    go_enter Tryz.func107, Tryz.ntmps107
    go_wp2_with fail
    refine K1.out.mono ?_
    rintro e w' ⟨rfl, rfl⟩
    go_wp2
    go_ret
    exact ⟨_, rfl, FULL.out, HB.out⟩

/-- All lines. -/
def allB (ins : List (List UInt8)) : List (List UInt8) := (ins.map linesB).flatten
theorem allB_snoc (ins : List (List UInt8)) (s : List UInt8) : allB (ins ++ [s]) = allB ins ++ linesB s := by simp [allB]
theorem allB_len : ∀ {ins : List (List UInt8)}, (∀ s ∈ ins, s.length ≤ 10000) → (allB ins).length ≤ 10001 * ins.length
  | [], _ => by simp [allB]
  | s :: ins, h => by
    have h1 := h s List.mem_cons_self
    have h2 := linesB_len s
    have ih := allB_len (ins := ins) (fun q hq => h q (List.mem_cons_of_mem _ hq))
    unfold allB at ih ⊢
    simp only [List.map_cons, List.flatten_cons, List.length_append, List.length_cons]
    omega

set_option maxHeartbeats 1000000 in
set_option maxRecDepth 100000 in
theorem all_any (v : Value) (ins : List (List UInt8)) (w : World) (hr : Reads w v (ins.map str)) (hm : Ml w) (hn : ins.length ≤ 100) (hx : ∀ s ∈ ins, s.length ≤ 10000) :
    Calls Tryz.prog 110 #[v] w fun e w' => ∃ v', e = .returned v' ∧ w'.ownsRow w.heap.size 9 1 v' (allB ins).length ((allB ins).map str) ∧ Below w.heap.size w w' := by
  obtain ⟨a, cap, rfl, -, -⟩ := id hr
  simp only [List.length_map] at *
  have HR := Lib.hid hr
  have HM := Lib.hid hm
  have HX := Lib.hid hx
  have HLT : Hid (∀ k, (allB (ins.take k)).length ≤ 10001 * 100) := Lib.hid (fun k => Nat.le_trans (allB_len (fun s hs => hx s (List.mem_of_mem_take hs))) (Nat.mul_le_mul_left _ (by rw [List.length_take]; omega)))
  clear hr hm hx
  go_enter Tryz.func110, Tryz.ntmps110
  go_wp2_with fail
  go_loopw [3, 8] (fun ov iv wl => ∃ j : Nat, j ≤ ins.length ∧ iv = .int .i64 j ∧ wl.ownsRow w.heap.size 9 1 ov (allB (ins.take j)).length ((allB (ins.take j)).map str) ∧ Below w.heap.size w wl) (fun _ iv _ => ins.length - (intOf iv).toNat)
  case atStart => exact ⟨0, by omega, rfl, by simpa [allB] using World.ownsRow_nil w _ _ _, Below.refl _ _⟩
  case round =>
    obtain ⟨j, hj, rfl, hown, hbl⟩ := hrel
    have HO := Lib.hid hown
    have HB := Lib.hid hbl
    have hrj := HR.out.below0 hbl
    have hszr := hbl.size
    clear hown hbl
    by_cases hlt : j < ins.length
    · obtain ⟨b, o, hix, hce⟩ := hrj.at (P := Tryz.prog) Tryz.underlying39 (by kernel_rfl) j (by simpa using hlt)
      simp only [List.getElem_map] at hce
      have hp1 := HX.out _ (List.getElem_mem hlt)
      have HSN : Hid (allB (ins.take (j + 1)) = allB (ins.take j) ++ linesB ins[j]) := Lib.hid (by rw [List.take_succ_eq_append_getElem hlt, allB_snoc])
      obtain ⟨p, hp⟩ : ∃ p, ins[j] = p := ⟨_, rfl⟩
      rw [hp] at hce HSN hp1
      have K := Lib.hid (lines_any p wr (HM.out.below HB.out (Nat.le_refl _)) (by omega))
      have hpl := linesB_len p
      have hall := HLT.out j
      clear hp hrj
      go_wp2_with fail
      refine K.out.mono ?_
      rintro e w4 ⟨v4, rfl, ⟨c4, rfl, hc4, hg4, hce4⟩, hb4⟩
      have HO4 := Lib.hid (ownsRow_fr (S := fun _ => False) HO.out (Fr.of_below hb4) (fun k hk => ⟨(HO.out.lt k hk).2, id⟩))
      have HB4 := Lib.hid (HB.out.trans (hb4.mono hszr))
      have hz4 := hb4.size
      have NEWS : Hid (∀ i u, ((linesB p).map str)[i]? = some u → w4.cell? ((⟨wr.heap.size, 0, none⟩ : Addr).add i) = some u) := Lib.hid (fun i u hu => by
        rw [List.getElem?_map] at hu
        obtain ⟨x, hx, rfl⟩ := Option.map_eq_some_iff.1 hu
        rw [addr_add rfl, Nat.zero_add]
        exact hce4 i x hx)
      clear hce4 hb4
      go_wp2_with (first
        | (at_builtin
           refine wpList_app _ rfl _ _ 39 rfl tyStrsA w.heap.size _ _ _ rfl HO4.out ⟨wr.heap.size, 0, none⟩ (linesB p).length c4 ((linesB p).map str) rfl (by simp) NEWS.out ?_ (by decide) ?_ ?_ ?_
           · intro u hu
             obtain ⟨x, -, rfl⟩ := List.mem_map.1 hu
             rfl
           · omega
           · omega
           intro v5 w5 ho5 hg5 hloc5))
      go_roundw
      case rel =>
        refine ⟨j + 1, by omega, by go_num, ?_, ?_⟩
        · rw [HSN.out, List.map_append, List.length_append]
          exact ho5
        · exact HB4.out.grown hg5 (by omega) (fun r hr => owned_from HO.out hr)
      case measure => simp [intOf]; omega
    · obtain rfl : j = ins.length := by omega
      have hO := HO.out
      rw [List.take_length] at hO
      have HO2 := Lib.hid hO
      clear hO hrj
      go_wp2
      go_ret
      exact ⟨_, rfl, HO2.out, HB.out⟩

/-- Sorted. -/
def sortB (l : List (List UInt8)) : List (List UInt8) := l.mergeSort (fun x y => decide (x ≤ y))
theorem sort_any (v : Value) (l : List (List UInt8)) (B : Nat) (w : World) (h : w.ownsRow B 9 1 v l.length (l.map str)) (hl : l.length ≤ 1000000000) :
    Calls Tryz.prog 64 #[v] w fun e w' => e = .returned (.tuple #[]) ∧ w'.ownsRow B 9 1 v (sortB l).length ((sortB l).map str) ∧ w.grownBy w' v.ownBlock := by
  have hsl : (sortB l).length = l.length := List.length_mergeSort _
  rcases h.2 with ⟨rfl, h0⟩ | ⟨g, cap, cur, rfl, hg, hh, hn, hcap, hsz, htake⟩
  · obtain rfl := List.length_eq_zero_iff.1 h0
    refine (Tryz.slices_Sort_string_none none 0 w).mono ?_
    rintro e w' ⟨rfl, rfl⟩
    have e0 : sortB [] = [] := List.mergeSort_nil
    rw [e0]
    exact ⟨rfl, h, .refl _ _⟩
  · refine (Tryz.slices_Sort_string g 0 cap l w (holds_of_block hh (by simpa using htake)) (lt_of_heap hh) (by omega)).mono ?_
    rintro e w' ⟨rfl, n, os, rfl⟩
    refine ⟨rfl, ?_, grownBy_sorted _⟩
    rw [hsl]
    exact ownsRow_sorted (ts := sortB l) hsl hg hh hn hcap hsz

theorem own_take {w : World} {base g n cap : Nat} {e : TypeId} {xs : List Value} (h : w.ownsRow base e 1 (.slice (some ⟨g, 0, none⟩) n cap) n xs) (k : Nat) (hk : k ≤ n) : w.ownsRow base e 1 (.slice (some ⟨g, 0, none⟩) k cap) k (xs.take k) := by
  obtain ⟨hl, h⟩ := h
  rcases h with ⟨h0, _⟩ | ⟨g', cap', cur, hv, hg, hh, hn, hcap, hsz, htake⟩
  · cases h0
  · cases hv
    refine ⟨by rw [List.length_take]; omega, Or.inr ⟨g, cap, cur, rfl, hg, hh, by omega, hcap, hsz, ?_⟩⟩
    rw [← htake, List.take_take, show min k (n * 1) = k * 1 by omega]
/-- slices.Compact of a slice of the call's own. -/
theorem compact_any (v : Value) (l : List (List UInt8)) (B : Nat) (w : World) (h : w.ownsRow B 9 1 v l.length (l.map str)) (hl : l.length ≤ 1000000000) :
    Calls Tryz.prog 111 #[v] w fun e w' => ∃ v', e = .returned v' ∧ w'.ownsRow B 9 1 v' (Lib.compact l).length ((Lib.compact l).map str) ∧ w.grownBy w' v.ownBlock := by
  rcases h.2 with ⟨rfl, h0⟩ | ⟨g, cap, cur, rfl, hg, hh, hn, hcap, hsz, htake⟩
  · obtain rfl := List.length_eq_zero_iff.1 h0
    refine (Tryz.slices_Compact_string_empty none 0 w).mono ?_
    rintro e w' ⟨rfl, rfl⟩
    exact ⟨_, rfl, h, .refl _ _⟩
  · refine (Tryz.slices_Compact_string g 0 cap l w (holds_of_block hh (by simpa using htake)) (by omega) hn).mono ?_
    rintro e w' ⟨rfl, q, rfl⟩
    have hle : (Lib.compact l).length ≤ l.length := Lib.compact_length_le l
    have e1 := ownsRow_sorted (n := q) (os := #[]) (ts := Lib.compact l ++ List.replicate (l.length - (Lib.compact l).length) []) (ss := l) (by simp; omega) hg hh hn hcap hsz
    have e2 := grownBy_sorted (w := w) (g := g) (n := q) (os := #[]) (Lib.compact l ++ List.replicate (l.length - (Lib.compact l).length) []).toArray
    rw [grow_empty] at e1 e2
    refine ⟨_, rfl, ?_, e2⟩
    have e3 := own_take e1 (Lib.compact l).length hle
    simp only [List.map_append, List.take_left' (List.length_map _)] at e3
    exact e3
end Go.Proofs.YtmkpeopebddnjaaGreatDoor
