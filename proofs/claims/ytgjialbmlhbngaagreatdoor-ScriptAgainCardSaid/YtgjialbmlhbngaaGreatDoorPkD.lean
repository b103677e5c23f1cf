/-
  Package act: ended, Lines, all; the reference's LinesOf. Decimal numbers as texts; strconv.Atoi and strings.Cut at whatever text.
-/
import Derived.Test.YtgjialbmlhbngaaGreatDoorPkC
import Derived.BigQuiet
import Derived.Sort.OwnSorted
import Derived.Laws.EntriesVeiled
import Derived.Sort.KeysCollected
import Derived.Test.YtgjialbmlhbngaaGreatDoorPkB
import Derived.Test.YtgjialbmlhbngaaGreatDoorPkA
import Derived.Lib.AtoiErrMem
import Derived.Lib.AtoiTie
import Derived.Lib.IndexMore

set_option maxRecDepth 100000
namespace Go.Proofs.YtgjialbmlhbngaaGreatDoor
open Go Go.RowKit Go.Kf
theorem tyStrsA : SliceTy Tryz.prog 33 9 (str []) 16 := ⟨Tryz.underlying33, by kernel_rfl, rfl⟩
def endedL (l : List (List UInt8)) : List UInt8 := (l.map (· ++ [10])).flatten
theorem endedL_snoc (l : List (List UInt8)) (s : List UInt8) : endedL (l ++ [s]) = endedL l ++ (s ++ [10]) := by simp [endedL]
theorem endedL_cons (s : List UInt8) (l : List (List UInt8)) : endedL (s :: l) = s ++ 10 :: endedL l := by simp [endedL]
theorem endedL_take (l : List (List UInt8)) (k : Nat) : (endedL (l.take k)).length ≤ (endedL l).length := by
  conv => rhs; rw [← List.take_append_drop k l]
  unfold endedL
  rw [List.map_append, List.flatten_append, List.length_append]
  omega
theorem endedL_mem {l : List (List UInt8)} {s : List UInt8} (h : s ∈ l) : s.length + 1 ≤ (endedL l).length := by
  obtain ⟨a, b, rfl⟩ := List.append_of_mem h
  simp [endedL]
  omega
theorem endedL_count (l : List (List UInt8)) : l.length ≤ (endedL l).length := by
  induction l with
  | nil => simp
  | cons s l ih =>
    rw [endedL_cons, List.length_append, List.length_cons, List.length_cons]
    omega
set_option maxHeartbeats 1000000 in
theorem ended_any (v : Value) (l : List (List UInt8)) (w : World) (hr : Reads w v (l.map str)) (hl : (endedL l).length ≤ 1000000) :
    Calls Tryz.prog 270 #[v] w fun e w' => e = .returned (str (endedL l)) ∧ Below w.heap.size w w' := by
  obtain ⟨a, cap, rfl, -, -⟩ := id hr
  have hle := hr.le
  simp only [List.length_map] at *
  have HR := Hd hr
  have hln := endedL_count l
  have HLM : Hid (∀ s ∈ l, s.length ≤ 1000000) := Hd (fun s hs => by have := endedL_mem hs; omega)
  have HLT : Hid (∀ k, (endedL (l.take k)).length ≤ 1000000) := Hd (fun k => Nat.le_trans (endedL_take l k) hl)
  have hw0 : Below w.heap.size w (w.alloc (.cells #[.pointer none, .slice none 0 0] 138)) := (Below.refl _ _).alloc (Nat.le_refl _) _
  have HB0 : Hid (Bld (w.heap.size + 1) w.heap.size (Lib.byteCells []) (w.alloc (.cells #[.pointer none, .slice none 0 0] 138))) := Hd (Bld.fresh (heap_alloc_here _ _) (by omega))
  have HW0 := Hd hw0
  clear hr hw0
  go_enter Tryz.func270, Tryz.ntmps270
  go_wp2_with fail
  go_loopw [8] (fun i wl => ∃ j : Nat, j ≤ l.length ∧ i = .int .i64 j ∧ Bld (w.heap.size + 1) w.heap.size (Lib.byteCells (endedL (l.take j))) wl ∧ Fr (w.heap.size + 1) (fun k => k = w.heap.size) (w.alloc (.cells #[.pointer none, .slice none 0 0] 138)) wl) (fun i _ => l.length - (intOf i).toNat)
  case atStart => exact ⟨0, by omega, rfl, by simpa [endedL] using HB0.out, .refl _ _ _⟩
  case round =>
    obtain ⟨j, hj, rfl, hB, hF⟩ := hrel
    have HBj := Hd hB
    have HFj := Hd hF
    have HWj : Hid (Below w.heap.size w wr) := Hd (HW0.out.trans ((hF.mono (S' := fun k => k = w.heap.size) (by simp) (fun _ _ h => h)).below (fun k hk e => by omega)))
    have hzr := hF.size
    simp at hzr
    clear hB hF
    have hrj := HR.out.below0 HWj.out
    by_cases hlt : j < l.length
    · obtain ⟨b, o, hix, hce⟩ := hrj.at (P := Tryz.prog) Tryz.underlying33 (by kernel_rfl) j (by simpa using hlt)
      simp only [List.getElem_map] at hce
      have HSN : Hid (endedL (l.take (j + 1)) = endedL (l.take j) ++ (l[j] ++ [10])) := Hd (by rw [List.take_succ_eq_append_getElem hlt, endedL_snoc])
      have hp1 := HLM.out _ (List.getElem_mem hlt)
      obtain ⟨p, hp⟩ : ∃ p, l[j] = p := ⟨_, rfl⟩
      rw [hp] at hce HSN hp1
      clear hp hrj
      obtain ⟨x1, hx1⟩ : ∃ x, p ++ [10] = x := ⟨_, rfl⟩
      have e1 : (⟨p.toArray⟩ : ByteArray) ++ (⟨#[10]⟩ : ByteArray) = ⟨x1.toArray⟩ := by rw [← hx1, show (⟨#[10]⟩ : ByteArray) = ⟨([10] : List UInt8).toArray⟩ from rfl, str_app]
      have l1 : x1.length = p.length + 1 := by rw [← hx1]; simp
      have HX1 := Hd hx1
      have hz1 : ¬ 9223372036854775807 < p.length + 1 := by omega
      have K := Hd (writeString_bld (w.heap.size + 1) w.heap.size _ ⟨x1.toArray⟩ wr HBj.out (by rw [Lib.byteCells_length]; have := HLT.out j; simp [ByteArray.size]; omega) hzr)
      clear hx1
      go_wp2_with fail
      refine K.out.mono ?_
      rintro e w6 ⟨rfl, hB6, hF6⟩
      have HB7 : Hid (Bld (w.heap.size + 1) w.heap.size (Lib.byteCells (endedL (l.take (j + 1)))) w6) := Hd (by
        rw [Lib.strCells_toArray, ← Lib.byteCells_append, ← HX1.out, ← HSN.out] at hB6
        exact hB6)
      have HF7 : Hid (Fr (w.heap.size + 1) (fun k => k = w.heap.size) (w.alloc (.cells #[.pointer none, .slice none 0 0] 138)) w6) := Hd (HFj.out.trans hF6)
      clear hB6 hF6
      go_wp2
      go_roundw
      case rel => exact ⟨j + 1, by omega, by go_num, HB7.out, HF7.out⟩
      case measure => simp [intOf]; omega
    · obtain rfl : j = l.length := by omega
      have hBj := HBj.out
      rw [List.take_length] at hBj
      have K := Hd (string_bld (w.heap.size + 1) w.heap.size _ wr hBj HWj.out.size)
      clear hBj hrj
      go_wp2_with fail
      refine K.out.mono ?_
      rintro e w6 ⟨rfl, hb6⟩
      go_wp2
      go_ret
      exact ⟨rfl, HWj.out.trans hb6⟩
def linesB (s : List UInt8) : List (List UInt8) := if (spl 10 s).getLast (spl_ne 10 s) = [] then (spl 10 s).dropLast else spl 10 s
def LnAt (w : World) (g : Nat) (v : Value) (l : List (List UInt8)) : Prop :=
  ∃ c, v = .slice (some ⟨g, 0, none⟩) l.length c ∧ l.length ≤ c ∧ g < w.heap.size ∧ ∀ (j : Nat) s, l[j]? = some s → w.cell? ⟨g, j, none⟩ = some (str s)
theorem split_nl (s : List UInt8) (w : World) (hm : Ml w) (hs : s.length ≤ 1000000) : Calls Tryz.prog 185 #[str s, str [10]] w fun e w' =>
    e = .returned (.slice (some ⟨w.heap.size, 0, none⟩) (spl 10 s).length (spl 10 s).length) ∧ w' = w.alloc (.cells ((spl 10 s).map str).toArray 9) := by
  obtain ⟨m, hm⟩ := hm
  refine (Tryz.strings_Split ⟨s.toArray⟩ ⟨#[10]⟩ m w (by simp [ByteArray.size]; omega) hm (Nat.le_refl 1)).mono ?_
  rintro e w' ⟨rfl, rfl⟩
  rw [splitB_spl 10 _ s rfl, countB_spl]
  refine ⟨rfl, ?_⟩
  rw [List.map_map]
  rfl
theorem linesB_len (s : List UInt8) : (linesB s).length ≤ s.length + 1 := by
  have := spl_length_le 10 s
  unfold linesB
  split
  · rw [List.length_dropLast]; omega
  · exact this
open Go.Sort
theorem linesB_eq (s : List UInt8) : ∃ k, (spl 10 s).length = k + 1 ∧ ∃ t, (spl 10 s)[k]? = some t ∧ linesB s = if t = [] then (spl 10 s).take k else spl 10 s := by
  have hp := spl_length_pos 10 s
  refine ⟨(spl 10 s).length - 1, by omega, (spl 10 s).getLast (spl_ne 10 s), ?_, ?_⟩
  · rw [← List.getLast?_eq_getElem?, List.getLast?_eq_some_getLast (spl_ne 10 s)]
  · unfold linesB
    rw [List.dropLast_eq_take]
theorem LnAt.reads {w : World} {g : Nat} {v : Value} {l : List (List UInt8)} (h : LnAt w g v l) (hn : l.length ≤ 9223372036854775807) : Reads w v (l.map str) := by
  obtain ⟨c, rfl, -, -, hc⟩ := h
  refine ⟨some ⟨g, 0, none⟩, c, by simp, by simpa using hn, fun i u hi => ⟨g, 0, rfl, ?_⟩⟩
  rw [List.getElem?_map] at hi
  obtain ⟨s, hs, rfl⟩ := Option.map_eq_some_iff.1 hi
  rw [Nat.zero_add]
  exact hc i s hs
theorem lines_any (s : List UInt8) (w : World) (hm : Ml w) (hs : s.length ≤ 1000000) : Calls Tryz.prog 271 #[str s] w fun e w' =>
    ∃ v, e = .returned v ∧ LnAt w' w.heap.size v (linesB s) ∧ Below w.heap.size w w' := by
  have K := split_nl s w hm hs
  have hlb := spl_length_le 10 s
  obtain ⟨k, hk, t, ht, he⟩ := linesB_eq s
  rw [he]
  clear he
  generalize spl 10 s = l at *
  have hce : ∀ (j : Nat) x, l[j]? = some x → (w.alloc (.cells (l.map str).toArray 9)).cell? ⟨w.heap.size, j, none⟩ = some (str x) := fun j x hx => by
    rw [cell_of_heap (heap_alloc_here w _)]
    simp [hx]
  have hbw : Below w.heap.size w (w.alloc (.cells (l.map str).toArray 9)) := (Below.refl _ _).alloc (Nat.le_refl _) _
  have FULL : Hid (LnAt (w.alloc (.cells (l.map str).toArray 9)) w.heap.size (.slice (some ⟨w.heap.size, 0, none⟩) l.length l.length) l) := Hd ⟨l.length, rfl, Nat.le_refl _, by simp, hce⟩
  have PART : Hid (LnAt (w.alloc (.cells (l.map str).toArray 9)) w.heap.size (.slice (some ⟨w.heap.size, 0, none⟩) k (k + 1)) (l.take k)) := Hd ⟨k + 1, by rw [List.length_take, show min k l.length = k by omega], by rw [List.length_take]; omega, by simp, fun j x hx => hce j x (by
    rw [List.getElem?_take] at hx
    split at hx
    · exact hx
    · cases hx)⟩
  have HB := Hd hbw
  have hrd := FULL.out.reads (by omega)
  obtain ⟨b, o, hix, hc⟩ := hrd.at (P := Tryz.prog) Tryz.underlying33 (by kernel_rfl) k (by simp; omega)
  have hlk : l[k] = t := by
    rw [List.getElem?_eq_getElem (by omega)] at ht
    exact Option.some.inj ht
  simp only [List.getElem_map, hlk] at hc
  rw [hk] at K hix FULL
  have K1 := Hd K
  have hw1 : IntKind.i64.wrap ((k : Int) + 1 - 1) = (k : Int) := by rw [show (k : Int) + 1 - 1 = (k : Int) by omega]; exact IntWalk.i64_in _ (by omega)
  have hw2 : IntKind.i64.wrap (k : Int) = (k : Int) := IntWalk.i64_in _ (by omega)
  obtain ⟨W1, hW1⟩ : ∃ W, w.alloc (.cells (l.map str).toArray 9) = W := ⟨_, rfl⟩
  rw [hW1] at K1 PART FULL HB hc
  clear K hrd hce hbw hm ht hlk hW1
  by_cases h0 : t = []
  · have hd : (t == []) = true := by simpa using h0
    rw [if_pos h0]
    clear h0
    go_enter Tryz.func271, Tryz.ntmps271
    go_wp2_with fail
    refine K1.out.mono ?_
    rintro e w' ⟨rfl, rfl⟩
    go_wp2
    go_ret
    exact ⟨_, rfl, PART.out, HB.out⟩
  · have hd : (t == []) = false := by simpa using h0
    rw [if_neg h0]
    clear h0
    go_enter Tryz.func271, Tryz.ntmps271
    go_wp2_with fail
    refine K1.out.mono ?_
    rintro e w' ⟨rfl, rfl⟩
    go_wp2
    go_ret
    exact ⟨_, rfl, FULL.out, HB.out⟩
def allB (ins : List (List UInt8)) : List (List UInt8) := (ins.map linesB).flatten
theorem allB_snoc (ins : List (List UInt8)) (s : List UInt8) : allB (ins ++ [s]) = allB ins ++ linesB s := by simp [allB]
theorem allB_len : ∀ {ins : List (List UInt8)}, (∀ s ∈ ins, s.length ≤ 10000) → (allB ins).length ≤ 10001 * ins.length
  | [], _ => by simp [allB]
  | s :: ins, h => by
    have h1 := h s List.mem_cons_self
    have h2 := linesB_len s
    have ih := allB_len (ins := ins) (fun q hq => h q (List.mem_cons_of_mem _ hq))
    unfold allB at ih ⊢
    simp only [List.map_cons, List.flatten_cons, List.length_append, List.length_cons]
    omega
set_option maxHeartbeats 1000000 in
theorem all_any (v : Value) (ins : List (List UInt8)) (w : World) (hr : Reads w v (ins.map str)) (hm : Ml w) (hn : ins.length ≤ 100) (hx : ∀ s ∈ ins, s.length ≤ 10000) :
    Calls Tryz.prog 274 #[v] w fun e w' => ∃ v', e = .returned v' ∧ w'.ownsRow w.heap.size 9 1 v' (allB ins).length ((allB ins).map str) ∧ Below w.heap.size w w' := by
  obtain ⟨a, cap, rfl, -, -⟩ := id hr
  simp only [List.length_map] at *
  have HR := Hd hr
  have HM := Hd hm
  have HX := Hd hx
  have HLT : Hid (∀ k, (allB (ins.take k)).length ≤ 10001 * 100) := Hd (fun k => Nat.le_trans (allB_len (fun s hs => hx s (List.mem_of_mem_take hs))) (Nat.mul_le_mul_left _ (by rw [List.length_take]; omega)))
  clear hr hm hx
  go_enter Tryz.func274, Tryz.ntmps274
  go_wp2_with fail
  go_loopw [3, 8] (fun ov iv wl => ∃ j : Nat, j ≤ ins.length ∧ iv = .int .i64 j ∧ wl.ownsRow w.heap.size 9 1 ov (allB (ins.take j)).length ((allB (ins.take j)).map str) ∧ Below w.heap.size w wl) (fun _ iv _ => ins.length - (intOf iv).toNat)
  case atStart => exact ⟨0, by omega, rfl, by simpa [allB] using World.ownsRow_nil w _ _ _, Below.refl _ _⟩
  case round =>
    obtain ⟨j, hj, rfl, hown, hbl⟩ := hrel
    have HO := Hd hown
    have HB := Hd hbl
    have hrj := HR.out.below0 hbl
    have hszr := hbl.size
    clear hown hbl
    by_cases hlt : j < ins.length
    · obtain ⟨b, o, hix, hce⟩ := hrj.at (P := Tryz.prog) Tryz.underlying33 (by kernel_rfl) j (by simpa using hlt)
      simp only [List.getElem_map] at hce
      have hp1 := HX.out _ (List.getElem_mem hlt)
      have HSN : Hid (allB (ins.take (j + 1)) = allB (ins.take j) ++ linesB ins[j]) := Hd (by rw [List.take_succ_eq_append_getElem hlt, allB_snoc])
      obtain ⟨p, hp⟩ : ∃ p, ins[j] = p := ⟨_, rfl⟩
      rw [hp] at hce HSN hp1
      have K := Hd (lines_any p wr (HM.out.below HB.out (Nat.le_refl _)) (by omega))
      have hpl := linesB_len p
      have hall := HLT.out j
      clear hp hrj
      go_wp2_with fail
      refine K.out.mono ?_
      rintro e w4 ⟨v4, rfl, ⟨c4, rfl, hc4, hg4, hce4⟩, hb4⟩
      have HO4 := Hd (ownsRow_fr (S := fun _ => False) HO.out (Fr.of_below hb4) (fun k hk => ⟨(HO.out.lt k hk).2, id⟩))
      have HB4 := Hd (HB.out.trans (hb4.mono hszr))
      have hz4 := hb4.size
      have NEWS : Hid (∀ i u, ((linesB p).map str)[i]? = some u → w4.cell? ((⟨wr.heap.size, 0, none⟩ : Addr).add i) = some u) := Hd (fun i u hu => by
        rw [List.getElem?_map] at hu
        obtain ⟨x, hx, rfl⟩ := Option.map_eq_some_iff.1 hu
        rw [addr_add rfl, Nat.zero_add]
        exact hce4 i x hx)
      clear hce4 hb4
      go_wp2_with (first
        | (at_builtin
           refine wpList_app _ rfl _ _ 33 rfl tyStrsA w.heap.size _ _ _ rfl HO4.out ⟨wr.heap.size, 0, none⟩ (linesB p).length c4 ((linesB p).map str) rfl (by simp) NEWS.out ?_ (by decide) ?_ ?_ ?_
           · intro u hu
             obtain ⟨x, -, rfl⟩ := List.mem_map.1 hu
             rfl
           · omega
           · omega
           intro v5 w5 ho5 hg5 hloc5))
      go_roundw
      case rel =>
        refine ⟨j + 1, by omega, by go_num, ?_, ?_⟩
        · rw [HSN.out, List.map_append, List.length_append]
          exact ho5
        · exact HB4.out.grown hg5 (by omega) (fun r hr => owned_from HO.out hr)
      case measure => simp [intOf]; omega
    · obtain rfl : j = ins.length := by omega
      have hO := HO.out
      rw [List.take_length] at hO
      have HO2 := Hd hO
      clear hO hrj
      go_wp2
      go_ret
      exact ⟨_, rfl, HO2.out, HB.out⟩
def sortB (l : List (List UInt8)) : List (List UInt8) := l.mergeSort (fun x y => decide (x ≤ y))
theorem sort_any (v : Value) (l : List (List UInt8)) (B : Nat) (w : World) (h : w.ownsRow B 9 1 v l.length (l.map str)) (hl : l.length ≤ 1000000000) :
    Calls Tryz.prog 76 #[v] w fun e w' => e = .returned (.tuple #[]) ∧ w'.ownsRow B 9 1 v (sortB l).length ((sortB l).map str) ∧ w.grownBy w' v.ownBlock := by
  have hsl : (sortB l).length = l.length := List.length_mergeSort _
  rcases h.2 with ⟨rfl, h0⟩ | ⟨g, cap, cur, rfl, hg, hh, hn, hcap, hsz, htake⟩
  · obtain rfl := List.length_eq_zero_iff.1 h0
    refine (Tryz.slices_Sort_string_none none 0 w).mono ?_
    rintro e w' ⟨rfl, rfl⟩
    have e0 : sortB [] = [] := List.mergeSort_nil
    rw [e0]
    exact ⟨rfl, h, .refl _ _⟩
  · refine (Tryz.slices_Sort_string g 0 cap l w (holds_of_block hh (by simpa using htake)) (lt_of_heap hh) (by omega)).mono ?_
    rintro e w' ⟨rfl, n, os, rfl⟩
    refine ⟨rfl, ?_, grownBy_sorted _⟩
    rw [hsl]
    exact ownsRow_sorted (ts := sortB l) hsl hg hh hn hcap hsz
theorem own_take {w : World} {base g n cap : Nat} {e : TypeId} {xs : List Value} (h : w.ownsRow base e 1 (.slice (some ⟨g, 0, none⟩) n cap) n xs) (k : Nat) (hk : k ≤ n) : w.ownsRow base e 1 (.slice (some ⟨g, 0, none⟩) k cap) k (xs.take k) := by
  obtain ⟨hl, h⟩ := h
  rcases h with ⟨h0, _⟩ | ⟨g', cap', cur, hv, hg, hh, hn, hcap, hsz, htake⟩
  · cases h0
  · cases hv
    refine ⟨by rw [List.length_take]; omega, Or.inr ⟨g, cap, cur, rfl, hg, hh, by omega, hcap, hsz, ?_⟩⟩
    rw [← htake, List.take_take, show min k (n * 1) = k * 1 by omega]
theorem compact_any (v : Value) (l : List (List UInt8)) (B : Nat) (w : World) (h : w.ownsRow B 9 1 v l.length (l.map str)) (hl : l.length ≤ 1000000000) :
    Calls Tryz.prog 244 #[v] w fun e w' => ∃ v', e = .returned v' ∧ w'.ownsRow B 9 1 v' (Lib.compact l).length ((Lib.compact l).map str) ∧ w.grownBy w' v.ownBlock := by
  rcases h.2 with ⟨rfl, h0⟩ | ⟨g, cap, cur, rfl, hg, hh, hn, hcap, hsz, htake⟩
  · obtain rfl := List.length_eq_zero_iff.1 h0
    refine (Tryz.slices_Compact_string_empty none 0 w).mono ?_
    rintro e w' ⟨rfl, rfl⟩
    exact ⟨_, rfl, h, .refl _ _⟩
  · refine (Tryz.slices_Compact_string g 0 cap l w (holds_of_block hh (by simpa using htake)) (by omega) hn).mono ?_
    rintro e w' ⟨rfl, q, rfl⟩
    have hle : (Lib.compact l).length ≤ l.length := Lib.compact_length_le l
    have e1 := ownsRow_sorted (n := q) (os := #[]) (ts := Lib.compact l ++ List.replicate (l.length - (Lib.compact l).length) []) (ss := l) (by simp; omega) hg hh hn hcap hsz
    have e2 := grownBy_sorted (w := w) (g := g) (n := q) (os := #[]) (Lib.compact l ++ List.replicate (l.length - (Lib.compact l).length) []).toArray
    rw [grow_empty] at e1 e2
    refine ⟨_, rfl, ?_, e2⟩
    have e3 := own_take e1 (Lib.compact l).length hle
    simp only [List.map_append, List.take_left' (List.length_map _)] at e3
    exact e3
structure Kd where
  least : Int
  most : Int
  word : Nat
  run : Nat
def kdV (k : Kd) : Value := .agg #[.int .i64 k.least, .int .i64 k.most, .func (.func k.word) #[] #[], .func (.func k.run) #[] #[]]
def kindsL : List (List UInt8 × Kd) := [
  ([119, 114, 105, 116, 101], ⟨0, 0, 224, 225⟩),
  ([106, 111, 105, 110], ⟨1, 8, 224, 226⟩),
  ([117, 112, 112, 101, 114], ⟨1, 1, 227, 228⟩),
  ([108, 105, 110, 101, 115], ⟨1, 1, 224, 229⟩),
  ([115, 111, 114, 116], ⟨1, 8, 230, 231⟩),
  ([99, 111, 117, 110, 116], ⟨1, 8, 227, 232⟩),
  ([115, 119, 97, 112], ⟨1, 1, 233, 234⟩),
  ([104, 101, 97, 100], ⟨1, 1, 235, 236⟩)]
theorem kmapKey : KeyBy Tryz.prog 9 str := KeyBy.string Tryz.underlying9
theorem kmapUnd : Tryz.prog.underlying 241 = some (.map 9 240) := Tryz.underlying241
def kdZero : Value := .agg #[.int .i64 0, .int .i64 0, .nilFunc, .nilFunc]
theorem kzero (w : World) : (zeroValue 240).run Tryz.prog w = .ok kdZero w := by kernel_rfl
theorem upd_step {w : World} {b : Nat} {l : List (List UInt8 × Kd)} (h : MapIs str kdV w b l) (k : List UInt8) (v : Kd) :
    ∃ W, (Instr.mapUpdate 241 (.map (some b)) (str k) (kdV v)).run Tryz.prog w = .ok () W ∧ MapIs str kdV W b (mupd k v l) ∧ Fr w.heap.size (fun q => q = b) w W ∧ W.heap.size = w.heap.size := by
  obtain ⟨es, c, h1, h2⟩ := MapIs.update kmapKey kmapUnd h k v
  exact ⟨_, h1, h2, Fr.putMap (S := fun q => q = b) (.refl _ _ _) (fun _ => rfl) _ _, by simp [Kf.putMap]⟩
theorem kinds_any (w : World) : Calls Tryz.prog 166 #[] w fun e w' => ∃ mb, e = .returned (.map (some mb)) ∧ w.heap.size ≤ mb ∧ MapIs str kdV w' mb kindsL ∧ Below w.heap.size w w' := by
  have hmm := @run_makeMap Tryz.prog
  have m0 : MapIs str kdV (w.alloc (.map #[] 0)) w.heap.size [] := MapIs.made w
  have f0 : Below w.heap.size w (w.alloc (.map #[] 0)) := (Below.refl _ w).alloc (Nat.le_refl _) _
  obtain ⟨W0, hW0⟩ : ∃ W, w.alloc (.map #[] 0) = W := ⟨_, rfl⟩
  have hz0 : W0.heap.size = w.heap.size + 1 := by rw [← hW0]; simp
  rw [hW0] at m0 f0
  obtain ⟨W1, h1, m1, f1, z1⟩ := upd_step m0 [119, 114, 105, 116, 101] ⟨0, 0, 224, 225⟩
  obtain ⟨W2, h2, m2, f2, z2⟩ := upd_step m1 [106, 111, 105, 110] ⟨1, 8, 224, 226⟩
  obtain ⟨W3, h3, m3, f3, z3⟩ := upd_step m2 [117, 112, 112, 101, 114] ⟨1, 1, 227, 228⟩
  obtain ⟨W4, h4, m4, f4, z4⟩ := upd_step m3 [108, 105, 110, 101, 115] ⟨1, 1, 224, 229⟩
  obtain ⟨W5, h5, m5, f5, z5⟩ := upd_step m4 [115, 111, 114, 116] ⟨1, 8, 230, 231⟩
  obtain ⟨W6, h6, m6, f6, z6⟩ := upd_step m5 [99, 111, 117, 110, 116] ⟨1, 8, 227, 232⟩
  obtain ⟨W7, h7, m7, f7, z7⟩ := upd_step m6 [115, 119, 97, 112] ⟨1, 1, 233, 234⟩
  obtain ⟨W8, h8, m8, f8, z8⟩ := upd_step m7 [104, 101, 97, 100] ⟨1, 1, 235, 236⟩
  have HM8 : Hid (MapIs str kdV W8 w.heap.size kindsL) := Hd m8
  have HB8 : Hid (Below w.heap.size w W8) := Hd (by
    have st : ∀ {X Y : World}, Below w.heap.size w X → w.heap.size ≤ X.heap.size → Fr X.heap.size (fun q => q = w.heap.size) X Y → Below w.heap.size w Y := fun hX hz hF => hX.trans ((hF.mono (S' := fun q => q = w.heap.size) hz (fun _ _ h => h)).below (fun k hk e => by omega))
    exact st (st (st (st (st (st (st (st f0 (by omega) f1) (by omega) f2) (by omega) f3) (by omega) f4) (by omega) f5) (by omega) f6) (by omega) f7) (by omega) f8)
  simp only [kdV] at h1 h2 h3 h4 h5 h6 h7 h8
  clear m0 m1 m2 m3 m4 m5 m6 m7 m8 f0 f1 f2 f3 f4 f5 f6 f7 f8 z1 z2 z3 z4 z5 z6 z7 z8 hz0
  go_enter Tryz.func166, Tryz.ntmps166
  go_wp2
  go_ret
  exact ⟨_, rfl, Nat.le_refl _, HM8.out, HB8.out⟩
theorem run_kind (a b : Int) (f g : Nat) (w : World) : (Instr.field 240 (.agg #[.int .i64 a, .int .i64 b, .func (.func f) #[] #[], .func (.func g) #[] #[]]) 3).run Tryz.prog w = .ok (.func (.func g) #[] #[]) w := by kernel_rfl
def Enters (f : Nat) : Prop := ∀ (args : Array Value) (w : World), (callFunc f args).run Tryz.prog w = .ok (.enter f args) w
def WordIs (B : Nat) (w0 : World) (f : Nat) (s : List UInt8) (b : Bool) : Prop := ∀ w, Below B w0 w → Calls Tryz.prog f #[str s] w fun e w' => e = .returned (.bool b) ∧ Below w.heap.size w w'
theorem check_ok (name word : List UInt8) (n : Nat) (k : Kd) (w : World) (hk : mlook name kindsL = some k) (h1 : k.least ≤ (n : Int)) (h2 : (n : Int) ≤ k.most) (hw : WordIs w.heap.size w k.word word true) (hl : word.length ≤ 100) (he : Enters k.word) :
    Calls Tryz.prog 165 #[str name, str word, .int .i64 (n : Int)] w fun e w' => e = .returned .nilIface ∧ Below w.heap.size w w' := by
  have K0 := Hd (kinds_any w)
  have HK := Hd hk
  have HW := Hd hw
  obtain ⟨least, most, wf, rf⟩ := k
  have hen := he #[str word]
  simp only at hen
  clear he
  simp only at h1 h2
  have hc1 : ((n : Int) < least) = False := eq_false (by omega)
  have hc2 : (most < (n : Int)) = False := eq_false (by omega)
  have hc3 : ((100 : Int) < (word.length : Int)) = False := eq_false (by omega)
  clear hk hw
  go_enter Tryz.func165, Tryz.ntmps165
  go_wp2_with fail
  refine K0.out.mono ?_
  rintro e w1 ⟨mb, rfl, hmb, hM, hb1⟩
  have hlk := MapIs.lookup kmapKey kmapUnd kzero hM name true
  rw [HK.out] at hlk
  simp only [if_true, Option.map_some, Option.getD_some, Option.isSome_some, kdV] at hlk
  have hA : Below w.heap.size w (w1.alloc (.cells #[.int .i64 least, .int .i64 most, .func (.func wf) #[] #[], .func (.func rf) #[] #[]] 240)) := hb1.alloc hb1.size _
  have HA := Hd hA
  have K1 := Hd (HW.out _ hA)
  clear hM hb1 hA
  go_wp2_with fail
  refine K1.out.mono ?_
  rintro e w2 ⟨rfl, hb2⟩
  have HB2 := Hd (HA.out.trans (hb2.mono HA.out.size))
  clear hb2
  go_wp2
  go_ret
  exact ⟨rfl, HB2.out⟩
theorem run_ok (name word out : List UInt8) (v : Value) (ins : List (List UInt8)) (k : Kd) (w : World) (hr : Reads w v (ins.map str)) (hk : mlook name kindsL = some k) (h1 : k.least ≤ (ins.length : Int)) (h2 : (ins.length : Int) ≤ k.most) (hw : WordIs w.heap.size w k.word word true) (hl : word.length ≤ 100) (he : Enters k.word) (he2 : Enters k.run)
    (hrun : ∀ w1, Below w.heap.size w w1 → Calls Tryz.prog k.run #[str word, v] w1 fun e w' => e = .returned (str out) ∧ Below w1.heap.size w1 w') (ho : out.length ≤ 2000) :
    Calls Tryz.prog 97 #[str name, str word, v] w fun e w' => e = .returned (.tuple #[str out, .nilIface]) ∧ Below w.heap.size w w' := by
  have K0 := Hd (check_ok name word ins.length k w hk h1 h2 hw hl he)
  have HK := Hd hk
  have HR := Hd hrun
  obtain ⟨a, cap, rfl, -, -⟩ := id hr
  have hle := hr.le
  simp only [List.length_map] at *
  obtain ⟨least, most, wf, rf⟩ := k
  have hc : ((2000 : Int) < (out.length : Int)) = False := eq_false (by omega)
  have hen := he2 #[str word, .slice a ins.length cap]
  simp only at hen
  clear he he2
  clear hk hw hr hrun h1 h2
  go_enter Tryz.func97, Tryz.ntmps97
  go_wp2_with fail
  refine K0.out.mono ?_
  rintro e w1 ⟨rfl, hb1⟩
  have HB1 := Hd hb1
  clear hb1
  go_wp2_with fail
  refine (kinds_any w1).mono ?_
  rintro e w2 ⟨mb, rfl, hmb, hM, hb2⟩
  have hlk := MapIs.lookup kmapKey kmapUnd kzero hM name false
  rw [HK.out] at hlk
  simp only [Bool.false_eq_true, if_false, Option.map_some, Option.getD_some, kdV] at hlk
  have HB2 := Hd (HB1.out.trans (hb2.mono HB1.out.size))
  have K1 := Hd (HR.out w2 HB2.out)
  have hfd := run_kind least most wf rf w2
  clear hM hb2
  go_wp2_with fail
  refine K1.out.mono ?_
  rintro e w3 ⟨rfl, hb3⟩
  have HB3 := Hd (HB2.out.trans (hb3.mono HB2.out.size))
  clear hb3
  go_wp2
  go_ret2
  exact ⟨rfl, HB3.out⟩
theorem digits_le6 : ∀ (n : Nat), n ≤ 1000000 → (Lib.decDigits n).length ≤ 8 := by
  have h : ∀ (k n : Nat), n < 10 ^ (k + 1) → Lib.nDigits n ≤ k + 1 := by
    intro k
    induction k with
    | zero => intro n h; rw [Lib.nDigits]; split <;> omega
    | succ k ih =>
      intro n h
      rw [Lib.nDigits]
      split
      · omega
      · have := ih (n / 10) (by rw [Nat.pow_succ] at h; omega)
        omega
  intro n hn
  rw [Lib.decDigits_length]
  exact h 7 n (by omega)
theorem endedL_len (l : List (List UInt8)) : (endedL l).length = (l.map fun s => s.length + 1).sum := by
  induction l with
  | nil => rfl
  | cons s l ih =>
    rw [endedL_cons, List.length_append, List.length_cons, ih, List.map_cons, List.sum_cons]
    omega
theorem endedL_perm {l l' : List (List UInt8)} (h : l.Perm l') : (endedL l).length = (endedL l').length := by
  rw [endedL_len, endedL_len]
  exact (h.map _).sum_nat
theorem sortB_perm (l : List (List UInt8)) : (sortB l).Perm l := List.mergeSort_perm _ _
theorem compact_upto (zs : List (List UInt8)) : ∀ m, m ≤ zs.length → (endedL (Lib.compactUpTo zs.toArray m)).length ≤ (endedL (zs.take m)).length
  | 0, _ => by simp [Lib.compactUpTo, endedL]
  | m + 1, h => by
    have ih := compact_upto zs m (by omega)
    have hm : m < zs.length := by omega
    rw [Lib.compactUpTo_succ, List.take_succ_eq_append_getElem hm, endedL_snoc]
    have e : zs.toArray[m]! = zs[m] := by simp [hm]
    split
    · rw [e, endedL_snoc]
      simp only [List.length_append]
      omega
    · rw [List.append_nil]
      simp only [List.length_append]
      omega
theorem compact_len (zs : List (List UInt8)) : (endedL (Lib.compact zs)).length ≤ (endedL zs).length := by
  have := compact_upto zs zs.length (Nat.le_refl _)
  rw [List.take_length] at this
  exact this
theorem compact_mem {zs : List (List UInt8)} {s : List UInt8} (h : s ∈ Lib.compact zs) : s ∈ zs := by
  unfold Lib.compact Lib.compactUpTo at h
  obtain ⟨j, hj, rfl⟩ := List.mem_map.1 h
  have hj2 := List.mem_range.1 (List.mem_filter.1 hj).1
  have e : zs.toArray[j]! = zs[j] := by simp [hj2]
  rw [e]
  exact List.getElem_mem hj2
abbrev onceB : List UInt8 := [111, 110, 99, 101]
def sortedC (word : List UInt8) (l : List (List UInt8)) : List (List UInt8) := if word = onceB then Lib.compact (sortB l) else sortB l
theorem sorted_any (word : List UInt8) (v : Value) (ins : List (List UInt8)) (w : World) (hr : Reads w v (ins.map str)) (hm : Ml w) (hn : ins.length ≤ 100) (hx : ∀ s ∈ ins, s.length ≤ 10000) (hl : (endedL (allB ins)).length ≤ 1000000) :
    Calls Tryz.prog 231 #[str word, v] w fun e w' => e = .returned (str (endedL (sortedC word (allB ins)))) ∧ Below w.heap.size w w' := by
  have K0 := Hd (all_any v ins w hr hm hn hx)
  have hal := endedL_count (allB ins)
  have hsl : (sortB (allB ins)).length = (allB ins).length := (sortB_perm _).length_eq
  have HLS : Hid ((endedL (sortB (allB ins))).length ≤ 1000000) := Hd (by rw [endedL_perm (sortB_perm _)]; exact hl)
  have HLC : Hid ((endedL (Lib.compact (sortB (allB ins)))).length ≤ 1000000) := Hd (Nat.le_trans (compact_len _) HLS.out)
  unfold sortedC
  generalize allB ins = L at *
  clear hr hm hx
  by_cases ho : word = onceB
  · rw [if_pos ho]
    have hd : (word == [111, 110, 99, 101]) = true := by simpa using ho
    clear ho
    go_enter Tryz.func231, Tryz.ntmps231
    go_wp2_with fail
    refine K0.out.mono ?_
    rintro e w1 ⟨v1, rfl, ho1, hb1⟩
    have HO1 := Hd ho1
    have HB1 := Hd hb1
    have hz1 := hb1.size
    clear ho1 hb1
    go_wp2_with fail
    refine (sort_any v1 L w.heap.size w1 HO1.out (by omega)).mono ?_
    rintro e w2 ⟨rfl, ho2, hg2⟩
    have HO2 := Hd ho2
    have HB2 := Hd (HB1.out.grown hg2 hz1 (fun k hk => owned_from HO1.out hk))
    have hz2 := HB2.out.size
    clear ho2 hg2
    go_wp2_with fail
    refine (compact_any v1 (sortB L) w.heap.size w2 HO2.out (by omega)).mono ?_
    rintro e w3 ⟨v3, rfl, ho3, hg3⟩
    have HO3 := Hd ho3
    have HB3 := Hd (HB2.out.grown hg3 hz2 (fun k hk => owned_from HO2.out hk))
    have hz3 := HB3.out.size
    have K3 := Hd (ended_any v3 _ w3 (ownsRow_reads ho3) HLC.out)
    clear ho3 hg3
    go_wp2_with fail
    refine K3.out.mono ?_
    rintro e w4 ⟨rfl, hb4⟩
    have HB4 := Hd (HB3.out.trans (hb4.mono hz3))
    clear hb4
    go_wp2
    go_ret
    exact ⟨rfl, HB4.out⟩
  · rw [if_neg ho]
    have hd : (word == [111, 110, 99, 101]) = false := by simpa using ho
    clear ho
    go_enter Tryz.func231, Tryz.ntmps231
    go_wp2_with fail
    refine K0.out.mono ?_
    rintro e w1 ⟨v1, rfl, ho1, hb1⟩
    have HO1 := Hd ho1
    have HB1 := Hd hb1
    have hz1 := hb1.size
    clear ho1 hb1
    go_wp2_with fail
    refine (sort_any v1 L w.heap.size w1 HO1.out (by omega)).mono ?_
    rintro e w2 ⟨rfl, ho2, hg2⟩
    have HB2 := Hd (HB1.out.grown hg2 hz1 (fun k hk => owned_from HO1.out hk))
    have hz2 := HB2.out.size
    have K3 := Hd (ended_any v1 _ w2 (ownsRow_reads ho2) HLS.out)
    clear ho2 hg2
    go_wp2_with fail
    refine K3.out.mono ?_
    rintro e w4 ⟨rfl, hb4⟩
    have HB4 := Hd (HB2.out.trans (hb4.mono hz2))
    clear hb4
    go_wp2
    go_ret
    exact ⟨rfl, HB4.out⟩
def countB (ins : List (List UInt8)) : List UInt8 := ((Lib.decDigits (allB ins).length ++ [32]) ++ Lib.decDigits (ins.map List.length).sum) ++ [10]
theorem sum_take {ins : List (List UInt8)} {j : Nat} (hj : j < ins.length) : ((ins.take (j + 1)).map List.length).sum = ((ins.take j).map List.length).sum + ins[j].length := by
  rw [List.take_succ_eq_append_getElem hj, List.map_append, List.sum_append]
  simp only [List.map_cons, List.map_nil, List.sum_cons, List.sum_nil, Nat.add_zero]
theorem sum_lens : ∀ {ins : List (List UInt8)}, (∀ s ∈ ins, s.length ≤ 10000) → (ins.map List.length).sum ≤ 10000 * ins.length
  | [], _ => by simp
  | s :: ins, h => by
    have h1 := h s List.mem_cons_self
    have ih := sum_lens (ins := ins) (fun q hq => h q (List.mem_cons_of_mem _ hq))
    simp only [List.map_cons, List.sum_cons, List.length_cons]
    omega
set_option maxHeartbeats 1000000 in
theorem count_any (word : List UInt8) (v : Value) (ins : List (List UInt8)) (w : World) (hr : Reads w v (ins.map str)) (hm : Ml w) (ht : Tab w) (hn : ins.length ≤ 90) (hx : ∀ s ∈ ins, s.length ≤ 10000) :
    Calls Tryz.prog 232 #[str word, v] w fun e w' => e = .returned (str (countB ins)) ∧ Below w.heap.size w w' := by
  have K0 := Hd (all_any v ins w hr hm (by omega) hx)
  have hal := allB_len hx
  have hsm := sum_lens hx
  have HST : Hid (∀ k, ((ins.take k).map List.length).sum ≤ 10000 * 90) := Hd (fun k => Nat.le_trans (sum_lens (fun s hs => hx s (List.mem_of_mem_take hs))) (Nat.mul_le_mul_left _ (by rw [List.length_take]; omega)))
  have HX := Hd hx
  have HT := Hd ht
  obtain ⟨a, cap, rfl, -, -⟩ := id hr
  simp only [List.length_map] at *
  have HR := Hd hr
  clear hr hm ht hx
  go_enter Tryz.func232, Tryz.ntmps232
  go_wp2_with fail
  go_loop [5, 10] (fun nv iv => ∃ j : Nat, j ≤ ins.length ∧ iv = .int .i64 j ∧ nv = .int .i64 ((((ins.take j).map List.length).sum : Nat) : Int)) (fun _ iv => ins.length - (intOf iv).toNat)
  case atStart => exact ⟨0, by omega, rfl, by simp⟩
  case round =>
    obtain ⟨j, hj, rfl, rfl⟩ := hrel
    by_cases hlt : j < ins.length
    · obtain ⟨b, o, hix, hce⟩ := HR.out.at (P := Tryz.prog) Tryz.underlying33 (by kernel_rfl) j (by simpa using hlt)
      simp only [List.getElem_map] at hce
      have hp1 := HX.out _ (List.getElem_mem hlt)
      have HSN := Hd (sum_take hlt)
      have hst := HST.out j
      obtain ⟨p, hp⟩ : ∃ p, ins[j] = p := ⟨_, rfl⟩
      rw [hp] at hce HSN hp1
      obtain ⟨q, hq⟩ : ∃ q, ((ins.take j).map List.length).sum = q := ⟨_, rfl⟩
      rw [hq] at HSN hst ⊢
      have hw1 : IntKind.i64.wrap ((q : Int) + (p.length : Int)) = (q : Int) + (p.length : Int) := IntWalk.i64_in _ (by omega)
      clear hp hq
      go_wp2
      go_round
      case rel => exact ⟨j + 1, by omega, by go_num, by rw [HSN.out]; go_num⟩
      case measure => simp [intOf]; omega
    · obtain rfl : j = ins.length := by omega
      rw [List.take_length]
      have HC : Hid (countB ins = ((Lib.decDigits (allB ins).length ++ [32]) ++ Lib.decDigits (ins.map List.length).sum) ++ [10]) := Hd rfl
      obtain ⟨q, hq⟩ : ∃ q, (ins.map List.length).sum = q := ⟨_, rfl⟩
      obtain ⟨m, hmm⟩ : ∃ q, (allB ins).length = q := ⟨_, rfl⟩
      rw [hq, hmm] at HC
      rw [hq] at hsm ⊢
      rw [hmm] at hal K0
      have hd1 := digits_le6 m (by omega)
      have hd2 := digits_le6 q (by omega)
      clear hq hmm
      go_wp2_with fail
      refine K0.out.mono ?_
      rintro e w1 ⟨v1, rfl, ho1, hb1⟩
      have hrd := ownsRow_reads ho1
      obtain ⟨a1, cap1, rfl⟩ : ∃ a1 cap1, v1 = .slice a1 m cap1 := by
        rcases ho1.2 with ⟨rfl, h0⟩ | ⟨g, c, cur, rfl, -⟩
        · exact ⟨_, _, by rw [h0]⟩
        · exact ⟨_, _, rfl⟩
      have HB1 := Hd hb1
      have K1 := Hd (itoa_any m w1 (by omega) (tab_below HT.out hb1 (Nat.le_refl _)))
      clear ho1 hb1 hrd
      go_wp2_with fail
      refine K1.out.mono ?_
      rintro e w2 ⟨rfl, hb2⟩
      have HB2 := Hd (HB1.out.trans (hb2.mono HB1.out.size))
      have K2 := Hd (itoa_any q w2 (by omega) (tab_below HT.out HB2.out (Nat.le_refl _)))
      clear hb2
      generalize Lib.decDigits m = dm at *
      generalize Lib.decDigits q = dq at *
      obtain ⟨x1, hx1⟩ : ∃ x, dm ++ [32] = x := ⟨_, rfl⟩
      obtain ⟨x2, hx2⟩ : ∃ x, x1 ++ dq = x := ⟨_, rfl⟩
      obtain ⟨x3, hx3⟩ : ∃ x, x2 ++ [10] = x := ⟨_, rfl⟩
      have e1 : (⟨dm.toArray⟩ : ByteArray) ++ (⟨#[32]⟩ : ByteArray) = ⟨x1.toArray⟩ := by rw [← hx1, show (⟨#[32]⟩ : ByteArray) = ⟨([32] : List UInt8).toArray⟩ from rfl, str_app]
      have e2 : (⟨x1.toArray⟩ : ByteArray) ++ (⟨dq.toArray⟩ : ByteArray) = ⟨x2.toArray⟩ := by rw [← hx2, str_app]
      have e3 : (⟨x2.toArray⟩ : ByteArray) ++ (⟨#[10]⟩ : ByteArray) = ⟨x3.toArray⟩ := by rw [← hx3, show (⟨#[10]⟩ : ByteArray) = ⟨([10] : List UInt8).toArray⟩ from rfl, str_app]
      have l1 : x1.length = dm.length + 1 := by rw [← hx1]; simp
      have l2 : x2.length = x1.length + dq.length := by rw [← hx2]; simp
      have hz1 : ¬ 9223372036854775807 < dm.length + 1 := by omega
      have hz2 : ¬ 9223372036854775807 < x1.length + dq.length := by omega
      have hz3 : ¬ 9223372036854775807 < x2.length + 1 := by omega
      rw [hx1, hx2, hx3] at HC
      clear hx1 hx2 hx3 l1 l2
      go_wp2_with fail
      refine K2.out.mono ?_
      rintro e w3 ⟨rfl, hb3⟩
      have HB3 := Hd (HB2.out.trans (hb3.mono HB2.out.size))
      clear hb3
      go_wp2
      go_ret
      rw [HC.out]
      exact ⟨rfl, HB3.out⟩
theorem anything_word (B : Nat) (w0 : World) (s : List UInt8) : WordIs B w0 224 s true := by
  intro w hb
  go_enter Tryz.func224, Tryz.ntmps224
  go_wp2
  go_ret
  exact ⟨rfl, Below.refl _ _⟩
theorem ended_spl : ∀ s : List UInt8, endedL (spl 10 s) = s ++ [10]
  | [] => rfl
  | b :: s => by
    have ih := ended_spl s
    unfold spl
    by_cases hb : b = 10
    · rw [if_pos hb, endedL_cons, ih, hb]
      rfl
    · rw [if_neg hb]
      cases hq : spl 10 s with
      | nil => exact absurd hq (spl_ne 10 s)
      | cons x r =>
        rw [hq, endedL_cons] at ih
        show endedL ((b :: x) :: r) = _
        rw [endedL_cons, List.cons_append, ih]
        rfl
theorem ended_lines (s : List UInt8) : (endedL (linesB s)).length ≤ s.length + 1 := by
  obtain ⟨k, hk, t, ht, he⟩ := linesB_eq s
  have h := congrArg List.length (ended_spl s)
  rw [List.length_append] at h
  rw [he]
  split
  · have := endedL_take (spl 10 s) k
    simp only [List.length_cons, List.length_nil] at h
    omega
  · simp only [List.length_cons, List.length_nil] at h
    omega
theorem endedL_app (l r : List (List UInt8)) : endedL (l ++ r) = endedL l ++ endedL r := by simp [endedL]
theorem ended_all : ∀ ins : List (List UInt8), (endedL (allB ins)).length ≤ (ins.map fun s => s.length + 1).sum
  | [] => by simp [allB, endedL]
  | s :: ins => by
    have ih := ended_all ins
    have h1 := ended_lines s
    have e : allB (s :: ins) = linesB s ++ allB ins := by simp [allB]
    rw [e, endedL_app, List.length_append, List.map_cons, List.sum_cons]
    omega
theorem joinW_any (word : List UInt8) (b o n c : Nat) (ins : List (List UInt8)) (w : World) (hn : ins.length = n) (hce : ∀ (j : Nat) s, ins[j]? = some s → w.cell? ⟨b, o + j, none⟩ = some (str s)) (hb : b < w.heap.size) (hc : n ≤ c) (hl : (Lib.join ins word).length ≤ 1000000) (hn2 : n ≤ 1000) :
    Calls Tryz.prog 120 #[.slice (some ⟨b, o, none⟩) n c, str word] w fun e w' => e = .returned (str (Lib.join ins word)) ∧ Below w.heap.size w w' := by
  have hm : (ins.map fun s => (⟨s.toArray⟩ : ByteArray)).map (·.data.toList) = ins := by
    rw [List.map_map]
    conv => rhs; rw [← List.map_id ins]
    exact List.map_congr_left (fun s _ => rfl)
  have K := Tryz.strings_Join b o c (ins.map fun s => (⟨s.toArray⟩ : ByteArray)) ⟨word.toArray⟩ w (fun j x hx => by
    rw [List.getElem?_map] at hx
    obtain ⟨s, hs, rfl⟩ := Option.map_eq_some_iff.1 hx
    exact hce j s hs) hb (by rw [List.length_map]; omega) (by rw [List.length_map]; omega) (by rw [hm]; exact Nat.le_trans hl (by decide))
  rw [List.length_map, hn, hm] at K
  exact K
theorem kjoin_any (word : List UInt8) (b o n c : Nat) (ins : List (List UInt8)) (w : World) (hn : ins.length = n) (hce : ∀ (j : Nat) s, ins[j]? = some s → w.cell? ⟨b, o + j, none⟩ = some (str s)) (hb : b < w.heap.size) (hc : n ≤ c) (hl : (Lib.join ins word).length ≤ 1000000) (hn2 : n ≤ 1000) :
    Calls Tryz.prog 226 #[str word, .slice (some ⟨b, o, none⟩) n c] w fun e w' => e = .returned (str (Lib.join ins word)) ∧ Below w.heap.size w w' := by
  have K := Hd (joinW_any word b o n c ins w hn hce hb hc hl hn2)
  clear hce hl
  go_enter Tryz.func226, Tryz.ntmps226
  go_wp2_with fail
  refine K.out.mono ?_
  rintro e w1 ⟨rfl, hb1⟩
  go_wp2
  go_ret
  exact ⟨rfl, hb1⟩
theorem digits_le : ∀ (k n : Nat), n < 10 ^ (k + 1) → (Lib.decDigits n).length ≤ k + 1 := by
  have h : ∀ (k n : Nat), n < 10 ^ (k + 1) → Lib.nDigits n ≤ k + 1 := by
    intro k
    induction k with
    | zero => intro n h; rw [Lib.nDigits]; split <;> omega
    | succ k ih =>
      intro n h
      rw [Lib.nDigits]
      split
      · omega
      · have := ih (n / 10) (by rw [Nat.pow_succ] at h; omega)
        omega
  intro k n hn
  rw [Lib.decDigits_length]
  exact h k n hn
theorem cut_at {c : UInt8} {a r : List UInt8} (h : c ∉ a) : Lib.cut (a ++ c :: r) [c] = (a, r, true) := by
  have hi : Lib.index (a ++ c :: r) [c] = (a.length : Int) := by
    refine Lib.index_hit (fun j hj => ?_) (by simp) ?_
    · unfold Lib.occAt
      have hd : (a ++ c :: r).drop j = a[j] :: (a ++ c :: r).drop (j + 1) := by
        rw [List.drop_eq_getElem_cons (by simp; omega), List.getElem_append_left hj]
      rw [hd]
      have hne : c ≠ a[j] := fun e => h (e ▸ List.getElem_mem hj)
      simp [List.isPrefixOf, hne]
    · unfold Lib.occAt
      rw [List.drop_left]
      simp [List.isPrefixOf]
  unfold Lib.cut
  rw [hi, if_pos (by omega)]
  simp
theorem strcut_any (a r : List UInt8) (c : UInt8) (w : World) (h : c ∉ a) (hl : (a ++ c :: r).length ≤ 4000000000) (hm : Ml w) :
    Calls Tryz.prog 181 #[str (a ++ c :: r), str [c]] w fun e w' => e = .returned (.tuple #[str a, str r, .bool true]) ∧ Below w.heap.size w w' := by
  obtain ⟨m, hm⟩ := hm
  refine (Tryz.strings_Cut ⟨(a ++ c :: r).toArray⟩ ⟨[c].toArray⟩ m w (by rw [Lib.size_eq]; simp at hl ⊢; omega) hm).mono ?_
  rintro e w' ⟨rfl, q, rfl⟩
  have e1 : Lib.cut ((⟨(a ++ c :: r).toArray⟩ : ByteArray).data.toList) ((⟨[c].toArray⟩ : ByteArray).data.toList) = (a, r, true) := cut_at h
  rw [e1]
  exact ⟨rfl, below_drewN (Below.refl _ _) q⟩
theorem dec_digit (n : Nat) : ∀ d ∈ Lib.decDigits n, 48 ≤ d.toNat ∧ d.toNat ≤ 57 := by
  induction n using Nat.strongRecOn with
  | ind n ih =>
    intro d hd
    rw [Lib.decDigits] at hd
    split at hd
    · rename_i h
      rw [List.mem_singleton] at hd
      subst hd
      have : (UInt8.ofNat (48 + n)).toNat = 48 + n := by simp [UInt8.toNat_ofNat']; omega
      omega
    · rename_i h
      rcases List.mem_append.1 hd with hd | hd
      · exact ih (n / 10) (by omega) d hd
      · rw [List.mem_singleton] at hd
        subst hd
        have : (UInt8.ofNat (48 + n % 10)).toNat = 48 + n % 10 := by simp [UInt8.toNat_ofNat']; omega
        omega
theorem decFrom_app : ∀ (l r : List UInt8) (acc m : Nat), Lib.decFrom acc l = some m → Lib.decFrom acc (l ++ r) = Lib.decFrom m r
  | [], r, acc, m, h => by
    obtain rfl := Option.some.inj h
    rfl
  | b :: l, r, acc, m, h => by
    unfold Lib.decFrom at h
    show Lib.decFrom acc (b :: (l ++ r)) = _
    unfold Lib.decFrom
    cases hd : Lib.digitVal b with
    | none => rw [hd] at h; cases h
    | some d =>
      rw [hd] at h
      cases r with
      | nil => simpa [Lib.decFrom] using decFrom_app l [] _ m h
      | cons x r => exact decFrom_app l (x :: r) _ m h
theorem digitVal_dg (k : Nat) (h : k < 10) : Lib.digitVal (UInt8.ofNat (48 + k)) = some k := by
  have : (UInt8.ofNat (48 + k)).toNat = 48 + k := by simp [UInt8.toNat_ofNat']; omega
  unfold Lib.digitVal
  rw [this, if_pos (by omega)]
  congr 1
  omega
theorem decFrom_dec (n : Nat) : Lib.decFrom 0 (Lib.decDigits n) = some n := by
  induction n using Nat.strongRecOn with
  | ind n ih =>
    rw [Lib.decDigits]
    split
    · rename_i h
      simp only [Lib.decFrom, digitVal_dg n h]
      congr 1
      omega
    · rename_i h
      rw [decFrom_app _ _ _ _ (ih (n / 10) (by omega))]
      simp only [Lib.decFrom, digitVal_dg (n % 10) (by omega)]
      congr 1
      omega
theorem dec_ne (n : Nat) : Lib.decDigits n ≠ [] := by
  intro e
  have := decFrom_dec n
  have h2 : (Lib.decDigits n).length = 0 := by rw [e]; rfl
  rw [Lib.decDigits_length, Lib.nDigits] at h2
  split at h2 <;> omega
theorem atoi_dec (n : Nat) : Lib.atoi (Lib.decDigits n) = some (n : Int) := by
  cases hd : Lib.decDigits n with
  | nil => exact absurd hd (dec_ne n)
  | cons b r =>
    have hb := dec_digit n b (by rw [hd]; exact List.mem_cons_self)
    unfold Lib.atoi
    have h1 : (b == 45) = false := by
      rw [beq_eq_false_iff_ne]
      intro e; subst e
      exact absurd hb.1 (by decide)
    have h2 : (b == 43) = false := by
      rw [beq_eq_false_iff_ne]
      intro e; subst e
      exact absurd hb.1 (by decide)
    simp only [h1, h2, Bool.false_eq_true, if_false]
    unfold Lib.decNat
    rw [← hd, decFrom_dec]
    simp [hd]
def NErr (w : World) : Prop := (∃ t p, w.cell? ⟨17, 0, none⟩ = some (.iface t p)) ∧ ∃ t p, w.cell? ⟨18, 0, none⟩ = some (.iface t p)
theorem NErr.below {w w' : World} {B : Nat} (h : NErr w) (hb : Below B w w') (hB : w.heap.size ≤ B) : NErr w' := by
  obtain ⟨⟨t, p, h1⟩, ⟨u, q, h2⟩⟩ := h
  exact ⟨⟨t, p, (hb.cell (Nat.lt_of_lt_of_le (lt_of_cell h1) hB)).trans h1⟩, ⟨u, q, (hb.cell (Nat.lt_of_lt_of_le (lt_of_cell h2) hB)).trans h2⟩⟩
theorem atoi_any (s : List UInt8) (w : World) (hN : NErr w) (hl : s.length ≤ 100000) :
    Calls Tryz.prog 276 #[str s] w fun e w' => Below w.heap.size w w' ∧
      ((∃ v, Lib.atoiAll s = .ok v ∧ e = .returned (.tuple #[.int .i64 v, .nilIface])) ∨ ((∀ v, Lib.atoiAll s ≠ .ok v) ∧ ∃ z t p, e = .returned (.tuple #[.int .i64 z, .iface t p]))) := by
  obtain ⟨⟨t1, p1, h1⟩, ⟨t2, p2, h2⟩⟩ := hN
  have hsz : (⟨s.toArray⟩ : ByteArray).size = s.length := by simp [ByteArray.size]
  rcases hc : Lib.atoiAll s with v | _ | _
  · refine (Tryz.strconv_Atoi_ok ⟨s.toArray⟩ (by omega) v hc w).mono ?_
    rintro e w' ⟨rfl, h⟩
    refine ⟨?_, Or.inl ⟨v, rfl, rfl⟩⟩
    rcases h with rfl | ⟨t, rfl⟩
    · exact Below.refl _ _
    · exact Lib.bytesWorld_below w _ t
  · refine (Tryz.strconv_Atoi_syntax ⟨s.toArray⟩ (by omega) ⟨_, hc, (fun v h => by cases h), (fun h => by cases h)⟩ _ w h1 (Or.inr ⟨_, _, rfl⟩)).mono ?_
    rintro e w' ⟨N, rfl, -, -, hb⟩
    exact ⟨hb, Or.inr ⟨(fun v h => by cases h), _, _, _, rfl⟩⟩
  · refine (Tryz.strconv_Atoi_range ⟨s.toArray⟩ (by omega) hc _ w h2 (Or.inr ⟨_, _, rfl⟩)).mono ?_
    rintro e w' ⟨N, rfl, -, -, hb⟩
    exact ⟨hb, Or.inr ⟨(fun v h => by cases h), _, _, _, rfl⟩⟩
theorem nDigits_lt : ∀ (k n : Nat), Lib.nDigits n ≤ k + 1 → n < 10 ^ (k + 1) := by
  intro k
  induction k with
  | zero =>
    intro n h
    rw [Lib.nDigits] at h
    split at h
    · omega
    · have : 1 ≤ Lib.nDigits (n / 10) := by rw [Lib.nDigits]; split <;> omega
      omega
  | succ k ih =>
    intro n h
    rw [Lib.nDigits] at h
    split at h
    · have : 10 ≤ 10 ^ (k + 1 + 1) := by
        have : 0 < 10 ^ (k + 1) := Nat.pow_pos (by decide)
        rw [Nat.pow_succ]; omega
      omega
    · have := ih (n / 10) (by omega)
      rw [Nat.pow_succ]; omega
theorem atoiAll_dec {n : Nat} (h : n ≤ 9999) : Lib.atoiAll (Lib.decDigits n) = .ok (n : Int) := by
  have := digits_le 3 n (by omega)
  rw [Lib.atoiAll_short _ (by omega), atoi_dec]
  rfl
theorem dec_inj {n m : Nat} (_hn : n ≤ 9999) (_hm : m ≤ 9999) (h : Lib.decDigits n = Lib.decDigits m) : n = m := by
  have h1 := decFrom_dec n
  rw [h, decFrom_dec] at h1
  exact (Option.some.inj h1).symm
theorem decFrom_small {l : List UInt8} {m : Nat} (hl : l.length ≤ 4) (h : Lib.decNat l = some m) : (m : Int) ≤ 9223372036854775807 := by
  have := Lib.decNat_small (l := l) (m := m) (by omega) h
  omega
theorem atoi_small {l : List UInt8} {v : Int} (hl : l.length ≤ 4) (h : Lib.atoi l = some v) : v ≤ 9223372036854775807 := by
  cases l with
  | nil => cases h
  | cons b r =>
    have hr : r.length ≤ 4 := by simp at hl; omega
    simp only [Lib.atoi] at h
    split at h
    · obtain ⟨m, -, rfl⟩ := Option.map_eq_some_iff.1 h
      omega
    · split at h
      · obtain ⟨m, hm, rfl⟩ := Option.map_eq_some_iff.1 h
        exact decFrom_small hr hm
      · obtain ⟨m, hm, rfl⟩ := Option.map_eq_some_iff.1 h
        exact decFrom_small hl hm
theorem cut_miss {c : UInt8} {s : List UInt8} (h : c ∉ s) : Lib.cut s [c] = (s, [], false) := by
  have hi : Lib.index s [c] = -1 := by
    refine Lib.index_past (i := s.length) (by simp) (fun j hj => ?_) (by simp)
    unfold Lib.occAt
    have hd : s.drop j = s[j] :: s.drop (j + 1) := List.drop_eq_getElem_cons hj
    rw [hd]
    have hne : c ≠ s[j] := fun e => h (e ▸ List.getElem_mem hj)
    simp [List.isPrefixOf, hne]
  unfold Lib.cut
  rw [hi, if_neg (by decide)]
theorem split_at {c : UInt8} : ∀ {s : List UInt8}, c ∈ s → ∃ a r, s = a ++ c :: r ∧ c ∉ a
  | b :: s, h => by
    by_cases hb : b = c
    · exact ⟨[], s, by rw [hb]; rfl, by simp⟩
    · rcases List.mem_cons.1 h with h | h
      · exact absurd h.symm hb
      · obtain ⟨a, r, rfl, hn⟩ := split_at h
        exact ⟨b :: a, r, rfl, by
          simp only [List.mem_cons, not_or]
          exact ⟨fun e => hb e.symm, hn⟩⟩
end Go.Proofs.YtgjialbmlhbngaaGreatDoor
