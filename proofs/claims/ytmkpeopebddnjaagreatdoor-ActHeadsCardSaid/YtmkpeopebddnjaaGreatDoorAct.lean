/-
  Package act: ended, Lines, all; the reference's LinesOf.
-/
import Derived.Test.YtmkpeopebddnjaaGreatDoorCut
import Derived.Test.YtmkpeopebddnjaaGreatDoorBld
import Derived.BigQuiet
namespace Go.Proofs.YtmkpeopebddnjaaGreatDoor
open Go Go.RowKit Go.Kf

theorem tyStrsA : SliceTy Tryz.prog 39 9 (str []) 16 := ⟨Tryz.underlying39, by kernel_rfl, rfl⟩
/-- Each line with a line break. -/
def endedL (l : List (List UInt8)) : List UInt8 := (l.map (· ++ [10])).flatten
theorem endedL_snoc (l : List (List UInt8)) (s : List UInt8) : endedL (l ++ [s]) = endedL l ++ (s ++ [10]) := by simp [endedL]
theorem endedL_cons (s : List UInt8) (l : List (List UInt8)) : endedL (s :: l) = s ++ 10 :: endedL l := by simp [endedL]
theorem endedL_take (l : List (List UInt8)) (k : Nat) : (endedL (l.take k)).length ≤ (endedL l).length := by
  conv => rhs; rw [← List.take_append_drop k l]
  unfold endedL
  rw [List.map_append, List.flatten_append, List.length_append]
  omega
theorem endedL_mem {l : List (List UInt8)} {s : List UInt8} (h : s ∈ l) : s.length + 1 ≤ (endedL l).length := by
  obtain ⟨a, b, rfl⟩ := List.append_of_mem h
  simp [endedL]
  omega
theorem endedL_count (l : List (List UInt8)) : l.length ≤ (endedL l).length := by
  induction l with
  | nil => simp
  | cons s l ih =>
    rw [endedL_cons, List.length_append, List.length_cons, List.length_cons]
    omega

set_option maxHeartbeats 1000000 in
set_option maxRecDepth 100000 in
theorem ended_any (v : Value) (l : List (List UInt8)) (w : World) (hr : Reads w v (l.map str)) (hl : (endedL l).length ≤ 1000000) :
    Calls Tryz.prog 105 #[v] w fun e w' => e = .returned (str (endedL l)) ∧ Below w.heap.size w w' := by
  obtain ⟨a, cap, rfl, -, -⟩ := id hr
  have hle := hr.le
  simp only [List.length_map] at *
  have HR := Lib.hid hr
  have hln := endedL_count l
  have HLM : Hid (∀ s ∈ l, s.length ≤ 1000000) := Lib.hid (fun s hs => by have := endedL_mem hs; omega)
  have HLT : Hid (∀ k, (endedL (l.take k)).length ≤ 1000000) := Lib.hid (fun k => Nat.le_trans (endedL_take l k) hl)
  have hw0 : Below w.heap.size w (w.alloc (.cells #[.pointer none, .slice none 0 0] 84)) := (Below.refl _ _).alloc (Nat.le_refl _) _
  have HB0 : Hid (Bld (w.heap.size + 1) w.heap.size (Lib.byteCells []) (w.alloc (.cells #[.pointer none, .slice none 0 0] 84))) := Lib.hid (Bld.fresh (heap_alloc_here _ _) (by omega))
  have HW0 := Lib.hid hw0
  clear hr hw0
  go_enter Tryz.func105, Tryz.ntmps105
  go_wp2_with fail
  go_loopw [8] (fun i wl => ∃ j : Nat, j ≤ l.length ∧ i = .int .i64 j ∧ Bld (w.heap.size + 1) w.heap.size (Lib.byteCells (endedL (l.take j))) wl ∧ Fr (w.heap.size + 1) (fun k => k = w.heap.size) (w.alloc (.cells #[.pointer none, .slice none 0 0] 84)) wl) (fun i _ => l.length - (intOf i).toNat)
  case atStart => exact ⟨0, by omega, rfl, by simpa [endedL] using HB0.out, .refl _ _ _⟩
  case round =>
    obtain ⟨j, hj, rfl, hB, hF⟩ := hrel
    have HBj := Lib.hid hB
    have HFj := Lib.hid hF
    have HWj : Hid (Below w.heap.size w wr) := Lib.hid (HW0.out.trans ((hF.mono (S' := fun k => k = w.heap.size) (by simp) (fun _ _ h => h)).below (fun k hk e => by omega)))
    have hzr := hF.size
    simp at hzr
    clear hB hF
    have hrj := HR.out.below0 HWj.out
    by_cases hlt : j < l.length
    · obtain ⟨b, o, hix, hce⟩ := hrj.at (P := Tryz.prog) Tryz.underlying39 (by kernel_rfl) j (by simpa using hlt)
      simp only [List.getElem_map] at hce
      have HSN : Hid (endedL (l.take (j + 1)) = endedL (l.take j) ++ (l[j] ++ [10])) := Lib.hid (by rw [List.take_succ_eq_append_getElem hlt, endedL_snoc])
      have hp1 := HLM.out _ (List.getElem_mem hlt)
      obtain ⟨p, hp⟩ : ∃ p, l[j] = p := ⟨_, rfl⟩
      rw [hp] at hce HSN hp1
      clear hp hrj
      obtain ⟨x1, hx1⟩ : ∃ x, p ++ [10] = x := ⟨_, rfl⟩
      have e1 : (⟨p.toArray⟩ : ByteArray) ++ (⟨#[10]⟩ : ByteArray) = ⟨x1.toArray⟩ := by rw [← hx1, show (⟨#[10]⟩ : ByteArray) = ⟨([10] : List UInt8).toArray⟩ from rfl, str_app]
      have l1 : x1.length = p.length + 1 := by rw [← hx1]; simp
      have HX1 := Lib.hid hx1
      have hz1 : ¬ 9223372036854775807 < p.length + 1 := by omega
      have K := Lib.hid (writeString_bld (w.heap.size + 1) w.heap.size _ ⟨x1.toArray⟩ wr HBj.out (by rw [Lib.byteCells_length]; have := HLT.out j; simp [ByteArray.size]; omega) hzr)
      clear hx1
      go_wp2_with fail
      refine K.out.mono ?_
      rintro e w6 ⟨rfl, hB6, hF6⟩
      have HB7 : Hid (Bld (w.heap.size + 1) w.heap.size (Lib.byteCells (endedL (l.take (j + 1)))) w6) := Lib.hid (by
        rw [Lib.strCells_toArray, ← Lib.byteCells_append, ← HX1.out, ← HSN.out] at hB6
        exact hB6)
      have HF7 : Hid (Fr (w.heap.size + 1) (fun k => k = w.heap.size) (w.alloc (.cells #[.pointer none, .slice none 0 0] 84)) w6) := Lib.hid (HFj.out.trans hF6)
      clear hB6 hF6
      go_wp2
      go_roundw
      case rel => exact ⟨j + 1, by omega, by go_num, HB7.out, HF7.out⟩
      case measure => simp [intOf]; omega
    · obtain rfl : j = l.length := by omega
      have hBj := HBj.out
      rw [List.take_length] at hBj
      have K := Lib.hid (string_bld (w.heap.size + 1) w.heap.size _ wr hBj HWj.out.size)
      clear hBj hrj
      go_wp2_with fail
      refine K.out.mono ?_
      rintro e w6 ⟨rfl, hb6⟩
      go_wp2
      go_ret
      exact ⟨rfl, HWj.out.trans hb6⟩

/-- The lines of a text. -/
def linesB (s : List UInt8) : List (List UInt8) := if (spl 10 s).getLast (spl_ne 10 s) = [] then (spl 10 s).dropLast else spl 10 s
/-- A slice of the call's own in block g. -/
def LnAt (w : World) (g : Nat) (v : Value) (l : List (List UInt8)) : Prop :=
  ∃ c, v = .slice (some ⟨g, 0, none⟩) l.length c ∧ l.length ≤ c ∧ g < w.heap.size ∧ ∀ (j : Nat) s, l[j]? = some s → w.cell? ⟨g, j, none⟩ = some (str s)
theorem split_nl (s : List UInt8) (w : World) (hm : Ml w) (hs : s.length ≤ 1000000) : Calls Tryz.prog 92 #[str s, str [10]] w fun e w' =>
    e = .returned (.slice (some ⟨w.heap.size, 0, none⟩) (spl 10 s).length (spl 10 s).length) ∧ w' = w.alloc (.cells ((spl 10 s).map str).toArray 9) := by
  obtain ⟨m, hm⟩ := hm
  refine (Tryz.strings_Split ⟨s.toArray⟩ ⟨#[10]⟩ m w (by simp [ByteArray.size]; omega) hm (Nat.le_refl 1)).mono ?_
  rintro e w' ⟨rfl, rfl⟩
  rw [splitB_spl 10 _ s rfl, countB_spl]
  refine ⟨rfl, ?_⟩
  rw [List.map_map]
  rfl
theorem linesB_len (s : List UInt8) : (linesB s).length ≤ s.length + 1 := by
  have := spl_length_le 10 s
  unfold linesB
  split
  · rw [List.length_dropLast]; omega
  · exact this
end Go.Proofs.YtmkpeopebddnjaaGreatDoor
