/-
  The walks of package path: letter, name, parts, Check. The walks of package path: parts, Check, Dir, Last. A strings.Builder that the call itself has made: copyCheck, WriteString. From the reading of arguments to the words of the walks.
-/
import Derived.Test.YtgjialbmlhbngaaGreatDoorPkA
import Derived.Test.YtgjialbmlhbngaaGreatDoorPkH0
import Derived.Lib.Hide
import Derived.Laws.IdiomStrings
import Derived.Test.YtgjialbmlhbngaaGreatDoorProg
import Derived.Lib.Strings
import Derived.Lib.Slices
import Derived.Lib.Walk
import Derived.Lib.Builder
import Derived.Lib.AppendStr
import Derived.Lib.UnsafeStr
import Derived.Laws.Externs
import Derived.ProofKit
import Derived.OpenShut
import Derived.Deep.Slices
import Derived.Deep.Strs

set_option maxRecDepth 100000
namespace Go.Proofs.YtgjialbmlhbngaaGreatDoor
open Go Go.RowKit Go.Kf
abbrev byteV (c : UInt8) : Value := .int .u8 (c.toNat : Int)
def letterB (c : UInt8) : Bool := (decide (97 ≤ c.toNat) && decide (c.toNat ≤ 122)) || (decide (48 ≤ c.toNat) && decide (c.toNat ≤ 57)) || decide (c.toNat = 45) || decide (c.toNat = 46) || decide (c.toNat = 95)
theorem letter_any (c : UInt8) (w : World) : Calls Tryz.prog 257 #[byteV c] w fun e w' => e = .returned (.bool (letterB c)) ∧ w = w' := by
  have hc : c.toNat < 256 := c.toNat_lt
  obtain ⟨k, hk⟩ : ∃ k : Nat, k = c.toNat := ⟨_, rfl⟩
  unfold letterB byteV
  rw [← hk] at hc ⊢
  clear hk
  go_enter Tryz.func257, Tryz.ntmps257
  go_wp2
  all_goals
    go_ret
    refine ⟨congrArg (fun b => Ending.returned (Value.bool b)) ?_, rfl⟩
    rw [Bool.eq_iff_iff]
    simp
    omega
def okB (stars : Bool) (c : UInt8) : Bool := letterB c || (stars && decide (c.toNat = 42))
theorem notName_any (stars : Bool) (c : UInt8) (sb : Nat) (w : World) (h : w.cell? ⟨sb, 0, none⟩ = some (.bool stars)) :
    Calls Tryz.prog 256 #[byteV c, .pointer (some ⟨sb, 0, none⟩)] w fun e w' => e = .returned (.bool (!okB stars c)) ∧ w = w' := by
  have hc : c.toNat < 256 := c.toNat_lt
  have hl := letter_any c
  unfold okB
  generalize letterB c = lb at *
  have HL := Hd hl
  unfold byteV at *
  obtain ⟨k, hk⟩ : ∃ k : Nat, k = c.toNat := ⟨_, rfl⟩
  rw [← hk] at hc HL ⊢
  clear hk hl
  cases lb with
  | true =>
    go_enter Tryz.func256, Tryz.ntmps256
    go_wp2_with (go_at_call 257; refine (HL.out w).mono ?_; rintro e w' ⟨rfl, rfl⟩)
    go_ret
    exact ⟨rfl, rfl⟩
  | false =>
    cases stars
    all_goals
      go_enter Tryz.func256, Tryz.ntmps256
      go_wp2_with (go_at_call 257; refine (HL.out w).mono ?_; rintro e w' ⟨rfl, rfl⟩)
    all_goals
      go_ret
      refine ⟨congrArg (fun b => Ending.returned (Value.bool b)) ?_, rfl⟩
      rw [Bool.eq_iff_iff]
      simp
    all_goals omega
def okAll (stars : Bool) (l : List UInt8) : Bool := l.all (okB stars)
theorem okAll_take {stars : Bool} {l : List UInt8} {k : Nat} {c : UInt8} (hc : l.take (k + 1) = l.take k ++ [c]) (h : okAll stars (l.take k) = true) (he : okB stars c = true) : okAll stars (l.take (k + 1)) = true := by
  unfold okAll at *
  rw [hc, List.all_append, h]
  simp [he]
theorem okAll_not {stars : Bool} {l : List UInt8} {c : UInt8} (hm : c ∈ l) (he : okB stars c = false) : okAll stars l = false := by
  unfold okAll
  rw [List.all_eq_false]
  exact ⟨c, hm, by rw [he]; simp⟩
theorem indexBytes_any (stars : Bool) (v : Value) (l : List UInt8) (sb : Nat) (w : World) (hr : Reads w v (l.map byteV)) (hk : w.cell? ⟨sb, 0, none⟩ = some (.bool stars)) :
    Calls Tryz.prog 293 #[v, .func (.func 256) #[] #[.pointer (some ⟨sb, 0, none⟩)]] w fun e w' =>
      w = w' ∧ ((e = .returned (.int .i64 (-1)) ∧ okAll stars l = true) ∨ ∃ i : Nat, e = .returned (.int .i64 i) ∧ okAll stars l = false) := by
  have hle := hr.le
  obtain ⟨a, cap, rfl, -, -⟩ := id hr
  simp only [List.length_map] at *
  have HR := Hd hr
  clear hr
  go_enter Tryz.func293, Tryz.ntmps293
  go_wp2
  go_loop [8] (fun i => ∃ k : Nat, k ≤ l.length ∧ okAll stars (l.take k) = true ∧ i = .int .i64 k) (fun i => l.length - (intOf i).toNat)
  case atStart => exact ⟨0, by omega, by simp [okAll], rfl⟩
  case round =>
    obtain ⟨k, hkl, hno, rfl⟩ := hrel
    have HN := Hd hno
    clear hno
    by_cases hlt : k < l.length
    · obtain ⟨b, o, hix, hce⟩ := HR.out.at (P := Tryz.prog) Tryz.underlying136 (by kernel_rfl) k (by simpa using hlt)
      simp only [List.getElem_map] at hce
      have HC := Hd (show l.take (k + 1) = l.take k ++ [l[k]] from List.take_succ_eq_append_getElem hlt)
      have HM := Hd (List.getElem_mem hlt)
      generalize l[k] = c at *
      cases he : okB stars c with
      | true =>
        have HE := Hd he
        clear he
        have hcall := notName_any stars c sb w hk
        rw [HE.out] at hcall
        have HL := Hd hcall
        clear hcall
        go_wp2_with (go_at_call 256; refine HL.out.mono ?_; rintro e w' ⟨rfl, rfl⟩)
        go_round
        case rel => exact ⟨k + 1, by omega, okAll_take HC.out HN.out HE.out, by go_num⟩
        case measure => simp [intOf]; omega
      | false =>
        have HE := Hd he
        clear he
        have hcall := notName_any stars c sb w hk
        rw [HE.out] at hcall
        have HL := Hd hcall
        clear hcall
        go_wp2_with (go_at_call 256; refine HL.out.mono ?_; rintro e w' ⟨rfl, rfl⟩)
        go_ret
        exact ⟨rfl, Or.inr ⟨k, rfl, okAll_not HM.out HE.out⟩⟩
    · obtain rfl : k = l.length := by omega
      rw [List.take_length] at HN
      go_wp2
      go_ret
      exact ⟨rfl, Or.inl ⟨rfl, HN.out⟩⟩
theorem containsBytes_any (stars : Bool) (v : Value) (l : List UInt8) (sb : Nat) (w : World) (hr : Reads w v (l.map byteV)) (hk : w.cell? ⟨sb, 0, none⟩ = some (.bool stars)) :
    Calls Tryz.prog 255 #[v, .func (.func 256) #[] #[.pointer (some ⟨sb, 0, none⟩)]] w fun e w' =>
      e = .returned (.bool (!okAll stars l)) ∧ w = w' := by
  have H := Hd (indexBytes_any stars v l sb w hr hk)
  clear hr hk
  go_enter Tryz.func255, Tryz.ntmps255
  go_wp2_with fail
  refine H.out.mono ?_
  rintro e w' ⟨rfl, ⟨rfl, h⟩ | ⟨i, rfl, h⟩⟩
  all_goals
    have HH := Hd h
    clear h
    go_wp2
    go_ret
    exact ⟨by rw [HH.out]; rfl, rfl⟩
def nameB (s : List UInt8) (stars : Bool) : Bool := !(s == []) && (decide (s.length ≤ 12) && (!(s == [46]) && (!(s == [46, 46]) && okAll stars s)))
theorem bytes_of (s : List UInt8) (w : World) (hs : s.length ≤ 9223372036854775807) : ∃ v w', (convert 9 136 (str s)).run Tryz.prog w = .ok v w' ∧ Reads w' v (s.map byteV) ∧ Below w.heap.size w w' := by
  refine ⟨_, _, run_bytes_of_string w _ _ 5 ⟨s.toArray⟩ Tryz.underlying9 Tryz.underlying136 Tryz.underlying5, ?_, (Below.drew (Below.refl _ _)).alloc (Nat.le_refl _) _⟩
  refine ⟨_, grownCap w (⟨s.toArray⟩ : ByteArray).size 0 5, by simp [ByteArray.size], by simpa using hs, fun i u hi => ⟨w.heap.size, 0, rfl, ?_⟩⟩
  rw [List.getElem?_map] at hi
  obtain ⟨c, hc, rfl⟩ := Option.map_eq_some_iff.1 hi
  have hlt : i < s.length := by
    rcases Nat.lt_or_ge i s.length with h' | h'
    · exact h'
    · rw [List.getElem?_eq_none h'] at hc; cases hc
  have hh := heap_alloc_here w.drew (.cells (bytesRow ⟨s.toArray⟩ (grownCap w (⟨s.toArray⟩ : ByteArray).size 0 5)) 5 ((bytesRow ⟨s.toArray⟩ (grownCap w (⟨s.toArray⟩ : ByteArray).size 0 5)).size, (bytesRow ⟨s.toArray⟩ (grownCap w (⟨s.toArray⟩ : ByteArray).size 0 5)).size + 1))
  have := cell_of_heap hh i
  rw [Nat.zero_add]
  refine Eq.trans this ?_
  rw [bytesRow_at _ _ _ (by simpa using hlt)]
  rw [List.getElem?_eq_getElem hlt] at hc
  simp only [Option.some.injEq] at hc
  simp [← hc]
theorem name_any (s : List UInt8) (stars : Bool) (w : World) : Calls Tryz.prog 196 #[str s, .bool stars] w fun e w' => e = .returned (.bool (nameB s stars)) ∧ Below w.heap.size w w' := by
  have b0 : Below w.heap.size w (w.alloc (.cells #[.bool stars] 4)) := (Below.refl _ _).alloc (Nat.le_refl _) _
  by_cases h12 : s.length ≤ 12
  · obtain ⟨v, w1, hcv, hr, hb⟩ := bytes_of s (w.alloc (.cells #[.bool stars] 4)) (by omega)
    have b1 := b0.trans (hb.mono (by simp))
    have hcell : w1.cell? ⟨w.heap.size, 0, none⟩ = some (.bool stars) := by
      have := (hb.cell (p := ⟨w.heap.size, 0, none⟩) (by simp))
      rw [this, cell_of_heap (heap_alloc_here w _)]
      rfl
    have HC := Hd (containsBytes_any stars v s w.heap.size w1 hr hcell)
    clear hr hcell hb
    go_enter Tryz.func196, Tryz.ntmps196
    go_wp2_with (go_at_call 255; refine HC.out.mono ?_; rintro e w' ⟨rfl, rfl⟩)
    all_goals
      go_ret
      first
        | exact ⟨by simp [nameB, *], b0⟩
        | exact ⟨by simp [nameB, Bool.and_assoc, *], b1⟩
  · have hf : nameB s stars = false := by unfold nameB; simp [h12]
    rw [hf]
    clear hf
    go_enter Tryz.func196, Tryz.ntmps196
    go_wp2
    all_goals
      go_ret
      exact ⟨rfl, b0⟩
theorem notPart_any (stars : Bool) (s : List UInt8) (sb : Nat) (w : World) (h : w.cell? ⟨sb, 0, none⟩ = some (.bool stars)) :
    Calls Tryz.prog 195 #[str s, .pointer (some ⟨sb, 0, none⟩)] w fun e w' => e = .returned (.bool (!nameB s stars)) ∧ Below w.heap.size w w' := by
  go_enter Tryz.func195, Tryz.ntmps195
  go_wp2_with fail
  refine (name_any s stars w).mono ?_
  rintro e w' ⟨rfl, hb⟩
  go_wp2
  go_ret
  exact ⟨rfl, hb⟩
def namesB (stars : Bool) (l : List (List UInt8)) : Bool := l.all fun s => nameB s stars
theorem namesB_take {stars : Bool} {l : List (List UInt8)} {k : Nat} {c : List UInt8} (hc : l.take (k + 1) = l.take k ++ [c]) (h : namesB stars (l.take k) = true) (he : nameB c stars = true) : namesB stars (l.take (k + 1)) = true := by
  unfold namesB at *
  rw [hc, List.all_append, h]
  simp [he]
theorem namesB_not {stars : Bool} {l : List (List UInt8)} {c : List UInt8} (hm : c ∈ l) (he : nameB c stars = false) : namesB stars l = false := by
  unfold namesB
  rw [List.all_eq_false]
  exact ⟨c, hm, by rw [he]; simp⟩
theorem indexParts_any (stars : Bool) (v : Value) (l : List (List UInt8)) (sb : Nat) (w : World) (hr : Reads w v (l.map str)) (hk : w.cell? ⟨sb, 0, none⟩ = some (.bool stars)) :
    Calls Tryz.prog 254 #[v, .func (.func 195) #[] #[.pointer (some ⟨sb, 0, none⟩)]] w fun e w' =>
      Below w.heap.size w w' ∧ ((e = .returned (.int .i64 (-1)) ∧ namesB stars l = true) ∨ ∃ i : Nat, e = .returned (.int .i64 i) ∧ namesB stars l = false) := by
  have hle := hr.le
  obtain ⟨a, cap, rfl, -, -⟩ := id hr
  simp only [List.length_map] at *
  have HR := Hd hr
  have HK := Hd hk
  clear hr hk
  go_enter Tryz.func254, Tryz.ntmps254
  go_wp2
  go_loopw [8] (fun i wl => ∃ k : Nat, k ≤ l.length ∧ namesB stars (l.take k) = true ∧ i = .int .i64 k ∧ Below w.heap.size w wl) (fun i _ => l.length - (intOf i).toNat)
  case atStart => exact ⟨0, by omega, by simp [namesB], rfl, Below.refl _ _⟩
  case round =>
    obtain ⟨k, hkl, hno, rfl, hbl⟩ := hrel
    have HN := Hd hno
    clear hno
    by_cases hlt : k < l.length
    · obtain ⟨b, o, hix, hce⟩ := (HR.out.below0 hbl).at (P := Tryz.prog) Tryz.underlying33 (by kernel_rfl) k (by simpa using hlt)
      simp only [List.getElem_map] at hce
      have hcr := (hbl.cell (p := ⟨sb, 0, none⟩) (lt_of_cell HK.out)).trans HK.out
      have HC := Hd (show l.take (k + 1) = l.take k ++ [l[k]] from List.take_succ_eq_append_getElem hlt)
      have HM := Hd (List.getElem_mem hlt)
      generalize l[k] = c at *
      have hcall := notPart_any stars c sb wr hcr
      cases he : nameB c stars with
      | true =>
        have HE := Hd he
        clear he
        rw [HE.out] at hcall
        have HL := Hd hcall
        clear hcall
        go_wp2_with fail
        refine HL.out.mono ?_
        rintro e w' ⟨rfl, hb'⟩
        have b' := hbl.trans (hb'.mono hbl.size)
        clear hb'
        go_wp2
        go_roundw
        case rel => exact ⟨k + 1, by omega, namesB_take HC.out HN.out HE.out, by go_num, b'⟩
        case measure => simp [intOf]; omega
      | false =>
        have HE := Hd he
        clear he
        rw [HE.out] at hcall
        have HL := Hd hcall
        clear hcall
        go_wp2_with fail
        refine HL.out.mono ?_
        rintro e w' ⟨rfl, hb'⟩
        have b' := hbl.trans (hb'.mono hbl.size)
        clear hb'
        go_wp2
        go_ret
        exact ⟨b', Or.inr ⟨k, rfl, namesB_not HM.out HE.out⟩⟩
    · obtain rfl : k = l.length := by omega
      rw [List.take_length] at HN
      go_wp2
      go_ret
      exact ⟨hbl, Or.inl ⟨rfl, HN.out⟩⟩
theorem containsParts_any (stars : Bool) (v : Value) (l : List (List UInt8)) (sb : Nat) (w : World) (hr : Reads w v (l.map str)) (hk : w.cell? ⟨sb, 0, none⟩ = some (.bool stars)) :
    Calls Tryz.prog 194 #[v, .func (.func 195) #[] #[.pointer (some ⟨sb, 0, none⟩)]] w fun e w' =>
      e = .returned (.bool (!namesB stars l)) ∧ Below w.heap.size w w' := by
  have H := Hd (indexParts_any stars v l sb w hr hk)
  clear hr hk
  go_enter Tryz.func194, Tryz.ntmps194
  go_wp2_with fail
  refine H.out.mono ?_
  rintro e w' ⟨hb, ⟨rfl, h⟩ | ⟨i, rfl, h⟩⟩
  all_goals
    have HH := Hd h
    clear h
    go_wp2
    go_ret
    exact ⟨by rw [HH.out]; rfl, hb⟩
def partsL (s : List UInt8) (stars : Bool) : List (List UInt8) := if (spl 47 s).length ≤ 5 ∧ namesB stars (spl 47 s) = true then spl 47 s else []
structure PartsAt (w : World) (B : Nat) (v : Value) (l : List (List UInt8)) : Prop where
  some : ∃ g, v = .slice (some ⟨g, 0, none⟩) l.length l.length ∧ B ≤ g ∧ g < w.heap.size ∧ ∀ (j : Nat) s, l[j]? = some s → w.cell? ⟨g, j, none⟩ = some (str s)
def Ml (w : World) : Prop := ∃ m : Int, w.cell? ⟨14, 0, none⟩ = some (.int .i64 m)
theorem Ml.below {B : Nat} {w w' : World} (h : Ml w) (hb : Below B w w') (hB : w.heap.size ≤ B) : Ml w' := by
  obtain ⟨m, hm⟩ := h
  have := lt_of_cell hm
  exact ⟨m, (hb.cell (p := ⟨14, 0, none⟩) (by simp at this ⊢; omega)).trans hm⟩
theorem split_any (s : List UInt8) (w : World) (hm : Ml w) (hs : s.length ≤ 1000000) : Calls Tryz.prog 185 #[str s, str [47]] w fun e w' =>
    e = .returned (.slice (some ⟨w.heap.size, 0, none⟩) (spl 47 s).length (spl 47 s).length) ∧ w' = w.alloc (.cells ((spl 47 s).map str).toArray 9) := by
  obtain ⟨m, hm⟩ := hm
  refine (Tryz.strings_Split ⟨s.toArray⟩ ⟨#[47]⟩ m w (by simp [ByteArray.size]; omega) hm (Nat.le_refl 1)).mono ?_
  rintro e w' ⟨rfl, rfl⟩
  rw [splitB_spl 47 _ s rfl, countB_spl]
  refine ⟨rfl, ?_⟩
  rw [List.map_map]
  rfl
theorem partsAt_below {w w' : World} {B : Nat} {v : Value} {l : List (List UInt8)} (h : PartsAt w B v l) (hb : Below w.heap.size w w') : PartsAt w' B v l := by
  obtain ⟨g, rfl, hB, hg, hc⟩ := h
  exact ⟨g, rfl, hB, Nat.lt_of_lt_of_le hg hb.size, fun j s hj => (hb.cell (p := ⟨g, j, none⟩) hg).trans (hc j s hj)⟩
theorem partsAt_reads {w : World} {B : Nat} {v : Value} {l : List (List UInt8)} (h : PartsAt w B v l) (hl : l.length ≤ 9223372036854775807) : Reads w v (l.map str) := by
  obtain ⟨g, rfl, hB, hg, hc⟩ := h
  refine ⟨_, l.length, by simp, by simpa using hl, fun i u hi => ⟨g, 0, rfl, ?_⟩⟩
  rw [List.getElem?_map] at hi
  obtain ⟨s, hs, rfl⟩ := Option.map_eq_some_iff.1 hi
  rw [Nat.zero_add]
  exact hc i s hs
theorem partsAt_made (w : World) (l : List (List UInt8)) (B : Nat) (hB : B ≤ w.heap.size) : PartsAt (w.alloc (.cells (l.map str).toArray 9)) B (.slice (some ⟨w.heap.size, 0, none⟩) l.length l.length) l :=
  ⟨_, rfl, hB, by simp, fun j s hj => by rw [cell_of_heap (heap_alloc_here w _)]; simp [hj]⟩
def PartsPost (s : List UInt8) (stars : Bool) (w : World) (e : Ending) (w' : World) : Prop :=
  Below w.heap.size w w' ∧ ((partsL s stars = [] ∧ e = .returned (.slice none 0 0)) ∨ (partsL s stars ≠ [] ∧ ∃ v, e = .returned v ∧ PartsAt w' w.heap.size v (partsL s stars)))
theorem parts_any (s : List UInt8) (stars : Bool) (w : World) (hm : Ml w) (hs : s.length ≤ 1000000) : Calls Tryz.prog 138 #[str s, .bool stars] w (PartsPost s stars w) := by
  have b0 : Below w.heap.size w (w.alloc (.cells #[.bool stars] 4)) := (Below.refl _ _).alloc (Nat.le_refl _) _
  have hm0 := hm.below b0 (Nat.le_refl _)
  have hcell : (w.alloc (.cells #[.bool stars] 4)).cell? ⟨w.heap.size, 0, none⟩ = some (.bool stars) := by
    rw [cell_of_heap (heap_alloc_here w _)]; rfl
  have hp := partsAt_made (w.alloc (.cells #[.bool stars] 4)) (spl 47 s) w.heap.size b0.size
  rw [World.size_alloc] at hp
  have b1 := b0.trans (((Below.refl (w.alloc (.cells #[.bool stars] 4)).heap.size _).alloc (Nat.le_refl _) (.cells ((spl 47 s).map str).toArray 9)).mono (by simp))
  have hcell1 := (((Below.refl (w.alloc (.cells #[.bool stars] 4)).heap.size (w.alloc (.cells #[.bool stars] 4))).alloc (Nat.le_refl _) (.cells ((spl 47 s).map str).toArray 9)).cell (p := ⟨w.heap.size, 0, none⟩) (by simp)).trans hcell
  have hne := spl_ne 47 s
  have hlen := spl_length_le 47 s
  have HM0 := Hd hm0
  have HP := Hd hp
  have HB1 := Hd b1
  have HC := Hd hcell1
  clear hm0 hp b0 b1 hcell hcell1 hm
  by_cases h5 : (spl 47 s).length ≤ 5
  · cases hn : namesB stars (spl 47 s) with
    | true =>
      have hpl : partsL s stars = spl 47 s := by unfold partsL; rw [if_pos ⟨h5, hn⟩]
      have HPL := Hd hpl
      have HN := Hd hn
      have HNE := Hd hne
      clear hpl hn hne
      go_enter Tryz.func138, Tryz.ntmps138
      go_wp2_with fail
      refine (split_any s _ HM0.out hs).mono ?_
      rintro e w1 ⟨rfl, hw1⟩
      rw [← hw1] at HP HB1 HC
      clear hw1
      go_wp2_with fail
      refine (containsParts_any stars _ (spl 47 s) w.heap.size w1 (partsAt_reads HP.out (by omega)) HC.out).mono ?_
      rw [HN.out]
      rintro e w2 ⟨rfl, hb2⟩
      go_wp2
      go_ret
      exact ⟨HB1.out.trans (hb2.mono HB1.out.size), Or.inr ⟨by rw [HPL.out]; exact HNE.out, _, rfl, by rw [HPL.out]; exact partsAt_below HP.out hb2⟩⟩
    | false =>
      have hpl : partsL s stars = [] := by unfold partsL; rw [if_neg (fun h => by rw [hn] at h; cases h.2)]
      have HPL := Hd hpl
      have HN := Hd hn
      clear hpl hn hne
      go_enter Tryz.func138, Tryz.ntmps138
      go_wp2_with fail
      refine (split_any s _ HM0.out hs).mono ?_
      rintro e w1 ⟨rfl, hw1⟩
      rw [← hw1] at HP HB1 HC
      clear hw1
      go_wp2_with fail
      refine (containsParts_any stars _ (spl 47 s) w.heap.size w1 (partsAt_reads HP.out (by omega)) HC.out).mono ?_
      rw [HN.out]
      rintro e w2 ⟨rfl, hb2⟩
      go_wp2
      go_ret
      exact ⟨HB1.out.trans (hb2.mono HB1.out.size), Or.inl ⟨HPL.out, rfl⟩⟩
  · have hpl : partsL s stars = [] := by unfold partsL; rw [if_neg (fun h => h5 h.1)]
    have HPL := Hd hpl
    clear hpl hne
    go_enter Tryz.func138, Tryz.ntmps138
    go_wp2_with fail
    refine (split_any s _ HM0.out hs).mono ?_
    rintro e w1 ⟨rfl, hw1⟩
    rw [← hw1] at HP HB1 HC
    clear hw1
    go_wp2_with fail
    go_ret
    exact ⟨HB1.out, Or.inl ⟨HPL.out, rfl⟩⟩
abbrev errI (a : Addr) : Value := .iface 380 (.pointer (some a))
structure PErr (w : World) (S : Nat → Addr) : Prop where
  bound : w.cell? ⟨1, 0, none⟩ = some (errI (S 1))
  shape : w.cell? ⟨4, 0, none⟩ = some (errI (S 2))
  name : w.cell? ⟨8, 0, none⟩ = some (errI (S 3))
  none : w.cell? ⟨0, 0, none⟩ = some (errI (S 5))
structure PErr1 (w : World) (S : Nat → Addr) : Prop where
  name : w.cell? ⟨8, 0, none⟩ = some (errI (S 3))
theorem PErr1.below {B : Nat} {w w' : World} {S : Nat → Addr} (h : PErr1 w S) (hb : Below B w w') (hB : w.heap.size ≤ B) : PErr1 w' S :=
  ⟨(hb.cell (by have := lt_of_cell h.name; omega)).trans h.name⟩
theorem PErr.p1 {w : World} {S : Nat → Addr} (h : PErr w S) : PErr1 w S := ⟨h.name⟩
theorem nilYes (w : World) : (binOp .eql 33 (.slice none 0 0) (.slice none 0 0)).run Tryz.prog w = .ok (.bool true) w :=
  Lib.run_eql_slice_nil w _ _ none 0 0 0 0 Tryz.underlying33
theorem nilNo (a : Addr) (n c : Nat) (w : World) : (binOp .eql 33 (.slice (some a) n c) (.slice none 0 0)).run Tryz.prog w = .ok (.bool false) w :=
  Lib.run_eql_slice_nil w _ _ (some a) n c 0 0 Tryz.underlying33
def checkV (S : Nat → Addr) (s : List UInt8) : Value := if partsL s false = [] then errI (S 3) else .nilIface
theorem check_any (s : List UInt8) (w : World) (S : Nat → Addr) (hm : Ml w) (hE : PErr1 w S) (hs : s.length ≤ 1000000) : Calls Tryz.prog 70 #[str s] w fun e w' => e = .returned (checkV S s) ∧ Below w.heap.size w w' := by
  have HP := Hd (parts_any s false w hm hs)
  have HE := Hd hE
  have q1 := nilYes
  have q2 := nilNo
  clear hm hE
  go_enter Tryz.func70, Tryz.ntmps70
  go_wp2_with fail
  refine HP.out.mono ?_
  rintro e w1 ⟨hb, ⟨h0, rfl⟩ | ⟨h0, v, rfl, hv⟩⟩
  · have c3 := (HE.out.below hb (Nat.le_refl _)).name
    have H0 := Hd h0
    clear h0
    go_wp2
    go_ret
    exact ⟨by unfold checkV; rw [if_pos H0.out]; rfl, hb⟩
  · have H0 := Hd h0
    obtain ⟨g, rfl, -⟩ := hv
    clear h0
    go_wp2
    go_ret
    exact ⟨by unfold checkV; rw [if_neg H0.out]; rfl, hb⟩
theorem bldSize : ∃ j, Tryz.prog.info? 138 = some j ∧ j.size = 2 := Option.map_eq_some_iff.1 (by kernel_rfl)
theorem bldLies : liesAt Tryz.prog Tryz.prog.depth 138 (2 / Tryz.prog.cellsOf 138) 0 138 1 = true := by kernel_rfl
theorem byteInfo : (Tryz.prog.info? 5).map (fun i => (i.zero, i.size, i.bytes)) = some (some (.int .u8 0), 1, 1) := by kernel_rfl
set_option maxHeartbeats 1000000 in
theorem copyCheck_used (b : Nat) (w : World) (h0 : w.cell? ⟨b, 0, none⟩ = some (.pointer (some ⟨b, 0, none⟩))) :
    Calls Tryz.prog 145 #[.pointer (some ⟨b, 0, none⟩)] w fun e w' => e = .returned (.tuple #[]) ∧ w = w' := by
  obtain ⟨j, hj, _⟩ := bldSize
  go_enter Tryz.func145, Tryz.ntmps145
  go_wp2
  rw [Lib.run_neq_ptr_same w _ Tryz.underlying135 hj]
  go_wp2
  go_end0
  exact ⟨rfl, rfl⟩
set_option maxHeartbeats 1000000 in
theorem copyCheck_fresh (b : Nat) (w : World) (h0 : w.cell? ⟨b, 0, none⟩ = some (.pointer none)) (hsh : w.shape? b = some (138, 2)) (hfz : w.frozen? ⟨b, 0, none⟩ = false) :
    Calls Tryz.prog 145 #[.pointer (some ⟨b, 0, none⟩)] w fun e w' => e = .returned (.tuple #[]) ∧ w' = w.setCell ⟨b, 0, none⟩ (.pointer (some ⟨b, 0, none⟩)) := by
  obtain ⟨j, hj, hjs⟩ := bldSize
  have X := bldLies
  have hX : Hid (liesAt Tryz.prog Tryz.prog.depth 138 (2 / Tryz.prog.cellsOf 138) 0 138 1 = true) := Hd X
  clear X
  go_enter Tryz.func145, Tryz.ntmps145
  go_wp2
  rw [Lib.run_to_unsafe w ⟨b, 0, none⟩ Tryz.underlying135 Tryz.underlying278 hj (by rw [hjs]; decide) hsh (Nat.zero_lt_succ 1)]
  simp only [Result.andThen]
  rw [Oper.upon_value]
  go_wp2
  rw [run_callFunc_extern Tryz.func211 (by kernel_rfl) (by kernel_rfl) (by kernel_rfl) (e := Extern.AbiNoEscape.same) (by kernel_rfl)]
  rw [Lib.run_noEscape]
  simp only [Result.andThen]
  rw [Oper.upon_value]
  go_wp2
  rw [Lib.run_from_unsafe w ⟨b, 0, none⟩ Tryz.underlying278 Tryz.underlying135 hj hsh hX.out]
  simp only [Result.andThen]
  rw [Oper.upon_value]
  go_wp2
  go_end0
  exact ⟨rfl, rfl⟩
theorem copyCheck_any (B b : Nat) (bs : List Value) (w : World) (h : Lib.IsBuilder 138 5 B b bs w) :
    Calls Tryz.prog 145 #[.pointer (some ⟨b, 0, none⟩)] w fun e w' => e = .returned (.tuple #[]) ∧ Lib.BuilderAt 138 5 B b (.pointer (some ⟨b, 0, none⟩)) bs w' ∧ Below B w w' := by
  rcases h with h | h
  · refine (copyCheck_fresh b w h.cell0 h.shape h.frozen0).mono ?_
    rintro e w' ⟨rfl, rfl⟩
    exact ⟨rfl, h.used _, (Below.refl B w).setCell (p := ⟨b, 0, none⟩) h.1 _⟩
  · refine (copyCheck_used b w h.cell0).mono ?_
    rintro e w' ⟨rfl, rfl⟩
    exact ⟨rfl, h, Below.refl B _⟩
set_option maxHeartbeats 2000000 in
theorem writeString_any (B b : Nat) (bs : List Value) (s : ByteArray) (w : World) (h : Lib.IsBuilder 138 5 B b bs w) (hlen : bs.length + s.size ≤ 140737488355328) (hBw : B ≤ w.heap.size) :
    Calls Tryz.prog 79 #[.pointer (some ⟨b, 0, none⟩), .string s] w fun e w' => e = .returned (.tuple #[.int .i64 s.size, .nilIface]) ∧ Lib.BuilderAt 138 5 B b (.pointer (some ⟨b, 0, none⟩)) (bs ++ Lib.strCells s) w' ∧ Below B w w' := by
  obtain ⟨i0, hi, hz0, hz1, hz2⟩ := info_parts byteInfo
  go_enter Tryz.func79, Tryz.ntmps79
  go_wp2_with fail
  refine (copyCheck_any B b bs _ h).mono ?_
  rintro e w1 ⟨rfl, h1, hb1⟩
  obtain ⟨hB, v, hbk, hown, hne⟩ := h1
  have c0 : w1.cell? ⟨b, 0, none⟩ = some (.pointer (some ⟨b, 0, none⟩)) := by rw [Lib.cell_of_heap hbk]; rfl
  have c1 : w1.cell? ⟨b, 1, none⟩ = some v := by rw [Lib.cell_of_heap hbk]; rfl
  go_wp2_with (at_builtin; refine Lib.wpList_append_own_string _ rfl _ _ 136 9 rfl B 5 i0 Tryz.underlying136 Tryz.underlying9 hi hz0 hz1 hz2 _ _ _ rfl hown s rfl ?c3 ?c4 ?c5 ?_)
  case c3 => unfold maxLen; omega
  case c4 => omega
  case c5 => have := hb1.size; omega
  intro v' w2 hown' hgrow _
  have hlt : b < w1.heap.size := by
    rcases Nat.lt_or_ge b w1.heap.size with h' | h'
    · exact h'
    · simp [Array.getElem?_eq_none h'] at hbk
  have hb2 : w2.heap[b]? = some (.cells #[.pointer (some ⟨b, 0, none⟩), v] 138 (0, 0)) := by
    rw [hgrow.block b hlt (fun e => hne e.symm)]
    exact hbk
  have d0 : w2.cell? ⟨b, 0, none⟩ = some (.pointer (some ⟨b, 0, none⟩)) := by rw [Lib.cell_of_heap hb2]; rfl
  have d1 : w2.cell? ⟨b, 1, none⟩ = some v := by rw [Lib.cell_of_heap hb2]; rfl
  have f1 : w2.frozen? ⟨b, 1, none⟩ = false := Lib.frozen_of_heap hb2 1
  obtain ⟨ao, n', cap, rfl⟩ : ∃ ao n' cap, v' = .slice ao n' cap := by
    rcases hown'.2 with ⟨hv, _⟩ | ⟨g, cap, cur, hv, _⟩
    · exact ⟨_, _, _, hv⟩
    · exact ⟨_, _, _, hv⟩
  go_wp2
  go_ret2
  refine ⟨rfl, ?_, ?_⟩
  · exact Lib.BuilderAt.put (T := 138) (e := 5) hB hb2 (bs' := bs ++ Lib.strCells s) (by simpa [Lib.strCells_length] using hown') (by decide)
  · exact (hb1.grown hgrow (by have := hb1.size; omega) (fun k hk => (hown.lt k hk).1)).setCell (p := ⟨b, 1, none⟩) hB _
theorem builderAt_below {T e : TypeId} {B b : Nat} {p : Value} {bs : List Value} {w w' : World} (h : Lib.BuilderAt T e B b p bs w) (hb : Below w.heap.size w w') : Lib.BuilderAt T e B b p bs w' := by
  obtain ⟨hB, v, hh, hown, hne⟩ := h
  refine ⟨hB, v, (hb.block b (lt_of_heap hh)).trans hh, hown.kept (row := some b) ⟨hb.os, hb.tape, hb.output, hb.size, fun k hk _ => hb.block k hk⟩ (Or.inr hne), hne⟩
theorem builder_below {T e : TypeId} {B b : Nat} {bs : List Value} {w w' : World} (h : Lib.IsBuilder T e B b bs w) (hb : Below w.heap.size w w') : Lib.IsBuilder T e B b bs w' :=
  h.imp (fun h => builderAt_below h hb) (fun h => builderAt_below h hb)
end Go.Proofs.YtgjialbmlhbngaaGreatDoor

namespace Go.Kf
open Go Go.RowKit Go.ChangeShapes Go.WideShapes
theorem addr_add {a : Addr} (h : a.spot = none) (n : Nat) : a.add n = ⟨a.block, a.off + n, none⟩ := by
  unfold Addr.add
  by_cases hn : n = 0
  · subst hn; simp [← h]
  · simp [hn]
theorem readsK_open {H : Type} {enc : TypeId × Value → H} {P : Program} {T E s : Nat} (hT : P.underlying T = some (.slice E)) (hE : P.cellsOf E = s) (hs : 0 < s) {w : World} {v : Value} {fuel : Nat} {x : DataW H × List MemPlace}
    (h : DataW.trod enc P w 0 (fun _ => true) true fuel T [v] = some x) {α : Type} [Inhabited α] (row : α → List Value)
    (dec : ∀ m cs y, DataW.trod enc P w 0 (fun _ => true) true m E cs = some y → ∃ z, cs = row z) : ∃ zs : List α, ReadsK s w v (zs.map row) := by
  rcases Deep.open_slice hT h with ⟨h0, -⟩ | ⟨a, len, cap, m, n, D, Pl, h0, -, hle, hcap, hm, -, hel⟩
  · simp only [List.cons.injEq, and_true] at h0
    subst h0
    exact ⟨[], none, 0, rfl, by simp, fun i u hi => by simp at hi⟩
  · simp only [List.cons.injEq, and_true] at h0
    subst h0
    simp only [if_true] at hm
    subst hm
    rw [hE] at hel
    obtain ⟨f, hf⟩ := Deep.choose_lt (α := α) (n := len) (p := fun i z => w.cells? 0 (a.add (i * s)) s = some (row z)) (fun i hi => by
      obtain ⟨cs, h1, h2⟩ := hel i (by omega)
      obtain ⟨z, rfl⟩ := dec _ _ _ h2
      exact ⟨z, h1⟩)
    have hspot : 0 < len → a.spot = none := by
      intro h0
      obtain ⟨_, hlen, hcell⟩ := World.cells?_some (hf 0 h0)
      have h1 := hcell 0 hs
      rw [List.getElem?_eq_getElem (by omega)] at h1
      rw [Nat.zero_mul] at h1
      have e : (a.add 0).add 0 = a := by simp [Addr.add]
      rw [e] at h1
      unfold World.cell? at h1
      cases hh : w.heap[a.block]? with
      | none => rw [hh] at h1; cases h1
      | some o =>
        rw [hh] at h1
        cases o <;> simp only at h1
        case cells c t fz =>
          by_cases hsp : a.spot.isSome = true
          · rw [if_pos hsp] at h1; cases h1
          · simpa using hsp
        all_goals cases h1
    refine ⟨(List.range len).map f, some a, m, by simp, by unfold maxLen at hcap; simp; omega, fun i u hi => ?_⟩
    simp only [List.map_map, List.getElem?_map] at hi
    obtain ⟨k, hk, rfl⟩ := Option.map_eq_some_iff.1 hi
    have hlt : i < len := by
      rcases Nat.lt_or_ge i len with h' | h'
      · exact h'
      · rw [List.getElem?_eq_none (by simpa using h')] at hk; cases hk
    rw [List.getElem?_range hlt] at hk
    cases hk
    have hsp := hspot (by omega)
    obtain ⟨_, hlen, hcell⟩ := World.cells?_some (hf i hlt)
    refine ⟨a.block, a.off, by rw [← hsp], fun j u hj => ?_⟩
    have hjs : j < s := by
      rcases Nat.lt_or_ge j s with h' | h'
      · exact h'
      · rw [Function.comp_apply, List.getElem?_eq_none (by omega)] at hj; cases hj
    have h1 := hcell j hjs
    rw [addr_add hsp, addr_add rfl] at h1
    rw [h1]
    exact hj
theorem reads_open {H : Type} {enc : TypeId × Value → H} {P : Program} {T E : Nat} (hT : P.underlying T = some (.slice E)) (hS : P.underlying E = some .string) (hE : P.cellsOf E = 1) {w : World} {v : Value} {fuel : Nat} {x : DataW H × List MemPlace}
    (h : DataW.trod enc P w 0 (fun _ => true) true fuel T [v] = some x) : ∃ l : List (List UInt8), Reads w v (l.map str) := by
  obtain ⟨zs, hz⟩ := readsK_open hT hE (by decide) h (α := List UInt8) (fun l => [str l]) (fun m cs y hy => by
    obtain ⟨s, rfl, -⟩ := DataW.trod_string hS hy
    exact ⟨s.data.toList, by simp⟩)
  obtain ⟨a, cap, rfl, hle, hc⟩ := hz
  refine ⟨zs, a, cap, by simp, by simpa using hle, fun i u hi => ?_⟩
  rw [List.getElem?_map] at hi
  obtain ⟨z, hz, rfl⟩ := Option.map_eq_some_iff.1 hi
  obtain ⟨b, o, rfl, hcell⟩ := hc i [str z] (by rw [List.getElem?_map, hz]; rfl)
  exact ⟨b, o, rfl, by simpa using hcell 0 _ rfl⟩
end Go.Kf
