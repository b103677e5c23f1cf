/-
  The walks of package path: letter, name, parts, Check.
-/
import Derived.Test.YtmlmogllgnfklaaGreatDoorSameT
import Derived.Test.YtmlmogllgnfklaaGreatDoorSplPure
import Derived.Test.YtmlmogllgnfklaaGreatDoorShelf
import Derived.Lib.Hide
import Derived.Laws.IdiomStrings
namespace Go.Proofs.YtmlmogllgnfklaaGreatDoor
open Go Go.RowKit Go.Kf

abbrev byteV (c : UInt8) : Value := .int .u8 (c.toNat : Int)
/-- A letter of a name. -/
def letterB (c : UInt8) : Bool := (decide (97 ≤ c.toNat) && decide (c.toNat ≤ 122)) || (decide (48 ≤ c.toNat) && decide (c.toNat ≤ 57)) || decide (c.toNat = 45) || decide (c.toNat = 46) || decide (c.toNat = 95)

set_option maxRecDepth 100000 in
theorem letter_any (c : UInt8) (w : World) : Calls Tryz.prog 162 #[byteV c] w fun e w' => e = .returned (.bool (letterB c)) ∧ w = w' := by
  have hc : c.toNat < 256 := c.toNat_lt
  obtain ⟨k, hk⟩ : ∃ k : Nat, k = c.toNat := ⟨_, rfl⟩
  unfold letterB byteV
  rw [← hk] at hc ⊢
  clear hk
  go_enter Tryz.func162, Tryz.ntmps162
  go_wp2
  all_goals
    go_ret
    refine ⟨congrArg (fun b => Ending.returned (Value.bool b)) ?_, rfl⟩
    rw [Bool.eq_iff_iff]
    simp
    omega

/-- A byte that a name may hold: a star too, or not. -/
def okB (stars : Bool) (c : UInt8) : Bool := letterB c || (stars && decide (c.toNat = 42))

set_option maxRecDepth 100000 in
/-- path.name$1: is a byte none of a name's? -/
theorem notName_any (stars : Bool) (c : UInt8) (sb : Nat) (w : World) (h : w.cell? ⟨sb, 0, none⟩ = some (.bool stars)) :
    Calls Tryz.prog 161 #[byteV c, .pointer (some ⟨sb, 0, none⟩)] w fun e w' => e = .returned (.bool (!okB stars c)) ∧ w = w' := by
  have hc : c.toNat < 256 := c.toNat_lt
  have hl := letter_any c
  unfold okB
  generalize letterB c = lb at *
  have HL := Lib.hid hl
  unfold byteV at *
  obtain ⟨k, hk⟩ : ∃ k : Nat, k = c.toNat := ⟨_, rfl⟩
  rw [← hk] at hc HL ⊢
  clear hk hl
  cases lb with
  | true =>
    go_enter Tryz.func161, Tryz.ntmps161
    go_wp2_with (go_at_call 162; refine (HL.out w).mono ?_; rintro e w' ⟨rfl, rfl⟩)
    go_ret
    exact ⟨rfl, rfl⟩
  | false =>
    cases stars
    all_goals
      go_enter Tryz.func161, Tryz.ntmps161
      go_wp2_with (go_at_call 162; refine (HL.out w).mono ?_; rintro e w' ⟨rfl, rfl⟩)
    all_goals
      go_ret
      refine ⟨congrArg (fun b => Ending.returned (Value.bool b)) ?_, rfl⟩
      rw [Bool.eq_iff_iff]
      simp
    all_goals omega

/-- Each byte is one that a name may hold. -/
def okAll (stars : Bool) (l : List UInt8) : Bool := l.all (okB stars)
theorem okAll_take {stars : Bool} {l : List UInt8} {k : Nat} {c : UInt8} (hc : l.take (k + 1) = l.take k ++ [c]) (h : okAll stars (l.take k) = true) (he : okB stars c = true) : okAll stars (l.take (k + 1)) = true := by
  unfold okAll at *
  rw [hc, List.all_append, h]
  simp [he]
theorem okAll_not {stars : Bool} {l : List UInt8} {c : UInt8} (hm : c ∈ l) (he : okB stars c = false) : okAll stars l = false := by
  unfold okAll
  rw [List.all_eq_false]
  exact ⟨c, hm, by rw [he]; simp⟩

set_option maxRecDepth 100000 in
/-- slices.IndexFunc over bytes: the first that is none of a name's. -/
theorem indexBytes_any (stars : Bool) (v : Value) (l : List UInt8) (sb : Nat) (w : World) (hr : Reads w v (l.map byteV)) (hk : w.cell? ⟨sb, 0, none⟩ = some (.bool stars)) :
    Calls Tryz.prog 182 #[v, .func (.func 161) #[] #[.pointer (some ⟨sb, 0, none⟩)]] w fun e w' =>
      w = w' ∧ ((e = .returned (.int .i64 (-1)) ∧ okAll stars l = true) ∨ ∃ i : Nat, e = .returned (.int .i64 i) ∧ okAll stars l = false) := by
  have hle := hr.le
  obtain ⟨a, cap, rfl, -, -⟩ := id hr
  simp only [List.length_map] at *
  have HR := Lib.hid hr
  clear hr
  go_enter Tryz.func182, Tryz.ntmps182
  go_wp2
  go_loop [8] (fun i => ∃ k : Nat, k ≤ l.length ∧ okAll stars (l.take k) = true ∧ i = .int .i64 k) (fun i => l.length - (intOf i).toNat)
  case atStart => exact ⟨0, by omega, by simp [okAll], rfl⟩
  case round =>
    obtain ⟨k, hkl, hno, rfl⟩ := hrel
    have HN := Lib.hid hno
    clear hno
    by_cases hlt : k < l.length
    · obtain ⟨b, o, hix, hce⟩ := HR.out.at (P := Tryz.prog) Tryz.underlying89 (by kernel_rfl) k (by simpa using hlt)
      simp only [List.getElem_map] at hce
      have HC := Lib.hid (show l.take (k + 1) = l.take k ++ [l[k]] from List.take_succ_eq_append_getElem hlt)
      have HM := Lib.hid (List.getElem_mem hlt)
      generalize l[k] = c at *
      cases he : okB stars c with
      | true =>
        have HE := Lib.hid he
        clear he
        have hcall := notName_any stars c sb w hk
        rw [HE.out] at hcall
        have HL := Lib.hid hcall
        clear hcall
        go_wp2_with (go_at_call 161; refine HL.out.mono ?_; rintro e w' ⟨rfl, rfl⟩)
        go_round
        case rel => exact ⟨k + 1, by omega, okAll_take HC.out HN.out HE.out, by go_num⟩
        case measure => simp [intOf]; omega
      | false =>
        have HE := Lib.hid he
        clear he
        have hcall := notName_any stars c sb w hk
        rw [HE.out] at hcall
        have HL := Lib.hid hcall
        clear hcall
        go_wp2_with (go_at_call 161; refine HL.out.mono ?_; rintro e w' ⟨rfl, rfl⟩)
        go_ret
        exact ⟨rfl, Or.inr ⟨k, rfl, okAll_not HM.out HE.out⟩⟩
    · obtain rfl : k = l.length := by omega
      rw [List.take_length] at HN
      go_wp2
      go_ret
      exact ⟨rfl, Or.inl ⟨rfl, HN.out⟩⟩
theorem containsBytes_any (stars : Bool) (v : Value) (l : List UInt8) (sb : Nat) (w : World) (hr : Reads w v (l.map byteV)) (hk : w.cell? ⟨sb, 0, none⟩ = some (.bool stars)) :
    Calls Tryz.prog 160 #[v, .func (.func 161) #[] #[.pointer (some ⟨sb, 0, none⟩)]] w fun e w' =>
      e = .returned (.bool (!okAll stars l)) ∧ w = w' := by
  have H := Lib.hid (indexBytes_any stars v l sb w hr hk)
  clear hr hk
  go_enter Tryz.func160, Tryz.ntmps160
  go_wp2_with fail
  refine H.out.mono ?_
  rintro e w' ⟨rfl, ⟨rfl, h⟩ | ⟨i, rfl, h⟩⟩
  all_goals
    have HH := Lib.hid h
    clear h
    go_wp2
    go_ret
    exact ⟨by rw [HH.out]; rfl, rfl⟩

/-- A name. -/
def nameB (s : List UInt8) (stars : Bool) : Bool := !(s == []) && (decide (s.length ≤ 12) && (!(s == [46]) && (!(s == [46, 46]) && okAll stars s)))

/-- The bytes of a text. -/
theorem bytes_of (s : List UInt8) (w : World) (hs : s.length ≤ 9223372036854775807) : ∃ v w', (convert 9 89 (str s)).run Tryz.prog w = .ok v w' ∧ Reads w' v (s.map byteV) ∧ Below w.heap.size w w' := by
  refine ⟨_, _, run_bytes_of_string w _ _ 5 ⟨s.toArray⟩ Tryz.underlying9 Tryz.underlying89 Tryz.underlying5, ?_, (Below.drew (Below.refl _ _)).alloc (Nat.le_refl _) _⟩
  refine ⟨_, grownCap w (⟨s.toArray⟩ : ByteArray).size 0 5, by simp [ByteArray.size], by simpa using hs, fun i u hi => ⟨w.heap.size, 0, rfl, ?_⟩⟩
  rw [List.getElem?_map] at hi
  obtain ⟨c, hc, rfl⟩ := Option.map_eq_some_iff.1 hi
  have hlt : i < s.length := by
    rcases Nat.lt_or_ge i s.length with h' | h'
    · exact h'
    · rw [List.getElem?_eq_none h'] at hc; cases hc
  have hh := heap_alloc_here w.drew (.cells (bytesRow ⟨s.toArray⟩ (grownCap w (⟨s.toArray⟩ : ByteArray).size 0 5)) 5 ((bytesRow ⟨s.toArray⟩ (grownCap w (⟨s.toArray⟩ : ByteArray).size 0 5)).size, (bytesRow ⟨s.toArray⟩ (grownCap w (⟨s.toArray⟩ : ByteArray).size 0 5)).size + 1))
  have := cell_of_heap hh i
  rw [Nat.zero_add]
  refine Eq.trans this ?_
  rw [bytesRow_at _ _ _ (by simpa using hlt)]
  rw [List.getElem?_eq_getElem hlt] at hc
  simp only [Option.some.injEq] at hc
  simp [← hc]

set_option maxRecDepth 100000 in
theorem name_any (s : List UInt8) (stars : Bool) (w : World) : Calls Tryz.prog 120 #[str s, .bool stars] w fun e w' => e = .returned (.bool (nameB s stars)) ∧ Below w.heap.size w w' := by
  have b0 : Below w.heap.size w (w.alloc (.cells #[.bool stars] 4)) := (Below.refl _ _).alloc (Nat.le_refl _) _
  by_cases h12 : s.length ≤ 12
  · obtain ⟨v, w1, hcv, hr, hb⟩ := bytes_of s (w.alloc (.cells #[.bool stars] 4)) (by omega)
    have b1 := b0.trans (hb.mono (by simp))
    have hcell : w1.cell? ⟨w.heap.size, 0, none⟩ = some (.bool stars) := by
      have := (hb.cell (p := ⟨w.heap.size, 0, none⟩) (by simp))
      rw [this, cell_of_heap (heap_alloc_here w _)]
      rfl
    have HC := Lib.hid (containsBytes_any stars v s w.heap.size w1 hr hcell)
    clear hr hcell hb
    go_enter Tryz.func120, Tryz.ntmps120
    go_wp2_with (go_at_call 160; refine HC.out.mono ?_; rintro e w' ⟨rfl, rfl⟩)
    all_goals
      go_ret
      first
        | exact ⟨by simp [nameB, *], b0⟩
        | exact ⟨by simp [nameB, Bool.and_assoc, *], b1⟩
  · have hf : nameB s stars = false := by unfold nameB; simp [h12]
    rw [hf]
    clear hf
    go_enter Tryz.func120, Tryz.ntmps120
    go_wp2
    all_goals
      go_ret
      exact ⟨rfl, b0⟩

set_option maxRecDepth 100000 in
/-- path.parts$1: is a text no name? -/
theorem notPart_any (stars : Bool) (s : List UInt8) (sb : Nat) (w : World) (h : w.cell? ⟨sb, 0, none⟩ = some (.bool stars)) :
    Calls Tryz.prog 119 #[str s, .pointer (some ⟨sb, 0, none⟩)] w fun e w' => e = .returned (.bool (!nameB s stars)) ∧ Below w.heap.size w w' := by
  go_enter Tryz.func119, Tryz.ntmps119
  go_wp2_with fail
  refine (name_any s stars w).mono ?_
  rintro e w' ⟨rfl, hb⟩
  go_wp2
  go_ret
  exact ⟨rfl, hb⟩

/-- Each text is a name. -/
def namesB (stars : Bool) (l : List (List UInt8)) : Bool := l.all fun s => nameB s stars
theorem namesB_take {stars : Bool} {l : List (List UInt8)} {k : Nat} {c : List UInt8} (hc : l.take (k + 1) = l.take k ++ [c]) (h : namesB stars (l.take k) = true) (he : nameB c stars = true) : namesB stars (l.take (k + 1)) = true := by
  unfold namesB at *
  rw [hc, List.all_append, h]
  simp [he]
theorem namesB_not {stars : Bool} {l : List (List UInt8)} {c : List UInt8} (hm : c ∈ l) (he : nameB c stars = false) : namesB stars l = false := by
  unfold namesB
  rw [List.all_eq_false]
  exact ⟨c, hm, by rw [he]; simp⟩

set_option maxRecDepth 100000 in
/-- slices.IndexFunc over texts: the first that is no name. -/
theorem indexParts_any (stars : Bool) (v : Value) (l : List (List UInt8)) (sb : Nat) (w : World) (hr : Reads w v (l.map str)) (hk : w.cell? ⟨sb, 0, none⟩ = some (.bool stars)) :
    Calls Tryz.prog 159 #[v, .func (.func 119) #[] #[.pointer (some ⟨sb, 0, none⟩)]] w fun e w' =>
      Below w.heap.size w w' ∧ ((e = .returned (.int .i64 (-1)) ∧ namesB stars l = true) ∨ ∃ i : Nat, e = .returned (.int .i64 i) ∧ namesB stars l = false) := by
  have hle := hr.le
  obtain ⟨a, cap, rfl, -, -⟩ := id hr
  simp only [List.length_map] at *
  have HR := Lib.hid hr
  have HK := Lib.hid hk
  clear hr hk
  go_enter Tryz.func159, Tryz.ntmps159
  go_wp2
  go_loopw [8] (fun i wl => ∃ k : Nat, k ≤ l.length ∧ namesB stars (l.take k) = true ∧ i = .int .i64 k ∧ Below w.heap.size w wl) (fun i _ => l.length - (intOf i).toNat)
  case atStart => exact ⟨0, by omega, by simp [namesB], rfl, Below.refl _ _⟩
  case round =>
    obtain ⟨k, hkl, hno, rfl, hbl⟩ := hrel
    have HN := Lib.hid hno
    clear hno
    by_cases hlt : k < l.length
    · obtain ⟨b, o, hix, hce⟩ := (HR.out.below0 hbl).at (P := Tryz.prog) Tryz.underlying25 (by kernel_rfl) k (by simpa using hlt)
      simp only [List.getElem_map] at hce
      have hcr := (hbl.cell (p := ⟨sb, 0, none⟩) (lt_of_cell HK.out)).trans HK.out
      have HC := Lib.hid (show l.take (k + 1) = l.take k ++ [l[k]] from List.take_succ_eq_append_getElem hlt)
      have HM := Lib.hid (List.getElem_mem hlt)
      generalize l[k] = c at *
      have hcall := notPart_any stars c sb wr hcr
      cases he : nameB c stars with
      | true =>
        have HE := Lib.hid he
        clear he
        rw [HE.out] at hcall
        have HL := Lib.hid hcall
        clear hcall
        go_wp2_with fail
        refine HL.out.mono ?_
        rintro e w' ⟨rfl, hb'⟩
        have b' := hbl.trans (hb'.mono hbl.size)
        clear hb'
        go_wp2
        go_roundw
        case rel => exact ⟨k + 1, by omega, namesB_take HC.out HN.out HE.out, by go_num, b'⟩
        case measure => simp [intOf]; omega
      | false =>
        have HE := Lib.hid he
        clear he
        rw [HE.out] at hcall
        have HL := Lib.hid hcall
        clear hcall
        go_wp2_with fail
        refine HL.out.mono ?_
        rintro e w' ⟨rfl, hb'⟩
        have b' := hbl.trans (hb'.mono hbl.size)
        clear hb'
        go_wp2
        go_ret
        exact ⟨b', Or.inr ⟨k, rfl, namesB_not HM.out HE.out⟩⟩
    · obtain rfl : k = l.length := by omega
      rw [List.take_length] at HN
      go_wp2
      go_ret
      exact ⟨hbl, Or.inl ⟨rfl, HN.out⟩⟩
theorem containsParts_any (stars : Bool) (v : Value) (l : List (List UInt8)) (sb : Nat) (w : World) (hr : Reads w v (l.map str)) (hk : w.cell? ⟨sb, 0, none⟩ = some (.bool stars)) :
    Calls Tryz.prog 118 #[v, .func (.func 119) #[] #[.pointer (some ⟨sb, 0, none⟩)]] w fun e w' =>
      e = .returned (.bool (!namesB stars l)) ∧ Below w.heap.size w w' := by
  have H := Lib.hid (indexParts_any stars v l sb w hr hk)
  clear hr hk
  go_enter Tryz.func118, Tryz.ntmps118
  go_wp2_with fail
  refine H.out.mono ?_
  rintro e w' ⟨hb, ⟨rfl, h⟩ | ⟨i, rfl, h⟩⟩
  all_goals
    have HH := Lib.hid h
    clear h
    go_wp2
    go_ret
    exact ⟨by rw [HH.out]; rfl, hb⟩

/-- The parts of a path, or of a pattern; none: it is none. -/
def partsL (s : List UInt8) (stars : Bool) : List (List UInt8) := if (spl 47 s).length ≤ 5 ∧ namesB stars (spl 47 s) = true then spl 47 s else []
/-- The parts lie in a block of the call's own. -/
structure PartsAt (w : World) (B : Nat) (v : Value) (l : List (List UInt8)) : Prop where
  some : ∃ g, v = .slice (some ⟨g, 0, none⟩) l.length l.length ∧ B ≤ g ∧ g < w.heap.size ∧ ∀ (j : Nat) s, l[j]? = some s → w.cell? ⟨g, j, none⟩ = some (str s)
/-- internal/bytealg.MaxLen holds a number. -/
def Ml (w : World) : Prop := ∃ m : Int, w.cell? ⟨13, 0, none⟩ = some (.int .i64 m)
theorem Ml.below {B : Nat} {w w' : World} (h : Ml w) (hb : Below B w w') (hB : w.heap.size ≤ B) : Ml w' := by
  obtain ⟨m, hm⟩ := h
  have := lt_of_cell hm
  exact ⟨m, (hb.cell (p := ⟨13, 0, none⟩) (by simp at this ⊢; omega)).trans hm⟩
theorem split_any (s : List UInt8) (w : World) (hm : Ml w) (hs : s.length ≤ 1000000) : Calls Tryz.prog 58 #[str s, str [47]] w fun e w' =>
    e = .returned (.slice (some ⟨w.heap.size, 0, none⟩) (spl 47 s).length (spl 47 s).length) ∧ w' = w.alloc (.cells ((spl 47 s).map str).toArray 9) := by
  obtain ⟨m, hm⟩ := hm
  refine (Tryz.strings_Split ⟨s.toArray⟩ ⟨#[47]⟩ m w (by simp [ByteArray.size]; omega) hm (Nat.le_refl 1)).mono ?_
  rintro e w' ⟨rfl, rfl⟩
  rw [splitB_spl 47 _ s rfl, countB_spl]
  refine ⟨rfl, ?_⟩
  rw [List.map_map]
  rfl
end Go.Proofs.YtmlmogllgnfklaaGreatDoor
