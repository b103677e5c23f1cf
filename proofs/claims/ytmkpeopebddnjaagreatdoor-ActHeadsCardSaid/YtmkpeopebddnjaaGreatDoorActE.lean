/-
  Package act: pair and swap; upper letters.
-/
import Derived.Test.YtmkpeopebddnjaaGreatDoorActD
namespace Go.Proofs.YtmkpeopebddnjaaGreatDoor
open Go Go.RowKit Go.Kf Go.Sort Go.Proofs

def pairB (s : List UInt8) : Bool := (s.count 61 == 1) && (s.head? != some 61)

set_option maxRecDepth 100000 in
theorem pair_any (s : List UInt8) (w : World) : Calls Tryz.prog 78 #[str s] w fun e w' => e = .returned (.bool (pairB s)) ∧ Below w.heap.size w w' := by
  have K : Calls Tryz.prog 112 #[str s, str [61]] w fun e w' => e = .returned (.int .i64 ((s.count 61 : Nat) : Int)) ∧ w' = w := Tryz.strings_Count_one ⟨s.toArray⟩ 61 w
  have K1 := Lib.hid K
  clear K
  unfold pairB
  by_cases h1 : s.count 61 = 1
  · cases s with
    | nil => simp at h1
    | cons b t =>
      rw [h1] at K1 ⊢
      obtain ⟨s, hs⟩ : ∃ s, b :: t = s := ⟨_, rfl⟩
      have hidx : ∀ h, (⟨s.toArray⟩ : ByteArray)[0]'h = b := fun _ => by
        show s[0] = b
        simp [← hs]
      have hhd : s.head? = some b := by rw [← hs]; rfl
      have hpos : 0 < s.length := by rw [← hs]; simp
      rw [hs] at K1 ⊢
      rw [hhd]
      clear hs h1 hhd
      have hbb : ((b.toNat : Int) == 61) = (b == 61) := by rw [show (61 : Int) = ((61 : UInt8).toNat : Int) from rfl, Kf.u8_eq]
      by_cases h2 : b = 61
      · have hd : (b == 61) = true := by simpa using h2
        rw [hd] at hbb
        have hbn : ((b.toNat : Int) != 61) = (false : Bool) := by unfold bne; rw [hbb]; rfl
        have hv : (((1 : Nat) == 1) && ((some b : Option UInt8) != some 61)) = false := by rw [h2]; rfl
        rw [hv]
        clear h2 hd hv
        go_enter Tryz.func78, Tryz.ntmps78
        go_wp2_with fail
        refine K1.out.mono ?_
        rintro e w' ⟨rfl, rfl⟩
        go_wp2
        go_ret
        exact ⟨rfl, Below.refl _ _⟩
      · have hd : (b == 61) = false := by simpa using h2
        rw [hd] at hbb
        have hbn : ((b.toNat : Int) != 61) = (true : Bool) := by unfold bne; rw [hbb]; rfl
        have hv : (((1 : Nat) == 1) && ((some b : Option UInt8) != some 61)) = true := by simpa using h2
        rw [hv]
        clear h2 hd hv
        go_enter Tryz.func78, Tryz.ntmps78
        go_wp2_with fail
        refine K1.out.mono ?_
        rintro e w' ⟨rfl, rfl⟩
        go_wp2
        go_ret
        exact ⟨rfl, Below.refl _ _⟩
  · have hv : ((s.count 61 == 1) && (s.head? != some 61)) = false := by
      rw [show (s.count 61 == 1) = false by simpa using h1]
      rfl
    rw [hv]
    have hc : (((s.count 61 : Nat) : Int) == 1) = false := by
      rw [beq_eq_false_iff_ne]
      omega
    generalize s.count 61 = n at *
    clear hv
    go_enter Tryz.func78, Tryz.ntmps78
    go_wp2_with fail
    refine K1.out.mono ?_
    rintro e w' ⟨rfl, rfl⟩
    go_wp2
    go_ret
    exact ⟨rfl, Below.refl _ _⟩

/-- A right word of swap. -/
theorem pair_split {s : List UInt8} (h : pairB s = true) : ∃ a r, s = a ++ 61 :: r ∧ a ≠ [] ∧ (61 : UInt8) ∉ a ∧ (61 : UInt8) ∉ r := by
  unfold pairB at h
  rw [Bool.and_eq_true, beq_iff_eq, bne_iff_ne] at h
  obtain ⟨h1, h2⟩ := h
  have hm : (61 : UInt8) ∈ s := List.count_pos_iff.1 (by omega)
  obtain ⟨a, r, rfl, hn⟩ := split_at hm
  refine ⟨a, r, rfl, ?_, hn, ?_⟩
  · rintro rfl
    exact h2 rfl
  · intro hr
    have := List.count_pos_iff.2 hr
    rw [List.count_append, List.count_cons_self] at h1
    omega

set_option maxRecDepth 100000 in
theorem kswap_any (a r s : List UInt8) (v : Value) (w : World) (hr : Reads w v ([s].map str)) (hm : Ml w) (ha : a ≠ []) (hna : (61 : UInt8) ∉ a) (hlw : (a ++ 61 :: r).length ≤ 100) (hl : s.length ≤ 10000) :
    Calls Tryz.prog 79 #[str (a ++ 61 :: r), v] w fun e w' => e = .returned (str (swapG a r s)) ∧ Below w.heap.size w w' := by
  have K1 := Lib.hid (strcut_any a r 61 w hna (by omega) hm)
  have hle := hr.le
  obtain ⟨ad, cap, rfl, -, -⟩ := id hr
  simp only [List.length_map, List.length_cons, List.length_nil] at *
  obtain ⟨b, o, hix, hce⟩ := hr.at (P := Tryz.prog) Tryz.underlying39 (by kernel_rfl) 0 (by simp)
  have hce0 : w.cell? ⟨b, o, none⟩ = some (str s) := hce
  have hix0 : ∀ w', (Instr.indexAt 39 (.slice ad 1 cap) (.int .i64 0)).run Tryz.prog w' = .ok (.pointer (some ⟨b, o, none⟩)) w' := hix
  have HCE := Lib.hid hce0
  have KR : Hid (∀ w1, Ml w1 → Calls Tryz.prog 113 #[str s, str a, str r] w1 fun e w' => e = .returned (str (swapG a r s)) ∧ Below w1.heap.size w1 w') := Lib.hid (fun w1 h1 => by
    obtain ⟨m, h1⟩ := h1
    have ho : 1 ≤ (⟨a.toArray⟩ : ByteArray).size := by
      have : 0 < a.length := List.length_pos_iff.2 ha
      simp [ByteArray.size]; omega
    have hcl := Lib.count_le s a
    have hal : r.length ≤ 100 := by simp at hlw; omega
    have hmul : Lib.count s a * r.length ≤ 10001 * 100 := Nat.mul_le_mul (by omega) hal
    refine (Tryz.strings_ReplaceAll ⟨s.toArray⟩ ⟨a.toArray⟩ ⟨r.toArray⟩ m w1 (by simp [ByteArray.size]; omega) h1 ho (by simp [ByteArray.size, Lib.countB]; omega)).mono ?_
    rintro e w' ⟨rfl, hb⟩
    refine ⟨?_, hb⟩
    rw [show Lib.replaceAll (⟨s.toArray⟩ : ByteArray).data.toList (⟨a.toArray⟩ : ByteArray).data.toList (⟨r.toArray⟩ : ByteArray).data.toList = swapG a r s from replaceAll_swap ha s])
  have HM := Lib.hid hm
  obtain ⟨word, hword⟩ : ∃ word, a ++ 61 :: r = word := ⟨_, rfl⟩
  rw [hword] at K1 ⊢
  clear hm hr hce hix hce0 hword hlw ha hna
  go_enter Tryz.func79, Tryz.ntmps79
  go_wp2_with fail
  refine K1.out.mono ?_
  rintro e w1 ⟨rfl, hb1⟩
  have HB1 := Lib.hid hb1
  have hcc := (hb1.cell (p := ⟨b, o, none⟩) (lt_of_cell HCE.out)).trans HCE.out
  have KR1 := Lib.hid (KR.out w1 (HM.out.below hb1 (Nat.le_refl _)))
  clear hb1
  go_wp2_with fail
  refine KR1.out.mono ?_
  rintro e w2 ⟨rfl, hb2⟩
  go_wp2
  go_ret
  exact ⟨rfl, HB1.out.trans (hb2.mono HB1.out.size)⟩

/-! ### upper -/
def upB (b : UInt8) : UInt8 := if 97 ≤ b.toNat ∧ b.toNat ≤ 122 then UInt8.ofNat (b.toNat - 32) else b
/-- Bytes in a block of the call's own, that may be written. -/
def URow (w : World) (g : Nat) (l : List UInt8) : Prop := ∃ cur lo hi, w.heap[g]? = some (.cells cur 5 (lo, hi)) ∧ l.length ≤ lo ∧ ∀ (j : Nat) b, l[j]? = some b → cur[j]? = some (.int .u8 (b.toNat : Int))
theorem URow.cell {w : World} {g : Nat} {l : List UInt8} (h : URow w g l) {j : Nat} {b : UInt8} (hj : l[j]? = some b) : w.cell? ⟨g, j, none⟩ = some (.int .u8 (b.toNat : Int)) := by
  obtain ⟨cur, lo, hi, hh, -, hc⟩ := h
  rw [cell_of_heap hh]
  exact hc j b hj
theorem URow.free {w : World} {g : Nat} {l : List UInt8} (h : URow w g l) {j : Nat} (hj : j < l.length) : w.frozen? ⟨g, j, none⟩ = false := by
  obtain ⟨cur, lo, hi, hh, hl, -⟩ := h
  have : ¬ lo ≤ j := by omega
  simp [World.frozen?, hh, this]
theorem URow.set {w : World} {g : Nat} {l : List UInt8} (h : URow w g l) (j : Nat) (b : UInt8) : URow (w.setCell ⟨g, j, none⟩ (.int .u8 (b.toNat : Int))) g (l.set j b) := by
  obtain ⟨cur, lo, hi, hh, hl, hc⟩ := h
  refine ⟨_, lo, hi, Kf.heap_setCell_same hh _, by rw [List.length_set]; exact hl, fun k x hk => ?_⟩
  rw [Array.getElem?_setIfInBounds]
  rw [List.getElem?_set] at hk
  by_cases hjk : j = k
  · rw [if_pos hjk] at hk ⊢
    by_cases hlt : j < l.length
    · rw [if_pos hlt] at hk
      obtain rfl := Option.some.inj hk
      have := hc j l[j] (List.getElem?_eq_getElem hlt)
      have hlc : j < cur.size := (Array.getElem?_eq_some_iff.1 this).1
      rw [if_pos hlc]
    · rw [if_neg hlt] at hk
      cases hk
  · rw [if_neg hjk] at hk ⊢
    exact hc k x hk
theorem URow.lt {w : World} {g : Nat} {l : List UInt8} (h : URow w g l) : g < w.heap.size := by
  obtain ⟨cur, lo, hi, hh, -, -⟩ := h
  exact lt_of_heap hh
theorem bytes_row (s : List UInt8) (w : World) : ∃ cap W1, (convert 9 82 (str s)).run Tryz.prog w = .ok (.slice (some ⟨w.heap.size, 0, none⟩) s.length cap) W1 ∧ URow W1 w.heap.size s ∧ Below w.heap.size w W1 := by
  have h := run_bytes_of_string (P := Tryz.prog) w 9 82 5 ⟨s.toArray⟩ Tryz.underlying9 Tryz.underlying82 Tryz.underlying5
  have hsz : (⟨s.toArray⟩ : ByteArray).size = s.length := by simp [ByteArray.size]
  refine ⟨_, _, by rw [hsz] at h; exact h, ⟨_, _, _, heap_alloc_here w.drew _, ?_, fun j b hj => ?_⟩, (Below.refl _ w).drew.alloc (Nat.le_refl _) _⟩
  · unfold bytesRow
    simp
  · have hj' := (List.getElem?_eq_some_iff.1 hj).1
    rw [bytesRow_at _ _ _ (by simpa using hj')]
    have : s[j] = b := (List.getElem?_eq_some_iff.1 hj).2
    simp [this]

theorem idx_at {P : Program} {T E : TypeId} (hT : P.underlying T = some (.slice E)) (hE : (P.info? E).map (·.size) = some 1) (g n cap i : Nat) (hi : i < n) (w' : World) :
    (Instr.indexAt T (.slice (some ⟨g, 0, none⟩) n cap) (.int .i64 i)).run P w' = .ok (.pointer (some ⟨g, i, none⟩)) w' := by
  rw [run_indexAt_slice (h := by rw [elem_of hT]; exact hT), if_pos (by omega), elem_of hT, run_sizeOf' hE]
  by_cases h0 : i = 0
  · subst h0; simp [Result.andThen, Addr.add]
  · simp [Result.andThen, Addr.add, h0]

def upTo (s : List UInt8) (i : Nat) : List UInt8 := (s.take i).map upB ++ s.drop i

theorem upTo_len (s : List UInt8) (i : Nat) : (upTo s i).length = s.length := by
  unfold upTo
  rw [List.length_append, List.length_map, List.length_take, List.length_drop]
  omega
theorem upTo_at {s : List UInt8} {i : Nat} (h : i < s.length) : (upTo s i)[i]? = some s[i] := by
  unfold upTo
  have hl : ((s.take i).map upB).length = i := by rw [List.length_map, List.length_take]; omega
  rw [List.getElem?_append_right (by omega), hl, Nat.sub_self, List.drop_eq_getElem_cons h]
  rfl
theorem upTo_set {s : List UInt8} {i : Nat} (h : i < s.length) : (upTo s i).set i (upB s[i]) = upTo s (i + 1) := by
  unfold upTo
  have hl : ((s.take i).map upB).length = i := by rw [List.length_map, List.length_take]; omega
  rw [List.set_append_right _ _ (by omega), hl, Nat.sub_self, List.drop_eq_getElem_cons h, List.set_cons_zero, List.take_succ_eq_append_getElem h, List.map_append, List.append_assoc]
  rfl
theorem upTo_same {s : List UInt8} {i : Nat} (h : i < s.length) (he : upB s[i] = s[i]) : upTo s i = upTo s (i + 1) := by
  unfold upTo
  rw [List.drop_eq_getElem_cons h, List.take_succ_eq_append_getElem h, List.map_append, List.append_assoc]
  simp [he]

set_option maxRecDepth 100000 in
set_option maxHeartbeats 1000000 in
theorem upper_any (word s : List UInt8) (v : Value) (w : World) (hr : Reads w v ([s].map str)) (hl : s.length ≤ 10000) :
    Calls Tryz.prog 73 #[str word, v] w fun e w' => e = .returned (str (s.map upB)) ∧ Below w.heap.size w w' := by
  have hle := hr.le
  obtain ⟨a, cap, rfl, -, -⟩ := id hr
  simp only [List.length_map, List.length_cons, List.length_nil] at *
  obtain ⟨b, o, hix, hce⟩ := hr.at (P := Tryz.prog) Tryz.underlying39 (by kernel_rfl) 0 (by simp)
  have hce0 : w.cell? ⟨b, o, none⟩ = some (str s) := hce
  have hix0 : ∀ w', (Instr.indexAt 39 (.slice a 1 cap) (.int .i64 0)).run Tryz.prog w' = .ok (.pointer (some ⟨b, o, none⟩)) w' := hix
  obtain ⟨c1, W1, hconv, hrow, hb1⟩ := bytes_row s w
  have HROW := Lib.hid hrow
  have HB1 := Lib.hid hb1
  have hz1 := hb1.size
  clear hr hce hix hrow hb1
  go_enter Tryz.func73, Tryz.ntmps73
  go_wp2_with fail
  go_loopw [14] (fun iv wl => ∃ i : Nat, i ≤ s.length ∧ iv = .int .i64 i ∧ URow wl w.heap.size (upTo s i) ∧ Below w.heap.size w wl) (fun iv _ => s.length - (intOf iv).toNat)
  case atStart => exact ⟨0, by omega, rfl, by simpa [upTo] using HROW.out, HB1.out⟩
  case round =>
    obtain ⟨i, hi, rfl, hri, hbi⟩ := hrel
    have HRI := Lib.hid hri
    have HBI := Lib.hid hbi
    clear hri hbi
    by_cases hlt : i < s.length
    · have hlc : ((i : Int) < (s.length : Int)) = True := eq_true (by omega)
      have hc0 := HRI.out.cell (upTo_at hlt)
      have hf0 := HRI.out.free (j := i) (by rw [upTo_len]; exact hlt)
      have hix1 := idx_at (P := Tryz.prog) (T := 82) (E := 5) Tryz.underlying82 (by kernel_rfl) w.heap.size s.length c1 i hlt
      have hset := HRI.out.set i (upB s[i])
      rw [upTo_set hlt] at hset
      have HSET := Lib.hid hset
      by_cases hup : 97 ≤ s[i].toNat ∧ s[i].toNat ≤ 122
      · have hu : (upB s[i]).toNat = s[i].toNat - 32 := by
          unfold upB
          rw [if_pos hup]
          simp only [UInt8.toNat_ofNat']
          omega
        clear hset
        rw [hu] at HSET
        generalize s[i].toNat = n at *
        have hc1 : ((97 : Int) ≤ (n : Int)) = True := eq_true (by omega)
        have hc2 : ((n : Int) ≤ 122) = True := eq_true (by omega)
        have hs1 : IntKind.u8.wrap ((n : Int) - 97) = (n : Int) - 97 := by
          simp [IntKind.wrap, IntKind.signed, IntKind.bits]
          omega
        have hs2 : IntKind.u8.wrap ((n : Int) - 97 + 65) = ((n - 32 : Nat) : Int) := by
          simp [IntKind.wrap, IntKind.signed, IntKind.bits]
          omega
        clear hu
        go_wp2
        go_roundw
        case rel => exact ⟨i + 1, by omega, by go_num, HSET.out, HBI.out.setCell (p := ⟨w.heap.size, i, none⟩) (Nat.le_refl _) _⟩
        case measure => simp [intOf]; omega
      · have hu : upB s[i] = s[i] := by
          unfold upB
          rw [if_neg hup]
        have HSM := Lib.hid (upTo_same hlt hu)
        clear hset hu HSET
        generalize s[i].toNat = n at *
        by_cases h97 : 97 ≤ n
        · have hc1 : ((97 : Int) ≤ (n : Int)) = True := eq_true (by omega)
          have hc2 : ((n : Int) ≤ 122) = False := eq_false (by omega)
          go_wp2
          go_roundw
          case rel => exact ⟨i + 1, by omega, by go_num, by rw [← HSM.out]; exact HRI.out, HBI.out⟩
          case measure => simp [intOf]; omega
        · have hc1 : ((97 : Int) ≤ (n : Int)) = False := eq_false (by omega)
          go_wp2
          go_roundw
          case rel => exact ⟨i + 1, by omega, by go_num, by rw [← HSM.out]; exact HRI.out, HBI.out⟩
          case measure => simp [intOf]; omega
    · obtain rfl : i = s.length := by omega
      have hlc : ((s.length : Int) < (s.length : Int)) = False := eq_false (by omega)
      have hlm : (s.map upB).length = s.length := List.length_map _
      have hall : upTo s s.length = s.map upB := by simp [upTo]
      have hback := run_convert_bytes_back (P := Tryz.prog) wr 82 9 5 ⟨w.heap.size, 0, none⟩ c1 (s.map upB) Tryz.underlying82 Tryz.underlying5 Tryz.underlying9 (fun j hj => by
        have := HRI.out.cell (j := j) (b := (s.map upB)[j]) (by rw [hall]; exact List.getElem?_eq_getElem hj)
        by_cases h0 : j = 0
        · subst h0
          simpa [Addr.add] using this
        · simpa [Addr.add, h0] using this)
      rw [hlm] at hback
      have hback1 : (convert 82 9 (.slice (some ⟨w.heap.size, 0, none⟩) s.length c1)).run Tryz.prog wr = .ok (str (s.map upB)) wr := hback
      obtain ⟨u, hu⟩ : ∃ u, s.map upB = u := ⟨_, rfl⟩
      rw [hu] at hback1
      have HU := Lib.hid hu
      clear hback hall hlm hu
      go_wp2
      go_ret
      rw [HU.out]
      exact ⟨rfl, HBI.out⟩
end Go.Proofs.YtmkpeopebddnjaaGreatDoor
