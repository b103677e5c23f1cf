/-
  The walks of the keys of commands: counted, Key, Decimal, KeyOf, LongTexts, OwnTexts.
-/
import Derived.Test.YtmmgbgekcpbelaaDoorBuild
import Derived.Test.YtmmgbgekcpbelaaDoorKeyPure
import Derived.Test.YtmmgbgekcpbelaaDoorShelf
import Derived.Test.YtmmgbgekcpbelaaDoorSameT
import Derived.Lib.AppendIntMem
import Derived.Laws.AppendOwnNone
import Derived.Laws.IdiomStrings
import Derived.Test.YtmmgbgekcpbelaaDoorCardAid
namespace Go.Proofs.YtmmgbgekcpbelaaDoor
open Go Go.RowKit Go.Kf

/-- The table of powers of ten is laid. -/
abbrev Tab (w : World) : Prop := Lib.TabIs Tryd.prog w "internal/strconv.uint64pow10" .u64 Lib.pow10Tab
theorem tab_below {B : Nat} {w w' : World} (h : Tab w) (hb : Below B w w') (hB : w.heap.size ≤ B) : Tab w' := by
  have hgn : Tryd.prog.globalNamed "internal/strconv.uint64pow10" = some 16 := by kernel_rfl
  unfold Tab Lib.TabIs World.var? at h ⊢
  rw [hgn] at h ⊢
  simp only [Option.bind_some] at h ⊢
  have hlt : 16 < w.heap.size := by
    rcases Nat.lt_or_ge 16 w.heap.size with h' | h'
    · exact h'
    · rw [Array.getElem?_eq_none h'] at h; cases h
  rw [hb.block _ (by omega)]
  exact h

theorem itoa_any (n : Nat) (w : World) (hn : n ≤ 1000000) (ht : Tab w) : Calls Tryd.prog 68 #[.int .i64 n] w fun e w' => e = .returned (str (Lib.decDigits n)) ∧ Below w.heap.size w w' := by
  refine (Tryd.strconv_Itoa n (by omega) (by omega) w ht).mono ?_
  rintro e w' ⟨rfl, k, os, rfl⟩
  exact ⟨by rw [Lib.itoa_nonneg], Lib.below_grow _ w (Nat.le_refl _) k os⟩

theorem counted_any (s : List UInt8) (w : World) (hs : s.length ≤ 1000) (ht : Tab w) : Calls Tryd.prog 50 #[str s] w fun e w' => e = .returned (str (cnt s)) ∧ Below w.heap.size w w' := by
  have HT := Lib.hid ht
  clear ht
  go_enter Tryd.func50, Tryd.ntmps50
  go_wp2_with fail
  refine (itoa_any s.length w (by omega) HT.out).mono ?_
  rintro e w1 ⟨rfl, hb⟩
  have hd := digits_short hs
  go_wp2
  go_ret
  refine ⟨?_, hb⟩
  simp only [str_app, cnt]
  simp

/-- A slice value is nil, or has an address. -/
def NilOr (v : Value) : Prop := v = .slice none 0 0 ∨ ∃ a n c, v = .slice (some a) n c
theorem tyStrsK : SliceTy Tryd.prog 29 9 (str []) 16 := ⟨Tryd.underlying29, by kernel_rfl, rfl⟩

set_option maxRecDepth 100000 in
theorem own_texts (v : Value) (l : List (List UInt8)) (w : World) (hr : Reads w v (l.map str)) (hn : NilOr v) (hl : l.length ≤ 1000) :
    Calls Tryd.prog 29 #[v] w fun e w' => ∃ v', e = .returned v' ∧ NilOr v' ∧ Reads w' v' (l.map str) ∧ Below w.heap.size w w' := by
  rcases hn with rfl | ⟨ad, n, c, rfl⟩
  · obtain ⟨i, hi, hz0, hz1, hz2⟩ := info_parts tyStrsK.info
    have HR := Lib.hid hr
    clear hr
    go_enter Tryd.func29, Tryd.ntmps29
    go_wp2_with (at_builtin; refine wpList_append_own_none rfl _ _ 29 rfl 0 9 i 1 tyStrsK.und hi _ 0 [] rfl (World.ownsRow_nil _ _ _ _) rfl ?_)
    go_ret
    exact ⟨_, rfl, Or.inl rfl, HR.out, Below.refl _ _⟩
  · obtain rfl := hr.len
    have HR := Lib.hid hr
    have hm : (l.map str).length = l.length := List.length_map _
    rw [hm]
    clear hr hm
    go_enter Tryd.func29, Tryd.ntmps29
    go_wp2_with (at_builtin; refine wpList_app _ rfl _ _ 29 rfl tyStrsK 0 _ 0 [] rfl (World.ownsRow_nil _ _ _ _) ad l.length c (l.map str) rfl (by simp) ?c1 ?c2 (by decide) (by omega) (Nat.zero_le _) ?_)
    case c1 =>
      intro j u hj
      obtain ⟨a', cap', e, -, hc⟩ := HR.out
      cases e
      obtain ⟨b, o, e, hcell⟩ := hc j u hj
      cases e
      rw [addr_add rfl]
      exact hcell
    case c2 =>
      intro u hu
      obtain ⟨t, -, rfl⟩ := List.mem_map.1 hu
      rfl
    intro v' w' hown hgrow hblk
    go_wp2
    go_ret
    refine ⟨_, rfl, ?_, ?_, (Below.refl _ _).grown hgrow (Nat.le_refl _) (fun k hk => by cases hk)⟩
    · rcases hown.2 with ⟨rfl, -⟩ | ⟨g, cap, cur, rfl, -⟩
      · exact Or.inl rfl
      · exact Or.inr ⟨_, _, _, rfl⟩
    · have := ownsRow_reads hown
      simpa using this

set_option maxRecDepth 100000 in
theorem byte_any (m : Nat) (w : World) (h : m < 256) : Calls Tryd.prog 83 #[.int .i64 m] w fun e w' => e = .returned (str [UInt8.ofNat m]) ∧ Below w.heap.size w w' := by
  have hcv : (convert 88 9 (.slice (some ⟨w.heap.size, 0, none⟩) 1 1)).run Tryd.prog (w.alloc (.cells #[.int .u8 m] 5)) = .ok (str [UInt8.ofNat m]) (w.alloc (.cells #[.int .u8 m] 5)) := by
    refine run_convert_bytes_back _ _ _ 5 ⟨w.heap.size, 0, none⟩ 1 [UInt8.ofNat m] Tryd.underlying88 Tryd.underlying5 Tryd.underlying9 ?_
    intro j hj
    obtain rfl : j = 0 := by simpa using hj
    rw [addr_add rfl, cell_of_heap (heap_alloc_here w _)]
    simp [UInt8.toNat_ofNat', Nat.mod_eq_of_lt h]
  go_enter Tryd.func83, Tryd.ntmps83
  go_wp2
  go_ret
  exact ⟨rfl, (Below.refl _ _).alloc (Nat.le_refl _) _⟩

theorem byte_int (z : Int) (m : Nat) (c : UInt8) (w : World) (h : m < 256) (hz : z = (m : Int)) (hc : Hid (c = UInt8.ofNat m)) : Calls Tryd.prog 83 #[.int .i64 z] w fun e w' => e = .returned (str [c]) ∧ Below w.heap.size w w' := by
  subst hz; rw [hc.out]; exact byte_any m w h
set_option maxRecDepth 100000 in
theorem below_any : ∀ (n : Nat) (w : World), n ≤ 1000000 → Calls Tryd.prog 69 #[.int .i64 (-(n : Int))] w fun e w' => e = .returned (str (Lib.decDigits n)) ∧ Below w.heap.size w w' := by
  intro n
  induction n using Nat.strongRecOn with
  | _ n ih =>
    intro w hn
    by_cases h : n < 10
    · have hd : Lib.decDigits n = [UInt8.ofNat (48 + n)] := Lib.decDigits_one h
      rw [hd]
      clear hd ih
      obtain ⟨c, hc⟩ : ∃ c, c = UInt8.ofNat (48 + n) := ⟨_, rfl⟩
      rw [← hc]
      have HC := Lib.hid hc
      clear hc
      go_enter Tryd.func69, Tryd.ntmps69
      go_wp2_with fail
      refine (byte_int _ (48 + n) c w (by omega) (by omega) HC).mono ?_
      rintro e w1 ⟨rfl, hb⟩
      go_wp2
      go_ret
      exact ⟨rfl, hb⟩
    · have hd : Lib.decDigits n = Lib.decDigits (n / 10) ++ [UInt8.ofNat (48 + n % 10)] := by rw [Lib.decDigits, dif_neg h]
      rw [hd]
      clear hd
      have hq : (-(n : Int)).tdiv 10 = -((n / 10 : Nat) : Int) := by
        rw [Int.neg_tdiv, Int.ofNat_tdiv]; rfl
      have hr : (-(n : Int)).tmod 10 = -((n % 10 : Nat) : Int) := by
        rw [Int.neg_tmod, Int.ofNat_tmod]; rfl
      obtain ⟨c, hc⟩ : ∃ c, c = UInt8.ofNat (48 + n % 10) := ⟨_, rfl⟩
      rw [← hc]
      have HC := Lib.hid hc
      clear hc
      have ih' : ∀ (z : Int) (w : World), z = -((n / 10 : Nat) : Int) → Calls Tryd.prog 69 #[.int .i64 z] w fun e w' => e = .returned (str (Lib.decDigits (n / 10))) ∧ Below w.heap.size w w' := by
        rintro z w rfl; exact ih (n / 10) (by omega) w (by omega)
      have IH := Lib.hid ih'
      clear ih ih'
      have hlen : (Lib.decDigits (n / 10)).length ≤ 100001 := by
        have := digits_len_le (n / 10)
        omega
      generalize Lib.decDigits (n / 10) = D at *
      go_enter Tryd.func69, Tryd.ntmps69
      go_wp2_with fail
      refine (IH.out _ w (by omega)).mono ?_
      rintro e w1 ⟨rfl, hb1⟩
      go_wp2_with fail
      refine (byte_int _ (48 + n % 10) c w1 (by omega) (by omega) HC).mono ?_
      rintro e w2 ⟨rfl, hb2⟩
      go_wp2
      go_ret
      exact ⟨by rw [str_app]; rfl, hb1.trans (hb2.mono hb1.size)⟩
theorem decimal_any (n : Nat) (w : World) (hn : n ≤ 1000000) : Calls Tryd.prog 52 #[.int .i64 n] w fun e w' => e = .returned (str (Lib.decDigits n)) ∧ Below w.heap.size w w' := by
  go_enter Tryd.func52, Tryd.ntmps52
  go_wp2_with fail
  refine (below_any n w hn).mono ?_
  rintro e w1 ⟨rfl, hb⟩
  go_wp2
  go_ret
  exact ⟨rfl, hb⟩

theorem byteCells_size (l : List UInt8) : (Lib.byteCells l).length = l.length := Lib.byteCells_length l

set_option maxHeartbeats 1000000 in
set_option maxRecDepth 100000 in
theorem key_any (kd wd : List UInt8) (v : Value) (l : List (List UInt8)) (w : World) (ht : Tab w) (hr : Reads w v (l.map str))
    (hk : kd.length ≤ 1000) (hw : wd.length ≤ 1000) (hl : ∀ s ∈ l, s.length ≤ 1000) (hn : l.length ≤ 1000) :
    Calls Tryd.prog 28 #[str kd, str wd, v] w fun e w' => e = .returned (str (keyL kd wd l)) ∧ Below w.heap.size w w' := by
  obtain ⟨a, cap, rfl, -, -⟩ := id hr
  simp only [List.length_map] at *
  have HR := Lib.hid hr
  have HT := Lib.hid ht
  have HL := Lib.hid hl
  have hck := cnt_short hk
  have hcw := cnt_short hw
  have hw0 : Below w.heap.size w (w.alloc (.cells #[.pointer none, .slice none 0 0] 90)) := (Below.refl _ _).alloc (Nat.le_refl _) _
  have hB0 := Lib.fresh_isBuilder 90 5 w
  have HB0 := Lib.hid hB0
  clear hr ht hl hB0
  go_enter Tryd.func28, Tryd.ntmps28
  go_wp2_with fail
  refine (counted_any kd _ hk (tab_below HT.out hw0 (Nat.le_refl _))).mono ?_
  rintro e w1 ⟨rfl, hb1⟩
  have b1 := hw0.trans (hb1.mono (by simp))
  have HB1 := Lib.hid (builder_below HB0.out hb1)
  have z1 : w.heap.size < w1.heap.size := by have := hb1.size; simp at this; omega
  clear hb1
  go_wp2_with fail
  refine (counted_any wd _ hw (tab_below HT.out b1 (Nat.le_refl _))).mono ?_
  rintro e w2 ⟨rfl, hb2⟩
  have b2 := b1.trans (hb2.mono b1.size)
  have HB2 := Lib.hid (builder_below HB1.out hb2)
  have z2 : w.heap.size < w2.heap.size := by have := hb2.size; omega
  clear hb2
  go_wp2_with fail
  refine (writeString_any w.heap.size w.heap.size [] _ w2 HB2.out (by rw [Lib.size_eq]; simp; omega) b2.size).mono ?_
  rintro e w3 ⟨rfl, hB3, hb3⟩
  have b3 := b2.trans hb3
  have z3 : w.heap.size < w3.heap.size := by have := hb3.size; omega
  rw [str_app, Lib.strCells_toArray, List.nil_append, ← keyL_nil] at hB3
  have HB3 := Lib.hid hB3
  clear hb3 hB3
  go_wp2_with fail
  go_loopw [18] (fun i wl => ∃ j : Nat, j ≤ l.length ∧ i = .int .i64 j ∧ Lib.BuilderAt 90 5 w.heap.size w.heap.size (.pointer (some ⟨w.heap.size, 0, none⟩)) (Lib.byteCells (keyL kd wd (l.take j))) wl ∧ Below w.heap.size w wl) (fun i _ => l.length - (intOf i).toNat)
  case atStart => exact ⟨0, by omega, rfl, by simpa using HB3.out, b3⟩
  case round =>
    obtain ⟨j, hj, rfl, hBj, hbj⟩ := hrel
    have HBj := Lib.hid hBj
    have hsj : (keyL kd wd (l.take j)).length ≤ 2000000 := keyL_short hk hw (fun s hs => HL.out s (List.mem_of_mem_take hs)) (by simp; omega)
    clear hBj
    by_cases hlt : j < l.length
    · obtain ⟨b, o, hix, hce⟩ := (HR.out.below0 hbj).at (P := Tryd.prog) Tryd.underlying29 (by kernel_rfl) j (by simpa using hlt)
      simp only [List.getElem_map] at hce
      have hcj := cnt_short (HL.out l[j] (List.getElem_mem hlt))
      have hsl := HL.out l[j] (List.getElem_mem hlt)
      go_wp2_with fail
      refine (counted_any l[j] _ hsl (tab_below HT.out hbj (Nat.le_refl _))).mono ?_
      rintro e w4 ⟨rfl, hb4⟩
      have b4 := hbj.trans (hb4.mono hbj.size)
      have HB4 := Lib.hid (builderAt_below HBj.out hb4)
      clear hb4
      go_wp2_with fail
      refine (writeString_any w.heap.size w.heap.size _ _ w4 (Or.inr HB4.out) (by rw [Lib.size_eq, Lib.byteCells_length]; simp; omega) b4.size).mono ?_
      rintro e w5 ⟨rfl, hB5, hb5⟩
      have b5 := b4.trans hb5
      rw [Lib.strCells_toArray, ← Lib.byteCells_append, ← keyL_snoc, ← List.take_succ_eq_append_getElem hlt] at hB5
      have HB5 := Lib.hid hB5
      clear hb5 hB5
      go_wp2
      go_roundw
      case rel => exact ⟨j + 1, by omega, by go_num, HB5.out, b5⟩
      case measure => simp [intOf]; omega
    · obtain rfl : j = l.length := by omega
      rw [List.take_length] at HBj
      go_wp2_with fail
      refine (Tryd.Builder_String_any w.heap.size w.heap.size _ _ (Or.inr HBj.out) hbj.size).mono ?_
      rintro e w6 ⟨rfl, hb6⟩
      go_wp2
      go_ret
      exact ⟨rfl, hbj.trans hb6⟩
end Go.Proofs.YtmmgbgekcpbelaaDoor
