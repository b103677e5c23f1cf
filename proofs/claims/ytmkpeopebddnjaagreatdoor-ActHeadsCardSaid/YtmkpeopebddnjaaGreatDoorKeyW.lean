/-
  The walks of the keys of commands: counted, Key, Decimal, KeyOf, LongTexts, OwnTexts.
-/
import Derived.Test.YtmkpeopebddnjaaGreatDoorBuild
import Derived.Test.YtmkpeopebddnjaaGreatDoorKeyPure
import Derived.Test.YtmkpeopebddnjaaGreatDoorShelf
import Derived.Test.YtmkpeopebddnjaaGreatDoorSameT
import Derived.Lib.AppendIntMem
import Derived.Laws.AppendOwnNone
import Derived.Laws.IdiomStrings
import Derived.Test.YtmkpeopebddnjaaGreatDoorCardAid
namespace Go.Proofs.YtmkpeopebddnjaaGreatDoor
open Go Go.RowKit Go.Kf

/-- The table of powers of ten is laid. -/
abbrev Tab (w : World) : Prop := Lib.TabIs Tryz.prog w "internal/strconv.uint64pow10" .u64 Lib.pow10Tab
theorem tab_below {B : Nat} {w w' : World} (h : Tab w) (hb : Below B w w') (hB : w.heap.size ≤ B) : Tab w' := by
  have hgn : Tryz.prog.globalNamed "internal/strconv.uint64pow10" = some 13 := by kernel_rfl
  unfold Tab Lib.TabIs World.var? at h ⊢
  rw [hgn] at h ⊢
  simp only [Option.bind_some] at h ⊢
  have hlt : 13 < w.heap.size := by
    rcases Nat.lt_or_ge 13 w.heap.size with h' | h'
    · exact h'
    · rw [Array.getElem?_eq_none h'] at h; cases h
  rw [hb.block _ (by omega)]
  exact h

theorem itoa_any (n : Nat) (w : World) (hn : n ≤ 1000000) (ht : Tab w) : Calls Tryz.prog 46 #[.int .i64 n] w fun e w' => e = .returned (str (Lib.decDigits n)) ∧ Below w.heap.size w w' := by
  refine (Tryz.strconv_Itoa n (by omega) (by omega) w ht).mono ?_
  rintro e w' ⟨rfl, k, os, rfl⟩
  exact ⟨by rw [Lib.itoa_nonneg], Lib.below_grow _ w (Nat.le_refl _) k os⟩

/-- A slice value is nil, or has an address. -/
def NilOr (v : Value) : Prop := v = .slice none 0 0 ∨ ∃ a n c, v = .slice (some a) n c
theorem tyStrsK : SliceTy Tryz.prog 39 9 (str []) 16 := ⟨Tryz.underlying39, by kernel_rfl, rfl⟩

set_option maxRecDepth 100000 in
theorem own_texts (v : Value) (l : List (List UInt8)) (w : World) (hr : Reads w v (l.map str)) (hn : NilOr v) (hl : l.length ≤ 1000) :
    Calls Tryz.prog 33 #[v] w fun e w' => ∃ v', e = .returned v' ∧ NilOr v' ∧ Reads w' v' (l.map str) ∧ Below w.heap.size w w' := by
  rcases hn with rfl | ⟨ad, n, c, rfl⟩
  · obtain ⟨i, hi, hz0, hz1, hz2⟩ := info_parts tyStrsK.info
    have HR := Lib.hid hr
    clear hr
    go_enter Tryz.func33, Tryz.ntmps33
    go_wp2_with (at_builtin; refine wpList_append_own_none rfl _ _ 39 rfl 0 9 i 1 tyStrsK.und hi _ 0 [] rfl (World.ownsRow_nil _ _ _ _) rfl ?_)
    go_ret
    exact ⟨_, rfl, Or.inl rfl, HR.out, Below.refl _ _⟩
  · obtain rfl := hr.len
    have HR := Lib.hid hr
    have hm : (l.map str).length = l.length := List.length_map _
    rw [hm]
    clear hr hm
    go_enter Tryz.func33, Tryz.ntmps33
    go_wp2_with (at_builtin; refine wpList_app _ rfl _ _ 39 rfl tyStrsK 0 _ 0 [] rfl (World.ownsRow_nil _ _ _ _) ad l.length c (l.map str) rfl (by simp) ?c1 ?c2 (by decide) (by omega) (Nat.zero_le _) ?_)
    case c1 =>
      intro j u hj
      obtain ⟨a', cap', e, -, hc⟩ := HR.out
      cases e
      obtain ⟨b, o, e, hcell⟩ := hc j u hj
      cases e
      rw [addr_add rfl]
      exact hcell
    case c2 =>
      intro u hu
      obtain ⟨t, -, rfl⟩ := List.mem_map.1 hu
      rfl
    intro v' w' hown hgrow hblk
    go_wp2
    go_ret
    refine ⟨_, rfl, ?_, ?_, (Below.refl _ _).grown hgrow (Nat.le_refl _) (fun k hk => by cases hk)⟩
    · rcases hown.2 with ⟨rfl, -⟩ | ⟨g, cap, cur, rfl, -⟩
      · exact Or.inl rfl
      · exact Or.inr ⟨_, _, _, rfl⟩
    · have := ownsRow_reads hown
      simpa using this

set_option maxRecDepth 100000 in
theorem byte_any (m : Nat) (w : World) (h : m < 256) : Calls Tryz.prog 82 #[.int .i64 m] w fun e w' => e = .returned (str [UInt8.ofNat m]) ∧ Below w.heap.size w w' := by
  have hcv : (convert 82 9 (.slice (some ⟨w.heap.size, 0, none⟩) 1 1)).run Tryz.prog (w.alloc (.cells #[.int .u8 m] 5)) = .ok (str [UInt8.ofNat m]) (w.alloc (.cells #[.int .u8 m] 5)) := by
    refine run_convert_bytes_back _ _ _ 5 ⟨w.heap.size, 0, none⟩ 1 [UInt8.ofNat m] Tryz.underlying82 Tryz.underlying5 Tryz.underlying9 ?_
    intro j hj
    obtain rfl : j = 0 := by simpa using hj
    rw [addr_add rfl, cell_of_heap (heap_alloc_here w _)]
    simp [UInt8.toNat_ofNat', Nat.mod_eq_of_lt h]
  go_enter Tryz.func82, Tryz.ntmps82
  go_wp2
  go_ret
  exact ⟨rfl, (Below.refl _ _).alloc (Nat.le_refl _) _⟩

theorem byte_int (z : Int) (m : Nat) (c : UInt8) (w : World) (h : m < 256) (hz : z = (m : Int)) (hc : Hid (c = UInt8.ofNat m)) : Calls Tryz.prog 82 #[.int .i64 z] w fun e w' => e = .returned (str [c]) ∧ Below w.heap.size w w' := by
  subst hz; rw [hc.out]; exact byte_any m w h
set_option maxRecDepth 100000 in
theorem below_any : ∀ (n : Nat) (w : World), n ≤ 1000000 → Calls Tryz.prog 52 #[.int .i64 (-(n : Int))] w fun e w' => e = .returned (str (Lib.decDigits n)) ∧ Below w.heap.size w w' := by
  intro n
  induction n using Nat.strongRecOn with
  | _ n ih =>
    intro w hn
    by_cases h : n < 10
    · have hd : Lib.decDigits n = [UInt8.ofNat (48 + n)] := Lib.decDigits_one h
      rw [hd]
      clear hd ih
      obtain ⟨c, hc⟩ : ∃ c, c = UInt8.ofNat (48 + n) := ⟨_, rfl⟩
      rw [← hc]
      have HC := Lib.hid hc
      clear hc
      go_enter Tryz.func52, Tryz.ntmps52
      go_wp2_with fail
      refine (byte_int _ (48 + n) c w (by omega) (by omega) HC).mono ?_
      rintro e w1 ⟨rfl, hb⟩
      go_wp2
      go_ret
      exact ⟨rfl, hb⟩
    · have hd : Lib.decDigits n = Lib.decDigits (n / 10) ++ [UInt8.ofNat (48 + n % 10)] := by rw [Lib.decDigits, dif_neg h]
      rw [hd]
      clear hd
      have hq : (-(n : Int)).tdiv 10 = -((n / 10 : Nat) : Int) := by
        rw [Int.neg_tdiv, Int.ofNat_tdiv]; rfl
      have hr : (-(n : Int)).tmod 10 = -((n % 10 : Nat) : Int) := by
        rw [Int.neg_tmod, Int.ofNat_tmod]; rfl
      obtain ⟨c, hc⟩ : ∃ c, c = UInt8.ofNat (48 + n % 10) := ⟨_, rfl⟩
      rw [← hc]
      have HC := Lib.hid hc
      clear hc
      have ih' : ∀ (z : Int) (w : World), z = -((n / 10 : Nat) : Int) → Calls Tryz.prog 52 #[.int .i64 z] w fun e w' => e = .returned (str (Lib.decDigits (n / 10))) ∧ Below w.heap.size w w' := by
        rintro z w rfl; exact ih (n / 10) (by omega) w (by omega)
      have IH := Lib.hid ih'
      clear ih ih'
      have hlen : (Lib.decDigits (n / 10)).length ≤ 100001 := by
        have := digits_len_le (n / 10)
        omega
      generalize Lib.decDigits (n / 10) = D at *
      go_enter Tryz.func52, Tryz.ntmps52
      go_wp2_with fail
      refine (IH.out _ w (by omega)).mono ?_
      rintro e w1 ⟨rfl, hb1⟩
      go_wp2_with fail
      refine (byte_int _ (48 + n % 10) c w1 (by omega) (by omega) HC).mono ?_
      rintro e w2 ⟨rfl, hb2⟩
      go_wp2
      go_ret
      exact ⟨by rw [str_app]; rfl, hb1.trans (hb2.mono hb1.size)⟩
theorem decimal_any (n : Nat) (w : World) (hn : n ≤ 1000000) : Calls Tryz.prog 30 #[.int .i64 n] w fun e w' => e = .returned (str (Lib.decDigits n)) ∧ Below w.heap.size w w' := by
  go_enter Tryz.func30, Tryz.ntmps30
  go_wp2_with fail
  refine (below_any n w hn).mono ?_
  rintro e w1 ⟨rfl, hb⟩
  go_wp2
  go_ret
  exact ⟨rfl, hb⟩

theorem byteCells_size (l : List UInt8) : (Lib.byteCells l).length = l.length := Lib.byteCells_length l

end Go.Proofs.YtmkpeopebddnjaaGreatDoor
