/-
  Rules as text: a quoted word is read. Rules as text: a line is read. Rules as text: Read.
-/
import Derived.Test.YtgjialbmlhbngaaGreatDoorScA
import Derived.Test.YtgjialbmlhbngaaGreatDoorYdB
import Derived.Test.YtgjialbmlhbngaaGreatDoorPkI

set_option maxRecDepth 100000
namespace Go.Proofs.YtgjialbmlhbngaaGreatDoor
open Go Go.RowKit Go.Kf Go.Sort Go.Proofs
theorem tyBytesQ : SliceTy Tryz.prog 136 5 (.int .u8 0) 1 := ⟨Tryz.underlying136, by kernel_rfl, rfl⟩
theorem drop_at {s : List UInt8} {i : Nat} (h : i < s.length) : s.drop i = s[i] :: s.drop (i + 1) := List.drop_eq_getElem_cons h
theorem contains_esc (d : UInt8) (w : World) : Calls Tryz.prog 273 #[str [34, 92, 110], str [d]] w fun e w' => e = .returned (.bool (decide (d = 34 ∨ d = 92 ∨ d = 110))) ∧ w' = w := by
  refine (Tryz.strings_Contains_one ⟨#[34, 92, 110]⟩ d w).mono ?_
  rintro e w' ⟨rfl, rfl⟩
  refine ⟨?_, rfl⟩
  have h : ∀ n : Nat, n < 256 → decide (0 ≤ Lib.indexByte [34, 92, 110] (UInt8.ofNat n)) = decide (UInt8.ofNat n = 34 ∨ UInt8.ofNat n = 92 ∨ UInt8.ofNat n = 110) := by decide +kernel
  have h1 := h d.toNat d.toNat_lt
  rw [UInt8.ofNat_toNat] at h1
  exact congrArg (fun b => Ending.returned (Value.bool b)) h1
set_option maxHeartbeats 4000000 in
theorem unquote_any (s : List UInt8) (w : World) (hs : s.length ≤ 1000000) :
    Calls Tryz.prog 308 #[str s] w fun e w' => e = .returned (.tuple #[str (unqB (s.drop 1) []).1, str (unqB (s.drop 1) []).2.1, .bool (unqB (s.drop 1) []).2.2]) ∧ Below w.heap.size w w' := by
  go_enter Tryz.func308, Tryz.ntmps308
  go_wp2
  go_loopw [5, 6] (fun ov iv wl => ∃ (i : Nat) (o : List UInt8), 1 ≤ i ∧ i ≤ s.length + 1 ∧ o.length ≤ i ∧ iv = .int .i64 (i : Int) ∧ wl.ownsRow w.heap.size 5 1 ov o.length (o.map byteV) ∧ unqB (s.drop 1) [] = unqB (s.drop i) o ∧ Below w.heap.size w wl) (fun _ iv _ => s.length + 1 - (intOf iv).toNat)
  case atStart => exact ⟨1, [], by omega, by omega, by simp, rfl, World.ownsRow_nil _ _ _ _, rfl, Below.refl _ _⟩
  case round =>
    obtain ⟨i, o, h1, hi, hol, rfl, hown, hu, hb⟩ := hrel
    have HU := Hd hu
    have HB := Hd hb
    have hzw := hb.size
    clear hu
    by_cases hlt : i < s.length
    · have hd := drop_at hlt
      have hlc : ((i : Int) < (s.length : Int)) = True := eq_true (by omega)
      have hlc2 : (i < s.length) = True := eq_true hlt
      have hs1 : (⟨s.toArray⟩ : ByteArray).extract (i + 1) s.length = ⟨(s.drop (i + 1)).toArray⟩ := by
        apply ByteArray.ext
        simp only [ByteArray.data_extract, List.extract_toArray, List.extract_eq_take_drop]
        rw [List.take_of_length_le (by rw [List.length_drop]; exact Nat.le_refl _)]
      obtain ⟨x, hx⟩ : ∃ x, s[i] = x := ⟨_, rfl⟩
      have hidx : ∀ h, (⟨s.toArray⟩ : ByteArray)[i]'h = x := fun _ => hx
      rw [hx] at hd
      obtain ⟨n, hn⟩ : ∃ n : Nat, n = x.toNat := ⟨_, rfl⟩
      have hidx2 : ∀ h, ((⟨s.toArray⟩ : ByteArray)[i]'h).toNat = n := fun h => by rw [hidx h, hn]
      have hn8 : n < 256 := by rw [hn]; exact x.toNat_lt
      have HN := Hd hn
      clear hn
      have HU1 : Hid (unqB (s.drop 1) [] = unqB (x :: s.drop (i + 1)) o) := Hd (HU.out.trans (by rw [hd]))
      have HO := Hd hown
      clear hidx hd
      by_cases h34 : n = 34
      · have hx34 : x = 34 := by
          apply UInt8.toNat_inj.1
          rw [← HN.out, h34]
          rfl
        have HQ : Hid (unqB (s.drop 1) [] = (o, s.drop (i + 1), decide (0 < o.length))) := Hd (HU1.out.trans (by unfold unqB; rw [if_pos hx34]))
        subst h34
        clear hx34
        have hov : (∀ q, (convert 136 9 u5).run Tryz.prog (wr.drewN q) = .ok (str o) (wr.drewN q)) ∧ ∃ a c, u5 = .slice a o.length c := by
          rcases hown.2 with ⟨hv0, h0⟩ | ⟨g, cap, cur, hvg, -⟩
          · obtain rfl := List.length_eq_zero_iff.1 h0
            subst hv0
            exact ⟨fun _ => rfl, _, _, rfl⟩
          · subst hvg
            exact ⟨fun q => run_convert_bytes_back (P := Tryz.prog) (wr.drewN q) 136 9 5 ⟨g, 0, none⟩ cap o Tryz.underlying136 Tryz.underlying5 Tryz.underlying9 (fun j hj => by
              have h := hown.cellAt j (by omega)
              rw [List.getElem?_map, List.getElem?_eq_getElem hj] at h
              rw [addr_add rfl]
              show (wr.drewN q).cell? ⟨g, 0 + j, none⟩ = _
              rw [Nat.zero_add]
              exact h), _, _, rfl⟩
        obtain ⟨hcv, ao, co, rfl⟩ := hov
        have hsl : ((i : Int) + 1 ≤ (s.length : Int)) = True := eq_true (by omega)
        have hpos : ((o.length : Int) > 0) = (0 < o.length) := by simp
        have hpos2 : ((0 : Int) < (o.length : Int)) = (0 < o.length) := by simp
        clear hown
        go_wp2_with fail
        go_quiet (fail)
        go_wp2
        go_ret3
        rw [HQ.out]
        exact ⟨rfl, below_drewN hb nq⟩
      · by_cases h92 : n = 92
        · have hx92 : x = 92 := by
            apply UInt8.toNat_inj.1
            rw [← HN.out, h92]
            rfl
          subst h92
          by_cases hend : i + 1 = s.length
          · have HQ : Hid (unqB (s.drop 1) [] = ([], [], false)) := Hd (HU1.out.trans (by
              rw [hend, List.drop_length, hx92]
              rfl))
            have hec : ((i : Int) + 1 == (s.length : Int)) = true := by simp; omega
            have hec2 : ((i : Int) + 1 = (s.length : Int)) = True := eq_true (by omega)
            clear hx92
            go_wp2
            go_ret3
            rw [HQ.out]
            exact ⟨rfl, hb⟩
          · have hl1 : i + 1 < s.length := by omega
            have hec : ((i : Int) + 1 == (s.length : Int)) = false := by simp; omega
            have hec2 : ((i : Int) + 1 = (s.length : Int)) = False := eq_false (by omega)
            have hd1 := drop_at hl1
            obtain ⟨d, hdx⟩ : ∃ d, s[i + 1] = d := ⟨_, rfl⟩
            have hid1 : ∀ h, (⟨s.toArray⟩ : ByteArray)[i + 1]'h = d := fun _ => hdx
            have hsd : (⟨s.toArray⟩ : ByteArray).extract (i + 1) (i + 2) = ⟨[d].toArray⟩ := by
              apply ByteArray.ext
              simp only [ByteArray.data_extract, List.extract_toArray, List.extract_eq_take_drop]
              rw [drop_at hl1, hdx, show i + 2 - (i + 1) = 1 by omega]
              rfl
            rw [hdx] at hd1
            obtain ⟨m, hmd⟩ : ∃ m : Nat, m = d.toNat := ⟨_, rfl⟩
            have hid2 : ∀ h, ((⟨s.toArray⟩ : ByteArray)[i + 1]'h).toNat = m := fun h => by rw [hid1 h, hmd]
            have HM := Hd hmd
            have KCN := Hd (contains_esc d wr)
            have HU2 : Hid (unqB (s.drop 1) [] = if d = 34 ∨ d = 92 ∨ d = 110 then unqB (s.drop (i + 1 + 1)) (o ++ [if d = 110 then 10 else d]) else ([], [], false)) := Hd (HU1.out.trans (by
              rw [hd1, hx92]
              conv => lhs; unfold unqB
              rfl))
            have hsl1 : ((i : Int) + 1 ≤ (i : Int) + 2) = True := eq_true (by omega)
            have hsl2 : ((i : Int) + 2 ≤ (s.length : Int)) = True := eq_true (by omega)
            have hsl3 : ((i : Int) + 1 < (s.length : Int)) = True := eq_true (by omega)
            have hsl4 : (i + 1 < s.length) = True := eq_true hl1
            clear hid1 hmd hdx hx92
            by_cases hesc : d = 34 ∨ d = 92 ∨ d = 110
            · rw [decide_eq_true hesc] at KCN
              have HQ2 : Hid (unqB (s.drop 1) [] = unqB (s.drop (i + 1 + 1)) (o ++ [if d = 110 then 10 else d])) := Hd (HU2.out.trans (if_pos hesc))
              clear hesc
              go_wp2_with fail
              refine KCN.out.mono ?_
              rintro e w2 ⟨rfl, e2⟩
              have e3 := e2.symm
              subst e3
              clear e2
              by_cases h110 : m = 110
              · have hd110 : d = 110 := by
                  apply UInt8.toNat_inj.1
                  rw [← HM.out, h110]
                  rfl
                have HQ3 : Hid (unqB (s.drop 1) [] = unqB (s.drop (i + 1 + 1)) (o ++ [10])) := Hd (HQ2.out.trans (by rw [if_pos hd110]))
                subst h110
                clear hd110
                go_wp2_with (
                at_builtin
                refine wpList_app _ rfl _ _ 136 rfl tyBytesQ w.heap.size _ o.length (o.map byteV) rfl (HO.out.alloc _) ⟨wr.heap.size, 0, none⟩ 1 1 [byteV 10] rfl rfl (news_one ?_) ?_ (by decide) ?_ ?_ ?_
                · rw [cell_of_heap (heap_alloc_here wr _)]; rfl
                · intro u hu; simp at hu; subst hu; rfl
                · omega
                · have := HB.out.size; simp; omega
                intro v5 w5 ho5 hg5 hloc5
                have b5 : Below w.heap.size w w5 := (HB.out.alloc HB.out.size _).grown hg5 (by have := HB.out.size; simp; omega) (fun k hk => (HO.out.lt k hk).1)
                have HO5 := Hd ho5
                clear ho5 hg5 hloc5)
                go_wp2
                go_roundw
                case rel => exact ⟨i + 1 + 1, o ++ [10], by omega, by omega, by rw [List.length_append]; simp; omega, by go_num, by rw [List.length_append, List.map_append]; exact HO5.out, HQ3.out, b5⟩
                case measure => simp [intOf]; omega
              · have hne110 : d ≠ 110 := fun e => h110 (by rw [HM.out, e]; rfl)
                have HQ3 : Hid (unqB (s.drop 1) [] = unqB (s.drop (i + 1 + 1)) (o ++ [d])) := Hd (HQ2.out.trans (by rw [if_neg hne110]))
                have HBX : Hid (byteV d = .int .u8 (m : Int)) := Hd (by rw [HM.out])
                have e110 : ((m : Int) == 110) = false := by simp; omega
                have e110' : ((m : Int) = 110) = False := eq_false (by omega)
                clear hne110
                go_wp2_with (
                at_builtin
                refine wpList_app _ rfl _ _ 136 rfl tyBytesQ w.heap.size _ o.length (o.map byteV) rfl (HO.out.alloc _) ⟨wr.heap.size, 0, none⟩ 1 1 [.int .u8 (m : Int)] rfl rfl (news_one ?_) ?_ (by decide) ?_ ?_ ?_
                · rw [cell_of_heap (heap_alloc_here wr _)]; rfl
                · intro u hu; simp at hu; subst hu; rfl
                · omega
                · have := HB.out.size; simp; omega
                intro v5 w5 ho5 hg5 hloc5
                have b5 : Below w.heap.size w w5 := (HB.out.alloc HB.out.size _).grown hg5 (by have := HB.out.size; simp; omega) (fun k hk => (HO.out.lt k hk).1)
                have HO5 := Hd ho5
                clear ho5 hg5 hloc5)
                go_wp2
                go_roundw
                case rel => exact ⟨i + 1 + 1, o ++ [d], by omega, by omega, by rw [List.length_append]; simp; omega, by go_num, by rw [List.length_append, List.map_append, List.map_cons, HBX.out]; exact HO5.out, HQ3.out, b5⟩
                case measure => simp [intOf]; omega
            · rw [decide_eq_false hesc] at KCN
              have HQ2 : Hid (unqB (s.drop 1) [] = ([], [], false)) := Hd (HU2.out.trans (if_neg hesc))
              clear hesc
              go_wp2_with fail
              refine KCN.out.mono ?_
              rintro e w2 ⟨rfl, e2⟩
              have e3 := e2.symm
              subst e3
              clear e2
              go_wp2
              go_ret3
              rw [HQ2.out]
              exact ⟨rfl, hb⟩
        · have HQ : Hid (unqB (s.drop 1) [] = unqB (s.drop (i + 1)) (o ++ [x])) := Hd (HU1.out.trans (by
            conv => lhs; unfold unqB
            rw [if_neg (fun e => h34 (by rw [HN.out, e]; rfl)), if_neg (fun e => h92 (by rw [HN.out, e]; rfl))]))
          have HBX : Hid (byteV x = .int .u8 (n : Int)) := Hd (by rw [HN.out])
          have e34 : ((n : Int) == 34) = false := by simp; omega
          have e92 : ((n : Int) != 92) = true := by simp; omega
          have e34' : ((n : Int) = 34) = False := eq_false (by omega)
          have e92' : ((n : Int) = 92) = False := eq_false (by omega)
          go_wp2_with (
            at_builtin
            refine wpList_app _ rfl _ _ 136 rfl tyBytesQ w.heap.size _ o.length (o.map byteV) rfl (HO.out.alloc _) ⟨wr.heap.size, 0, none⟩ 1 1 [.int .u8 (n : Int)] rfl rfl (news_one ?_) ?_ (by decide) ?_ ?_ ?_
            · rw [cell_of_heap (heap_alloc_here wr _)]; rfl
            · intro u hu; simp at hu; subst hu; rfl
            · omega
            · have := HB.out.size; simp; omega
            intro v5 w5 ho5 hg5 hloc5
            have b5 : Below w.heap.size w w5 := (HB.out.alloc HB.out.size _).grown hg5 (by have := HB.out.size; simp; omega) (fun k hk => (HO.out.lt k hk).1)
            have HO5 := Hd ho5
            clear ho5 hg5 hloc5)
          go_wp2
          go_roundw
          case rel => exact ⟨i + 1, o ++ [x], by omega, by omega, by rw [List.length_append]; simp; omega, by go_num, by rw [List.length_append, List.map_append, List.map_cons, HBX.out]; exact HO5.out, HQ.out, b5⟩
          case measure => simp [intOf]; omega
    · have hlc : ((i : Int) < (s.length : Int)) = False := eq_false (by omega)
      have he : s.drop i = [] := List.drop_eq_nil_of_le (by omega)
      rw [he] at HU
      have HQ : Hid (unqB (s.drop 1) [] = ([], [], false)) := Hd (HU.out.trans (by unfold unqB; rfl))
      go_wp2
      go_ret3
      rw [HQ.out]
      exact ⟨rfl, hb⟩
def RLineAns (s : List UInt8) (w : World) (e : Ending) (w' : World) : Prop :=
  ∃ (x : RV) (b : Bool), e = .returned (.tuple #[rvAgg x, .bool b]) ∧ (∃ a n c, x.2 = .slice a n c) ∧ Below w.heap.size w w' ∧
    ((b = true ∧ lineB s = some x.1 ∧ w'.ownsRow w.heap.size 9 1 x.2 x.1.ins.length (x.1.ins.map str)) ∨ (b = false ∧ lineB s = none))
abbrev RuB (w : World) (g : Nat) (o k wd : List UInt8) (v : Value) : Prop := w.heap[g]? = some (.cells #[str o, str k, str wd, v] 35 (0, 0))
theorem scr_size : (Tryz.prog.info? 35).map (·.size) = some 4 := by kernel_rfl
theorem scr_ret2 {fn : Func} {p q : Tmp} (h : fn.results = #[.cell p 35, .tmp q]) (tmps : Array Value) (w : World) (g : Nat) (a b c d : Value)
    (hp : tmps.getD p undef = .pointer (some ⟨g, 0, none⟩)) (hg : w.heap[g]? = some (.cells #[a, b, c, d] 35 (0, 0))) : (results fn tmps).run Tryz.prog w = .ok (.tuple #[.agg #[a, b, c, d], tmps.getD q undef]) w :=
  results_cell_tmp h tmps w g _ _ _ _ hp hg Tryz.underlying35 rfl scr_size
theorem below_four {w w' : World} {g : Nat} (h : Below w.heap.size w w') (hg : w.heap.size ≤ g) (x y z u : Value) : Below w.heap.size w ((((w'.setCell ⟨g, 0, none⟩ x).setCell ⟨g, 1, none⟩ y).setCell ⟨g, 2, none⟩ z).setCell ⟨g, 3, none⟩ u) :=
  ((((h.setCell (p := ⟨g, 0, none⟩) hg _).setCell (p := ⟨g, 1, none⟩) hg _).setCell (p := ⟨g, 2, none⟩) hg _).setCell (p := ⟨g, 3, none⟩) hg _)
theorem own_four {w : World} {g B z n : Nat} {e : TypeId} {v : Value} {xs : List Value} (h : w.ownsRow B e z v n xs) (hne : v.ownBlock ≠ some g) (a b c d : Value) : ((((w.setCell ⟨g, 0, none⟩ a).setCell ⟨g, 1, none⟩ b).setCell ⟨g, 2, none⟩ c).setCell ⟨g, 3, none⟩ d).ownsRow B e z v n xs :=
  ownsRow_fr h (Fr.setCell (S := fun k => k = g) (p := ⟨g, 3, none⟩) (Fr.setCell (S := fun k => k = g) (p := ⟨g, 2, none⟩) (Fr.setCell (S := fun k => k = g) (p := ⟨g, 1, none⟩) (Fr.setCell (S := fun k => k = g) (p := ⟨g, 0, none⟩) (Fr.refl w.heap.size _ w) (fun _ => rfl) _) (fun _ => rfl) _) (fun _ => rfl) _) (fun _ => rfl) _) (fun k hk => ⟨(h.lt k hk).2, fun e => hne (e ▸ hk)⟩)
theorem hasPrefix_str (s p : List UInt8) (w : World) : Calls Tryz.prog 71 #[str s, str p] w fun e w' => e = .returned (.bool (p.isPrefixOf s)) ∧ w' = w := Tryz.strings_HasPrefix ⟨s.toArray⟩ ⟨p.toArray⟩ w
set_option maxHeartbeats 4000000 in
theorem rline_any (s : List UInt8) (w : World) (hm : Ml w) (hs : s.length ≤ 100000) : Calls Tryz.prog 280 #[str s] w (RLineAns s w) := by
  have KC := Hd (fun wl (hb : Below w.heap.size w wl) (x sep : List UInt8) (hx : x.length ≤ s.length) => gcut_any x sep wl (by omega) (hm.below hb (Nat.le_refl _)))
  have KU := Hd (fun wl (x : List UInt8) (hx : x.length ≤ s.length) => unquote_any x wl (by omega))
  have KS := Hd (fun wl (hb : Below w.heap.size w wl) (x : List UInt8) (hx : x.length ≤ s.length) => split_row x 32 wl (hm.below hb (Nat.le_refl _)) (by omega))
  have KX := Hd (fun wl (x p : List UInt8) (hx : x.length ≤ s.length) => cutPrefix_any x p wl)
  obtain ⟨a1, a2⟩ := cut_len s [32, 61, 32]
  obtain ⟨b1, b2⟩ := cut_len (Lib.cut s [32, 61, 32]).2.1 [32]
  have hlb : lineB s = lineB s := rfl
  conv at hlb => rhs; unfold lineB
  have K1 := KC.out _ ((Below.refl w.heap.size w).alloc (Nat.le_refl _) (.cells #[str [], str [], str [], .slice none 0 0] 35)) s [32, 61, 32] (Nat.le_refl _)
  obtain ⟨c1, hc1⟩ : ∃ c, Lib.cut s [32, 61, 32] = c := ⟨_, rfl⟩
  rw [hc1] at a1 a2 b1 b2 hlb K1
  obtain ⟨o, r1, k1⟩ := c1
  simp only at a1 a2 b1 b2 hlb K1
  obtain ⟨c2, hc2⟩ : ∃ c, Lib.cut r1 [32] = c := ⟨_, rfl⟩
  have K2 := KC.out
  have HC2 := Hd hc2
  rw [hc2] at b1 b2 hlb
  obtain ⟨kd, r2, k2⟩ := c2
  simp only at b1 b2 hlb
  have HLB := Hd hlb
  have K1 := Hd K1
  clear hlb hc1 hc2 K2 hm
  go_enter Tryz.func280, Tryz.ntmps280
  go_wp2_with fail
  refine K1.out.mono ?_
  rintro e w2 ⟨rfl, hb2⟩
  have hg2 : RuB w2 w.heap.size [] [] [] (.slice none 0 0) := (hb2.block _ (by simp)).trans (heap_alloc_here _ _)
  have HG2 := Hd hg2
  have HB2 : Hid (Below w.heap.size w w2) := Hd (((Below.refl w.heap.size w).alloc (Nat.le_refl _) _).trans (hb2.mono (by simp)))
  obtain ⟨⟨d0, d1, d2, d3⟩, f0, f1, f2, f3⟩ := four_free hg2
  clear hb2 hg2 K1
  cases k1 with
  | false =>
    have HN : Hid (lineB s = none) := Hd (by rw [HLB.out]; simp)
    go_wp2
    refine bodyPost_ret (scr_ret2 rfl _ _ w.heap.size _ _ _ _ rfl (four_put HG2.out _ _ _ _)) rfl ?_
    exact ⟨(⟨[], [], [], []⟩, .slice none 0 0), false, rfl, ⟨_, _, _, rfl⟩, below_four HB2.out (Nat.le_refl _) _ _ _ _, Or.inr ⟨rfl, HN.out⟩⟩
  | true =>
    obtain ⟨W3, hW3⟩ : ∃ W, w2.setCell ⟨w.heap.size, 0, none⟩ (str o) = W := ⟨_, rfl⟩
    have hg3 : RuB W3 w.heap.size o [] [] (.slice none 0 0) := hW3 ▸ (Kf.heap_setCell_same HG2.out (str o)).trans rfl
    have hb3 : Below w.heap.size w W3 := hW3 ▸ HB2.out.setCell (p := ⟨w.heap.size, 0, none⟩) (Nat.le_refl _) _
    have HW3 := Hd hW3
    have K2 := KC.out W3 hb3 r1 [32] (by omega)
    rw [HC2.out] at K2
    have K2 := Hd K2
    have HB3 := Hd hb3
    have HG3 := Hd hg3
    have hz3 := lt_of_heap hg3
    clear hW3 hg3 hb3
    go_wp2_with fail
    rw [HW3.out]
    refine K2.out.mono ?_
    rintro e w4 ⟨rfl, hb4⟩
    have hg4 : RuB w4 w.heap.size o [] [] (.slice none 0 0) := (hb4.block _ hz3).trans HG3.out
    have HB4 : Hid (Below w.heap.size w w4) := Hd (HB3.out.trans (hb4.mono HB3.out.size))
    obtain ⟨⟨q0, q1, q2, q3⟩, p0, p1, p2, p3⟩ := four_free hg4
    obtain ⟨W5, hW5⟩ : ∃ W, w4.setCell ⟨w.heap.size, 1, none⟩ (str kd) = W := ⟨_, rfl⟩
    have hg5 : RuB W5 w.heap.size o kd [] (.slice none 0 0) := hW5 ▸ (Kf.heap_setCell_same hg4 (str kd)).trans rfl
    have HBW5 : Hid (Below w.heap.size w W5) := Hd (hW5 ▸ HB4.out.setCell (p := ⟨w.heap.size, 1, none⟩) (Nat.le_refl _) _)
    have HGW5 := Hd hg5
    have HW5 := Hd hW5
    clear hb4 hg4 hW5 hg5 K2 d0 d1 d2 d3 f0 f1 f2 f3
    cases k2 with
    | false =>
      have HN : Hid (lineB s = some ⟨o, kd, [], []⟩) := Hd (by rw [HLB.out]; simp)
      go_wp2
      refine bodyPost_ret (scr_ret2 rfl _ _ w.heap.size _ _ _ _ rfl (four_put (by rw [HW5.out]; exact HGW5.out) _ _ _ _)) rfl ?_
      exact ⟨(⟨o, kd, [], []⟩, .slice none 0 0), true, rfl, ⟨_, _, _, rfl⟩, below_four (by rw [HW5.out]; exact HBW5.out) (Nat.le_refl _) _ _ _ _, Or.inl ⟨rfl, HN.out, World.ownsRow_nil _ _ _ _⟩⟩
    | true =>
      have KP := Hd (hasPrefix_str r2 [34] W5)
      cases hpf : ([34] : List UInt8).isPrefixOf r2 with
      | false =>
        rw [hpf] at KP
        have HPF := Hd hpf
        clear hpf
        go_wp2_with fail
        rw [HW5.out]
        refine KP.out.mono ?_
        rintro e w6 ⟨rfl, e6⟩
        have e7 := e6.symm
        subst e7
        clear e6
        have KS5 := Hd (KS.out W5 HBW5.out r2 (by omega))
        have hz5 := lt_of_heap HGW5.out
        go_wp2_with fail
        refine KS5.out.mono ?_
        rintro e w8 ⟨v8, rfl, hown8, hb8⟩
        have hg8 : RuB w8 w.heap.size o kd [] (.slice none 0 0) := (hb8.block _ hz5).trans HGW5.out
        have HB8 : Hid (Below w.heap.size w w8) := Hd (HBW5.out.trans (hb8.mono HBW5.out.size))
        obtain ⟨⟨x0, x1, x2, x3⟩, y0, y1, y2, y3⟩ := four_free hg8
        obtain ⟨a8, c8, hv8, -, -⟩ := id (ownsRow_reads hown8)
        rw [List.length_map] at hv8
        subst hv8
        obtain ⟨W9, hW9⟩ : ∃ W, w8.setCell ⟨w.heap.size, 3, none⟩ (.slice a8 (spl 32 r2).length c8) = W := ⟨_, rfl⟩
        have hg9 : RuB W9 w.heap.size o kd [] (.slice a8 (spl 32 r2).length c8) := hW9 ▸ (Kf.heap_setCell_same hg8 _).trans rfl
        have HO9 : Hid (W9.ownsRow w.heap.size 9 1 (.slice a8 (spl 32 r2).length c8) (spl 32 r2).length ((spl 32 r2).map str)) := Hd (hW9 ▸ ownsRow_fr (ownsRow_base hown8 HBW5.out.size) (Fr.setCell (S := fun k => k = w.heap.size) (p := ⟨w.heap.size, 3, none⟩) (Fr.refl w8.heap.size _ w8) (fun _ => rfl) _) (fun k hk => ⟨(hown8.lt k hk).2, fun e => by have := (hown8.lt k hk).1; omega⟩))
        have HNE9 : Hid ((Value.slice a8 (spl 32 r2).length c8).ownBlock ≠ some w.heap.size) := Hd (fun e => by have h1 := (hown8.lt _ e).1; have := hz5; have : w.heap.size < W5.heap.size := hz5; omega)
        have HB9 : Hid (Below w.heap.size w W9) := Hd (hW9 ▸ HB8.out.setCell (p := ⟨w.heap.size, 3, none⟩) (Nat.le_refl _) _)
        have HG9 := Hd hg9
        have KX9 := Hd (fun wl (hb : Below W9.heap.size W9 wl) => containsS_any [] (spl 32 r2) a8 (spl 32 r2).length c8 wl ((ownsRow_reads HO9.out).below0 hb))
        have HINS : Hid (lineB s = insB o kd [] r2) := Hd (by rw [HLB.out, HPF.out]; simp)
        obtain ⟨⟨z0, z1, z2, z3⟩, t0, t1, t2, t3⟩ := four_free hg9
        have HHB : Hid (∀ wl, Below W9.heap.size W9 wl → RuB wl w.heap.size o kd [] (.slice a8 (spl 32 r2).length c8)) := Hd (fun wl hb => (hb.block _ (lt_of_heap HG9.out)).trans HG9.out)
        have HC9 : Hid (w.heap.size < W9.heap.size) := Hd (lt_of_heap HG9.out)
        clear hown8 hb8 hg8 hg9 KS5
        go_wp2_with fail
        go_region_held3 (fun w' => w'.cell? ⟨w.heap.size, 0, none⟩ = some (str o) ∧ w'.cell? ⟨w.heap.size, 1, none⟩ = some (str kd) ∧ w'.cell? ⟨w.heap.size, 2, none⟩ = some (str []) ∧ w'.cell? ⟨w.heap.size, 3, none⟩ = some (.slice a8 (spl 32 r2).length c8))
          (first | exact (four_free (HHB.out _ (Below.refl _ _))).1 | exact (four_free (HHB.out _ (Below.refl _ _).drew)).1 | exact (four_free (four_put (HHB.out _ (Below.refl _ _)) _ _ _ _)).1 | exact (four_free (four_put (HHB.out _ (Below.refl _ _).drew) _ _ _ _)).1)
          (first
            | (go_at_call 251
               refine (KX9.out _ ?_).mono ?_
               · first | exact Below.refl _ _ | exact (Below.refl _ _).drew
               rintro e w10 ⟨rfl, rfl⟩))
        all_goals
          go_wp2
          refine bodyPost_ret (scr_ret2 rfl _ _ w.heap.size _ _ _ _ rfl (by exact four_put (HHB.out _ (Below.refl _ _)) _ _ _ _)) rfl ?_
          have hins := HINS.out
          unfold insB at hins
          by_cases hm : [] ∈ spl 32 r2
          · rw [decide_eq_true hm]
            rw [if_pos hm] at hins
            exact ⟨(⟨o, kd, [], spl 32 r2⟩, .slice a8 (spl 32 r2).length c8), false, rfl, ⟨_, _, _, rfl⟩, (below_four HB9.out (Nat.le_refl _) _ _ _ _).drew, Or.inr ⟨rfl, hins⟩⟩
          · rw [decide_eq_false hm]
            rw [if_neg hm] at hins
            exact ⟨(⟨o, kd, [], spl 32 r2⟩, .slice a8 (spl 32 r2).length c8), true, rfl, ⟨_, _, _, rfl⟩, (below_four HB9.out (Nat.le_refl _) _ _ _ _).drew, Or.inl ⟨rfl, hins, (own_four HO9.out HNE9.out _ _ _ _).drew⟩⟩
      | true =>
        rw [hpf] at KP
        have HPF := Hd hpf
        clear hpf
        obtain ⟨u1, u2⟩ := unq_len _ (r2.drop 1) [] (Nat.le_refl _)
        simp only [List.length_drop, List.length_nil] at u1 u2
        have KU5 := KU.out W5 r2 (by omega)
        obtain ⟨q, hq⟩ : ∃ q, unqB (r2.drop 1) [] = q := ⟨_, rfl⟩
        have HUQ := Hd hq
        rw [hq] at u1 u2 KU5
        obtain ⟨u, r3, ku⟩ := q
        simp only at u1 u2 KU5
        have KU5 := Hd KU5
        clear hq
        go_wp2_with fail
        rw [HW5.out]
        refine KP.out.mono ?_
        rintro e w6 ⟨rfl, e6⟩
        have e7 := e6.symm
        subst e7
        clear e6
        go_wp2_with fail
        refine KU5.out.mono ?_
        rintro e w6 ⟨rfl, hb6⟩
        have hg6 : RuB w6 w.heap.size o kd [] (.slice none 0 0) := (hb6.block _ (lt_of_heap HGW5.out)).trans HGW5.out
        have HB6 : Hid (Below w.heap.size w w6) := Hd (HBW5.out.trans (hb6.mono HBW5.out.size))
        obtain ⟨⟨x0, x1, x2, x3⟩, y0, y1, y2, y3⟩ := four_free hg6
        obtain ⟨W7, hW7⟩ : ∃ W, w6.setCell ⟨w.heap.size, 2, none⟩ (str u) = W := ⟨_, rfl⟩
        have hg7 : RuB W7 w.heap.size o kd u (.slice none 0 0) := hW7 ▸ (Kf.heap_setCell_same hg6 (str u)).trans rfl
        have HBW7 : Hid (Below w.heap.size w W7) := Hd (hW7 ▸ HB6.out.setCell (p := ⟨w.heap.size, 2, none⟩) (Nat.le_refl _) _)
        have HGW7 := Hd hg7
        have HW7 := Hd hW7
        clear hb6 hg6 hg7 hW7 q0 q1 q2 q3 p0 p1 p2 p3
        have HLB2 : Hid (lineB s = if ku = false then none else if r3 = [] then some ⟨o, kd, u, []⟩ else if ([32] : List UInt8).isPrefixOf r3 = true then insB o kd u (r3.drop 1) else none) := Hd (by
          rw [HLB.out, if_neg (by decide), if_neg (by decide), if_pos HPF.out]
          simp only [HUQ.out])
        cases ku with
        | false =>
          have HN : Hid (lineB s = none) := Hd (by rw [HLB2.out, if_pos rfl])
          go_wp2
          refine bodyPost_ret (scr_ret2 rfl _ _ w.heap.size _ _ _ _ rfl (four_put (by rw [HW7.out]; exact HGW7.out) _ _ _ _)) rfl ?_
          exact ⟨(⟨[], [], [], []⟩, .slice none 0 0), false, rfl, ⟨_, _, _, rfl⟩, below_four (by rw [HW7.out]; exact HBW7.out) (Nat.le_refl _) _ _ _ _, Or.inr ⟨rfl, HN.out⟩⟩
        | true =>
          by_cases hr3 : r3 = []
          · subst hr3
            have HN : Hid (lineB s = some ⟨o, kd, u, []⟩) := Hd (by rw [HLB2.out, if_neg (by decide), if_pos rfl])
            go_wp2
            refine bodyPost_ret (scr_ret2 rfl _ _ w.heap.size _ _ _ _ rfl (four_put (by rw [HW7.out]; exact HGW7.out) _ _ _ _)) rfl ?_
            exact ⟨(⟨o, kd, u, []⟩, .slice none 0 0), true, rfl, ⟨_, _, _, rfl⟩, below_four (by rw [HW7.out]; exact HBW7.out) (Nat.le_refl _) _ _ _ _, Or.inl ⟨rfl, HN.out, World.ownsRow_nil _ _ _ _⟩⟩
          · have hr3a : (r3 == []) = false := by simpa using hr3
            have hr3b : (r3 = []) = False := eq_false hr3
            have KX7 := KX.out W7 r3 [32] (by omega)
            have HR3 := Hd hr3
            cases hsp : ([32] : List UInt8).isPrefixOf r3 with
            | false =>
              rw [hsp] at KX7
              have KX7 := Hd KX7
              have HN : Hid (lineB s = none) := Hd (by rw [HLB2.out, if_neg (by decide), if_neg HR3.out, if_neg (by rw [hsp]; decide)])
              clear hr3 hsp
              go_wp2_with fail
              rw [HW7.out]
              refine KX7.out.mono ?_
              rintro e w8 ⟨rfl, e6⟩
              have e7 := e6.symm
              subst e7
              clear e6
              obtain ⟨⟨z0, z1, z2, z3⟩, t0, t1, t2, t3⟩ := four_free HGW7.out
              go_wp2
              refine bodyPost_ret (scr_ret2 rfl _ _ w.heap.size _ _ _ _ rfl (four_put HGW7.out _ _ _ _)) rfl ?_
              exact ⟨(⟨[], [], [], []⟩, .slice none 0 0), false, rfl, ⟨_, _, _, rfl⟩, below_four HBW7.out (Nat.le_refl _) _ _ _ _, Or.inr ⟨rfl, HN.out⟩⟩
            | true =>
              rw [hsp] at KX7
              have HSP := Hd hsp
              obtain ⟨r4, hr4⟩ : ∃ r4, r3.drop 1 = r4 := ⟨_, rfl⟩
              have HR4 := Hd hr4
              have hl4 : r4.length ≤ r3.length := by rw [← hr4, List.length_drop]; omega
              have KX8 : Calls Tryz.prog 309 #[str r3, str [32]] W7 fun e w' => e = .returned (.tuple #[str r4, .bool true]) ∧ w' = W7 := hr4 ▸ KX7
              have KX9 := Hd KX8
              clear KX7 KX8 hr3 hsp hr4
              go_wp2_with fail
              rw [HW7.out]
              refine KX9.out.mono ?_
              rintro e w8 ⟨rfl, e6⟩
              have e7 := e6.symm
              subst e7
              clear e6
              have KS5 := Hd (KS.out W7 HBW7.out r4 (by omega))
              have hz5 := lt_of_heap HGW7.out
              go_wp2_with fail
              refine KS5.out.mono ?_
              rintro e w8 ⟨v8, rfl, hown8, hb8⟩
              have hg8 : RuB w8 w.heap.size o kd u (.slice none 0 0) := (hb8.block _ hz5).trans HGW7.out
              have HB8 : Hid (Below w.heap.size w w8) := Hd (HBW7.out.trans (hb8.mono HBW7.out.size))
              obtain ⟨⟨x0, x1, x2, x3⟩, y0, y1, y2, y3⟩ := four_free hg8
              obtain ⟨a8, c8, hv8, -, -⟩ := id (ownsRow_reads hown8)
              rw [List.length_map] at hv8
              subst hv8
              obtain ⟨W9, hW9⟩ : ∃ W, w8.setCell ⟨w.heap.size, 3, none⟩ (.slice a8 (spl 32 r4).length c8) = W := ⟨_, rfl⟩
              have hg9 : RuB W9 w.heap.size o kd u (.slice a8 (spl 32 r4).length c8) := hW9 ▸ (Kf.heap_setCell_same hg8 _).trans rfl
              have HO9 : Hid (W9.ownsRow w.heap.size 9 1 (.slice a8 (spl 32 r4).length c8) (spl 32 r4).length ((spl 32 r4).map str)) := Hd (hW9 ▸ ownsRow_fr (ownsRow_base hown8 HBW7.out.size) (Fr.setCell (S := fun k => k = w.heap.size) (p := ⟨w.heap.size, 3, none⟩) (Fr.refl w8.heap.size _ w8) (fun _ => rfl) _) (fun k hk => ⟨(hown8.lt k hk).2, fun e => by have := (hown8.lt k hk).1; omega⟩))
              have HNE9 : Hid ((Value.slice a8 (spl 32 r4).length c8).ownBlock ≠ some w.heap.size) := Hd (fun e => by have h1 := (hown8.lt _ e).1; have := hz5; have : w.heap.size < W7.heap.size := hz5; omega)
              have HB9 : Hid (Below w.heap.size w W9) := Hd (hW9 ▸ HB8.out.setCell (p := ⟨w.heap.size, 3, none⟩) (Nat.le_refl _) _)
              have HG9 := Hd hg9
              have KX9 := Hd (fun wl (hb : Below W9.heap.size W9 wl) => containsS_any [] (spl 32 r4) a8 (spl 32 r4).length c8 wl ((ownsRow_reads HO9.out).below0 hb))
              have HINS : Hid (lineB s = insB o kd u r4) := Hd (by rw [HLB2.out, if_neg (by decide), if_neg HR3.out, if_pos HSP.out, HR4.out])
              obtain ⟨⟨z0, z1, z2, z3⟩, t0, t1, t2, t3⟩ := four_free hg9
              have HHB : Hid (∀ wl, Below W9.heap.size W9 wl → RuB wl w.heap.size o kd u (.slice a8 (spl 32 r4).length c8)) := Hd (fun wl hb => (hb.block _ (lt_of_heap HG9.out)).trans HG9.out)
              have HC9 : Hid (w.heap.size < W9.heap.size) := Hd (lt_of_heap HG9.out)
              clear hown8 hb8 hg8 hg9 KS5
              go_wp2_with fail
              go_region_held3 (fun w' => w'.cell? ⟨w.heap.size, 0, none⟩ = some (str o) ∧ w'.cell? ⟨w.heap.size, 1, none⟩ = some (str kd) ∧ w'.cell? ⟨w.heap.size, 2, none⟩ = some (str u) ∧ w'.cell? ⟨w.heap.size, 3, none⟩ = some (.slice a8 (spl 32 r4).length c8))
                (first | exact (four_free (HHB.out _ (Below.refl _ _))).1 | exact (four_free (HHB.out _ (Below.refl _ _).drew)).1 | exact (four_free (four_put (HHB.out _ (Below.refl _ _)) _ _ _ _)).1 | exact (four_free (four_put (HHB.out _ (Below.refl _ _).drew) _ _ _ _)).1)
                (first
                  | (go_at_call 251
                     refine (KX9.out _ ?_).mono ?_
                     · first | exact Below.refl _ _ | exact (Below.refl _ _).drew
                     rintro e w10 ⟨rfl, rfl⟩))
              all_goals
                go_wp2
                refine bodyPost_ret (scr_ret2 rfl _ _ w.heap.size _ _ _ _ rfl (by exact four_put (HHB.out _ (Below.refl _ _)) _ _ _ _)) rfl ?_
                have hins := HINS.out
                unfold insB at hins
                by_cases hm : [] ∈ spl 32 r4
                · rw [decide_eq_true hm]
                  rw [if_pos hm] at hins
                  exact ⟨(⟨o, kd, u, spl 32 r4⟩, .slice a8 (spl 32 r4).length c8), false, rfl, ⟨_, _, _, rfl⟩, (below_four HB9.out (Nat.le_refl _) _ _ _ _).drew, Or.inr ⟨rfl, hins⟩⟩
                · rw [decide_eq_false hm]
                  rw [if_neg hm] at hins
                  exact ⟨(⟨o, kd, u, spl 32 r4⟩, .slice a8 (spl 32 r4).length c8), true, rfl, ⟨_, _, _, rfl⟩, (below_four HB9.out (Nat.le_refl _) _ _ _ _).drew, Or.inl ⟨rfl, hins, (own_four HO9.out HNE9.out _ _ _ _).drew⟩⟩
theorem OwnAt.more {B : Nat} {w wa w' : World} {v v' : Value} {R Rl : List RV} (h : OwnAt B w v R) (hl : ∀ x ∈ Rl, w.ownsRow B 9 1 x.2 x.1.ins.length (x.1.ins.map str) ∧ ∀ k, x.2.ownBlock = some k → v.ownBlock ≠ some k)
    (ho : w'.ownsRow B 35 4 v' (R.length + Rl.length) ((R.map rvRow).flatten ++ (Rl.map rvRow).flatten)) (hwa : Below w.heap.size w wa) (hg : wa.grownBy w' v.ownBlock) (hloc : v'.ownBlock = v.ownBlock ∨ v'.ownBlock = some wa.heap.size) : OwnAt B w' v' (R ++ Rl) := by
  have hfr := Fr.of_grown hg
  have hz := hwa.size
  refine ⟨by rw [List.map_append, List.flatten_append, List.length_append]; exact ho, fun x hx => ?_⟩
  have hx' : w.ownsRow B 9 1 x.2 x.1.ins.length (x.1.ins.map str) ∧ ∀ k, x.2.ownBlock = some k → v.ownBlock ≠ some k := (List.mem_append.1 hx).elim (h.2 x) (hl x)
  refine ⟨ownsRow_fr (row_below hx'.1 hwa) hfr (fun k hk => ⟨by have := (hx'.1.lt k hk).2; omega, hx'.2 k hk⟩), fun k hk e => ?_⟩
  rcases hloc with h1 | h1
  · rw [h1] at e; exact hx'.2 k hk e
  · rw [h1] at e
    have h2 := Option.some.inj e
    have h3 := (hx'.1.lt k hk).2
    omega
def RReadAns (S : Nat → Addr) (s : List UInt8) (w : World) (e : Ending) (w' : World) : Prop :=
  (readB s = none ∧ ∃ g i, e = .returned (.tuple #[.slice none 0 0, .iface 220 (.pointer (some ⟨g, 0, none⟩))]) ∧ w'.heap[g]? = some (.cells #[.int .i64 i, errI (S 0)] 222 (0, 0))) ∨
  (∃ l T x, readB s = some l ∧ e = .returned (.tuple #[.slice none 0 0, .iface T x]) ∧ SheetBad S l w.heap.size (.iface T x) w') ∨
  (∃ l v R, readB s = some l ∧ RightS l ∧ R.map Prod.fst = l ∧ e = .returned (.tuple #[v, .nilIface]) ∧ OwnAt w.heap.size w' v R)
theorem OwnAt.base {B B' : Nat} {w : World} {v : Value} {R : List RV} (h : OwnAt B' w v R) (hB : B ≤ B') : OwnAt B w v R := ⟨ownsRow_base h.1 hB, fun x hx => ⟨ownsRow_base (h.2 x hx).1 hB, (h.2 x hx).2⟩⟩
theorem SheetBad.base {S : Nat → Addr} {l : List RuleL} {B B' : Nat} {err : Value} {w : World} (h : SheetBad S l B' err w) (hB : B ≤ B') : SheetBad S l B err w := by
  rcases h with h | ⟨h0, i, r, m, g, h1, h2, h3, h4, h5, h6⟩
  · exact Or.inl h
  · exact Or.inr ⟨h0, i, r, m, g, h1, h2, h3, h4, Nat.le_trans hB h5, h6⟩
theorem alloc2_here (w : World) (A B : Obj) : ((w.alloc A).alloc B).heap[w.heap.size + 1]? = some B := by
  have h := heap_alloc_here (w.alloc A) B
  rwa [show (w.alloc A).heap.size = w.heap.size + 1 by simp] at h
theorem lines_step {p q : List UInt8} {l : List (List UInt8)} {r : RuleL} (h : lineB p = some r) : rlinesB (p :: q :: l) = (rlinesB (q :: l)).map (fun t => r :: t) := by
  conv => lhs; unfold rlinesB
  rw [h]
theorem lines_stop {p q : List UInt8} {l : List (List UInt8)} (h : lineB p = none) : rlinesB (p :: q :: l) = none := by
  unfold rlinesB
  rw [h]
theorem lines_last {p : List UInt8} (h : p ≠ []) : rlinesB [p] = none := by
  unfold rlinesB
  rw [if_neg h]
set_option maxHeartbeats 600000 in
theorem rread_any {S : Nat → Addr} (s : List UInt8) (w : World) (hs : s.length ≤ 999) (hm : Ml w) (hE : BErr w S) (hN : NErr w) (ht : Tab w) (hT : w.cell? ⟨9, 0, none⟩ = some (errV (S 0))) :
    Calls Tryz.prog 247 #[str s] w fun e w' => RReadAns S s w e w' ∧ Below w.heap.size w w' := by
  have hsc : ((s.length : Int) > 10000) = False := eq_false (by omega)
  have hsc2 : ((10000 : Int) < s.length) = False := eq_false (by omega)
  have K1 := Hd (split_row s 10 w hm (by omega))
  have hpn : (spl 10 s).length ≤ 1000 := by have := spl_length_le 10 s; omega
  have hp0 := spl_length_pos 10 s
  have hpl : ∀ p ∈ spl 10 s, p.length ≤ 999 := fun p hp => by have := spl_mem_len 10 s p hp; omega
  have hrd : readB s = rlinesB (spl 10 s) := rfl
  generalize spl 10 s = ps at *
  have KL := Hd (fun wl (hb : Below w.heap.size w wl) (p : List UInt8) (hp : p ∈ ps) => rline_any p wl (hm.below hb (Nat.le_refl _)) (by have := hpl p hp; omega))
  have KSH := Hd (fun wl (hb : Below w.heap.size w wl) (R : List RV) (v : Value) (hR : RulesAt wl v R) (hc : Roomy v) hbd hn => sheet_any R v wl S hR hc (hm.below hb (Nat.le_refl _)) (hE.below hb).k (hN.below hb (Nat.le_refl _)) (tab_below ht hb (Nat.le_refl _)) hbd hn)
  have HTX : Hid (∀ wl, Below w.heap.size w wl → wl.cell? ⟨9, 0, none⟩ = some (errV (S 0))) := Hd (fun wl hb => (hb.cell (lt_of_cell hT)).trans hT)
  have HPN := Hd hpn
  have HPL := Hd hpl
  have HRD := Hd hrd
  clear hm hE hN ht hT hpl hrd
  go_enter Tryz.func247, Tryz.ntmps247
  go_wp2_with fail
  refine K1.out.mono ?_
  rintro e w2 ⟨v, rfl, hown, hb2⟩
  have HB2 := Hd hb2
  have HOW := Hd hown
  obtain ⟨av, cv, hv, -, -⟩ := id (ownsRow_reads hown)
  rw [List.length_map] at hv
  subst hv
  clear hown hb2 K1
  go_wp2_with fail
  go_loopw [5, 19] (fun ov iv wl => ∃ (i : Nat) (R : List RV), i < ps.length ∧ R.length = i ∧ iv = .int .i64 i ∧ OwnAt w2.heap.size wl ov R ∧ rlinesB ps = (rlinesB (ps.drop i)).map (R.map Prod.fst ++ ·) ∧ (∀ x ∈ R, RuleIn 999 x.1) ∧ Below w.heap.size w wl ∧ Below w2.heap.size w2 wl) (fun _ iv _ => ps.length - (intOf iv).toNat)
  case atStart => exact ⟨0, [], by omega, rfl, rfl, ⟨World.ownsRow_nil _ _ _ _, fun x hx => by cases hx⟩, by simp, (fun x hx => by cases hx), HB2.out, Below.refl _ _⟩
  case round =>
    obtain ⟨i, R, hi, hRl, rfl, hown, hlin, hin, hb, hbr⟩ := hrel
    have HRl := Hd hRl
    clear hRl
    have HO := Hd hown
    have HLIN := Hd hlin
    have HIN := Hd hin
    have HB := Hd hb
    have HBR := Hd hbr
    have hzb := hb.size
    have hlc : ((i : Int) < (ps.length : Int)) = True := eq_true (by omega)
    obtain ⟨bx, ox, hix, hce⟩ := ((ownsRow_reads HOW.out).below0 hbr).at (P := Tryz.prog) Tryz.underlying33 (by kernel_rfl) i (by simpa using hi)
    simp only [List.getElem_map] at hce
    have HD := Hd (List.drop_eq_getElem_cons hi)
    have K := KL.out wr hb ps[i] (List.getElem_mem hi)
    have HPI := Hd (HPL.out _ (List.getElem_mem hi))
    generalize ps[i] = p at *
    have HK := Hd K
    clear K hown hlin hin hb hbr
    by_cases hlast : i + 1 = ps.length
    · have hil : ((i : Int) == (ps.length : Int) - 1) = true := by simp; omega
      have hil2 : ((i : Int) = (ps.length : Int) - 1) = True := eq_true (by omega)
      have HDN : Hid (ps.drop (i + 1) = []) := Hd (List.drop_eq_nil_of_le (by omega))
      by_cases hpe : p = []
      · subst hpe
        have HRB : Hid (readB s = some (R.map Prod.fst)) := Hd (by
          rw [HRD.out, HLIN.out, HD.out, HDN.out]
          show (rlinesB [[]]).map (R.map Prod.fst ++ ·) = _
          unfold rlinesB
          simp)
        have KS2 := Hd (KSH.out wr HB.out R _ HO.out.rules.1 HO.out.rules.2 (fun x hx => by
          obtain ⟨h1, h2, h3, h4, h5⟩ := HIN.out x hx
          exact ⟨by omega, by omega, fun s hs => by have := h4 s hs; omega, by omega⟩) (by have := HPN.out; have := HRl.out; omega))
        obtain ⟨ao, co, hvo, -, -⟩ := id HO.out.rules.1.1
        rw [List.length_map] at hvo
        subst hvo
        go_wp2_with fail
        refine KS2.out.mono ?_
        rintro e w4 ⟨hs, hb4⟩
        have HB4 := Hd (HB.out.trans (hb4.mono hzb))
        rcases sheet_split hs with ⟨hrs, rfl⟩ | ⟨T, x, rfl, hbad⟩
        · have HRS := Hd hrs
          have HO4 := Hd (HO.out.fr hb4)
          clear hs hrs hb4 hix hce
          go_wp2
          go_ret2
          exact ⟨Or.inr (Or.inr ⟨_, _, R, HRB.out, HRS.out, rfl, rfl, HO4.out.base HB2.out.size⟩), HB4.out⟩
        · have HBAD := Hd hbad
          clear hs hbad hb4 hix hce
          go_wp2
          go_ret2
          exact ⟨Or.inr (Or.inl ⟨_, T, x, HRB.out, rfl, HBAD.out.base hzb⟩), HB4.out⟩
      · have HNO : Hid (readB s = none) := Hd (by
          rw [HRD.out, HLIN.out, HD.out, HDN.out, lines_last hpe]
          rfl)
        have hpe1 : (p == []) = false := by simpa using hpe
        have hpe2 : (p = []) = False := eq_false hpe
        clear hpe
        go_wp2_with fail
        refine HK.out.mono ?_
        rintro e w4 ⟨⟨xr, xv⟩, b, rfl, ⟨ax, nx, cx, hvx⟩, hb4, -⟩
        simp only at hvx
        subst hvx
        have HB6 : Hid (Below w.heap.size w (w4.alloc (.cells #[str xr.out, str xr.kind, str xr.word, .slice ax nx cx] 35))) := Hd ((HB.out.trans (hb4.mono hzb)).alloc (Nat.le_trans hzb hb4.size) _)
        have c0 := HTX.out _ HB6.out
        clear hb4 hix hce
        cases b
        all_goals
          go_wp2_with fail
          go_region
          all_goals
            go_wp2
            go_ret2
            exact ⟨Or.inl ⟨HNO.out, _, _, rfl, alloc2_here _ _ _⟩, (HB6.out.alloc HB6.out.size _).drew⟩
    · have hil : ((i : Int) == (ps.length : Int) - 1) = false := by simp; omega
      have hil2 : ((i : Int) = (ps.length : Int) - 1) = False := eq_false (by omega)
      have hi1 : i + 1 < ps.length := by omega
      have HDN := Hd (List.drop_eq_getElem_cons hi1)
      go_wp2_with fail
      refine HK.out.mono ?_
      rintro e w4 ⟨⟨xr, xv⟩, b, rfl, ⟨ax, nx, cx, hvx⟩, hb4, ⟨rfl, hlx, hxo⟩ | ⟨rfl, hlx⟩⟩
      · have HLX := Hd hlx
        have HXO := Hd hxo
        have HO4 := Hd (HO.out.fr hb4)
        have HB4 := Hd (HB.out.trans (hb4.mono hzb))
        have HBR4 := Hd (HBR.out.trans (hb4.mono HBR.out.size))
        have HNE : Hid (∀ k, xv.ownBlock = some k → wr.heap.size ≤ k) := Hd (fun k hk => (hxo.lt k hk).1)
        simp only at hvx
        subst hvx
        have hnx := (ownsRow_reads hxo).len
        replace hnx : nx = xr.ins.length := hnx.trans (List.length_map _)
        subst hnx
        clear hlx hxo hb4 hix hce
        have hb5 : Below w.heap.size w (w4.alloc (.cells #[str xr.out, str xr.kind, str xr.word, .slice ax xr.ins.length cx] 35)) := HB4.out.alloc HB4.out.size _
        have HSZ : Hid (w.heap.size ≤ w4.heap.size) := Hd HB4.out.size
        have HRB := Hd hb5
        clear hb5
        go_wp2_with (first
          | (at_builtin
             refine wpList_appK _ rfl _ _ 22 rfl tyRules w2.heap.size _ R.length (R.map rvRow).flatten rfl ((HO4.out.1.alloc _).alloc _) ⟨w4.heap.size + 1, 0, none⟩ 1 1 [str xr.out, str xr.kind, str xr.word, .slice ax xr.ins.length cx] rfl rfl ?_ ?_ (by decide) ?_ ?_ ?_
             · intro j u hj
               rw [addr_add rfl]
               show World.cell? _ ⟨w4.heap.size + 1, 0 + j, none⟩ = _
               rw [Nat.zero_add, cell_of_heap (alloc2_here w4 _ _)]
               simpa using hj
             · intro u hu; simp at hu; rcases hu with rfl | rfl | rfl | rfl <;> rfl
             · have := HRl.out; have := HPN.out; omega
             · have := HBR4.out.size; simp; omega
             intro v6 w6 ho6 hg6 hloc6))
        have hwa : Below w4.heap.size w4 ((w4.alloc (.cells #[str xr.out, str xr.kind, str xr.word, .slice ax xr.ins.length cx] 35)).alloc (.cells #[str xr.out, str xr.kind, str xr.word, .slice ax xr.ins.length cx] 35)) := ((Below.refl _ w4).alloc (Nat.le_refl _) _).alloc (by simp) _
        have HO6 : Hid (OwnAt w2.heap.size w6 v6 (R ++ [(xr, .slice ax xr.ins.length cx)])) := Hd (OwnAt.more HO4.out (fun x hx => by
          obtain rfl := List.mem_singleton.1 hx
          exact ⟨ownsRow_base HXO.out HBR.out.size, fun k hk e => by have h1 := HNE.out k hk; have h2 := (HO.out.1.lt k e).2; omega⟩) (by simpa [rvRow] using ho6) hwa hg6 hloc6)
        have hbw := HSZ.out
        have HB6 : Hid (Below w.heap.size w w6) := Hd ((HB4.out.trans (hwa.mono hbw)).grown hg6 (by simp; omega) (fun q hq => by have h1 := (HO4.out.1.lt q hq).1; have h2 := HB2.out.size; omega))
        have HBR6 : Hid (Below w2.heap.size w2 w6) := Hd ((HBR4.out.trans (hwa.mono HBR4.out.size)).grown hg6 (by have := HBR4.out.size; simp; omega) (fun q hq => (HO4.out.1.lt q hq).1))
        have HLN6 : Hid (rlinesB ps = (rlinesB (ps.drop (i + 1))).map ((R ++ [(xr, Value.slice ax xr.ins.length cx)]).map Prod.fst ++ ·)) := Hd (by
          rw [HLIN.out, HD.out, HDN.out, lines_step HLX.out, Option.map_map, List.map_append]
          congr 1
          funext t
          simp)
        have HIN6 : Hid (∀ x ∈ R ++ [(xr, Value.slice ax xr.ins.length cx)], RuleIn 999 x.1) := Hd (fun x hx => by
          rcases List.mem_append.1 hx with hx | hx
          · exact HIN.out x hx
          · obtain rfl := List.mem_singleton.1 hx
            exact line_in HLX.out HPI.out)
        have hrl := HRl.out
        clear ho6 hg6 hloc6 hwa
        go_roundw
        case rel => exact ⟨i + 1, R ++ [(xr, .slice ax xr.ins.length cx)], hi1, by rw [List.length_append, hrl]; rfl, by go_num, HO6.out, HLN6.out, HIN6.out, HB6.out, HBR6.out⟩
        case measure => simp [intOf]; omega
      · have HNO : Hid (readB s = none) := Hd (by
          rw [HRD.out, HLIN.out, HD.out, HDN.out, lines_stop hlx]
          rfl)
        simp only at hvx
        subst hvx
        have HB6 : Hid (Below w.heap.size w (w4.alloc (.cells #[str xr.out, str xr.kind, str xr.word, .slice ax nx cx] 35))) := Hd ((HB.out.trans (hb4.mono hzb)).alloc (Nat.le_trans hzb hb4.size) _)
        have c0 := HTX.out _ HB6.out
        clear hb4 hix hce hlx
        go_wp2_with fail
        go_region
        all_goals
         go_wp2
         go_ret2
         exact ⟨Or.inl ⟨HNO.out, _, _, rfl, alloc2_here _ _ _⟩, (HB6.out.alloc HB6.out.size _).drew⟩
end Go.Proofs.YtgjialbmlhbngaaGreatDoor
