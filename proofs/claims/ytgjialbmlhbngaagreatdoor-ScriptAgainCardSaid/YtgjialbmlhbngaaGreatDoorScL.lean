/-
  Scripts' lines: lineOf. The walk of the law ScriptAgain.
-/
import Derived.Test.YtgjialbmlhbngaaGreatDoorScK
import Derived.Test.YtgjialbmlhbngaaGreatDoorPkF
import Derived.Deep.RegionHeld3
import Derived.Test.YtgjialbmlhbngaaGreatDoorScG
import Derived.Test.YtgjialbmlhbngaaGreatDoorPkH

set_option maxRecDepth 100000
namespace Go.Proofs.YtgjialbmlhbngaaGreatDoor
open Go Go.RowKit Go.Kf Go.Sort Go.Proofs
theorem row_len {l : List (List UInt8)} {m n : Nat} (h : FewTexts l m n) : (Lib.join l [32]).length ≤ n + m := by
  have h1 := join_sum l
  obtain ⟨a, -, b⟩ := h
  omega
set_option maxHeartbeats 2000000 in
theorem lineOf_any (x : Ln) (w : World) (h : LnIn w x) (hs : ShortL x) :
    Calls Tryz.prog 59 #[lnV x] w fun e w' => ∃ s b, e = .returned (.tuple #[str s, .bool b]) ∧ (b = true → s.length ≤ 990) ∧ Below w.heap.size w w' := by
  obtain ⟨wd, P, pv, tx, ⟨⟨o, kd, rw', ins⟩, rv⟩⟩ := x
  obtain ⟨hp, hi⟩ := h
  simp only [lnV] at hp hi ⊢
  obtain ⟨ap, cp, hpv, -, -⟩ := id hp
  obtain ⟨ar, cr, hrv, -, -⟩ := id hi
  rw [List.length_map] at hpv hrv
  subst hpv hrv
  obtain ⟨hs1, hs2, hs3, hs4⟩ := hs
  simp only at hs1 hs2 hs3 hs4
  obtain ⟨B, hB⟩ : ∃ B, w.heap.size = B := ⟨_, rfl⟩
  obtain ⟨W1, hW1⟩ : ∃ W, w.alloc (.cells #[str wd, .slice ap P.length cp, str tx, str o, str kd, str rw', .slice ar ins.length cr] 108) = W := ⟨_, rfl⟩
  have hA1 : Below w.heap.size w W1 := hW1 ▸ (Below.refl _ w).alloc (Nat.le_refl _) _
  have hz1 : W1.heap.size = w.heap.size + 1 := by rw [← hW1]; simp
  have hg1 : W1.heap[B]? = some (.cells #[str wd, .slice ap P.length cp, str tx, str o, str kd, str rw', .slice ar ins.length cr] 108 (0, 0)) := by
    rw [← hW1, ← hB]; exact heap_alloc_here w _
  have HC := Hd (fun wl (hb : Below W1.heap.size W1 wl) => (by
    have hh : wl.heap[B]? = _ := (hb.block B (by omega)).trans hg1
    have hc : ∀ k, wl.cell? ⟨B, k, none⟩ = (#[str wd, .slice ap P.length cp, str tx, str o, str kd, str rw', .slice ar ins.length cr] : Array Value)[k]? := fun k => cell_of_heap hh k
    exact ⟨hc 0, hc 1, hc 2, hc 3, hc 4, hc 5, hc 6⟩ : wl.cell? ⟨B, 0, none⟩ = some (str wd) ∧ wl.cell? ⟨B, 1, none⟩ = some (.slice ap P.length cp) ∧ wl.cell? ⟨B, 2, none⟩ = some (str tx) ∧
      wl.cell? ⟨B, 3, none⟩ = some (str o) ∧ wl.cell? ⟨B, 4, none⟩ = some (str kd) ∧ wl.cell? ⟨B, 5, none⟩ = some (str rw') ∧ wl.cell? ⟨B, 6, none⟩ = some (.slice ar ins.length cr)))
  have HP := Hd (fun wl (hb : Below W1.heap.size W1 wl) => (hp.below0 (hA1.trans (hb.mono hA1.size)) : Reads wl (.slice ap P.length cp) (P.map str)))
  have HI := Hd (fun wl (hb : Below W1.heap.size W1 wl) => (hi.below0 (hA1.trans (hb.mono hA1.size)) : Reads wl (.slice ar ins.length cr) (ins.map str)))
  have HA := Hd (fun wl (hb : Below W1.heap.size W1 wl) => (hA1.trans (hb.mono hA1.size) : Below w.heap.size w wl))
  have hjl := row_len hs3
  obtain ⟨jn, hjn⟩ : ∃ j, Lib.join P [32] = j := ⟨_, rfl⟩
  have KJ := Hd (fun wl (hb : Below W1.heap.size W1 wl) => (by
    refine (rjoined_any P _ wl (HP.out wl hb) (by have := hs3.1; omega) (fun s hs => by have := hs3.2.1 s hs; omega)).mono ?_
    rintro e w' ⟨rfl, rfl⟩
    rw [hjn]
    exact ⟨rfl, hb⟩ : Calls Tryz.prog 122 #[.slice ap P.length cp] wl fun e w' => e = .returned (str jn) ∧ Below W1.heap.size W1 w'))
  rw [hjn] at hjl
  have KS := Hd (fun wl (hb : Below W1.heap.size W1 wl) => (by
    refine (swapped_any tx wl (by omega)).mono ?_
    rintro e w' ⟨t, rfl, ht, hb2⟩
    exact ⟨t, rfl, by omega, hb.trans (hb2.mono hb.size)⟩ : Calls Tryz.prog 123 #[str tx, .int .u8 10, .int .u8 59] wl fun e w' => ∃ t, e = .returned (str t) ∧ t.length ≤ 300 ∧ Below W1.heap.size W1 w'))
  have HP6 : Hid (P.length ≤ 6 ∧ ∀ s ∈ P, s.length ≤ 300) := Hd ⟨hs3.1, hs3.2.1⟩
  have HR4 := Hd hs4
  have HJN := Hd hjn
  have HW1 := Hd hW1
  have HZ1 := Hd hz1
  have HBB := Hd hB
  clear hp hi hs3 hs4 hA1 hg1 hjn hz1
  go_enter Tryz.func59, Tryz.ntmps59
  go_wp2_with fail
  clear hW1
  go_loopw [4] (fun iv wl => ∃ i : Nat, i ≤ P.length ∧ iv = .int .i64 i ∧ Below W1.heap.size W1 wl) (fun iv _ => P.length - (intOf iv).toNat)
  case atStart => exact ⟨0, by omega, rfl, Below.refl _ _⟩
  case round =>
    obtain ⟨i, hi, rfl, hb⟩ := hrel
    have HB := Hd hb
    have hp6 := HP6.out.1
    obtain ⟨k0, k1, k2, k3, k4, k5, k6⟩ := HC.out wr hb
    by_cases hlt : i < P.length
    · have hlc : ((i : Int) < (P.length : Int)) = True := eq_true (by omega)
      obtain ⟨bx, ox, hix, hce⟩ := (HP.out wr hb).at (P := Tryz.prog) Tryz.underlying33 (by kernel_rfl) i (by simpa using hlt)
      simp only [List.getElem_map] at hce
      have hsl := HP6.out.2 _ (List.getElem_mem hlt)
      generalize P[i] = s at *
      have KI := Hd (isPath_any s wr (by omega))
      clear hb hsl
      go_wp2_with fail
      refine KI.out.mono ?_
      rintro e w2 ⟨rfl, hb2⟩
      have HB2 := Hd (HB.out.trans (hb2.mono HB.out.size))
      clear hb2
      cases isPathB s with
      | false =>
        go_wp2
        go_ret2
        exact ⟨[], false, rfl, (fun h => by cases h), HA.out _ HB2.out⟩
      | true =>
        go_wp2
        go_roundw
        case rel => exact ⟨i + 1, by omega, by go_num, HB2.out⟩
        case measure => simp [intOf]; omega
    obtain rfl : i = P.length := by omega
    have hlc : ((P.length : Int) < (P.length : Int)) = False := eq_false (by omega)
    clear hb hlt hi k3 k4 k5 k6
    obtain ⟨b0, hb0⟩ : ∃ b : Bool, ((P.length : Int) == 0) = b := ⟨_, rfl⟩
    obtain ⟨b1, hb1⟩ : ∃ b : Bool, ((P.length : Int) == 1) = b := ⟨_, rfl⟩
    by_cases h5 : wd = [99, 108, 101, 97, 114] ∨ wd = [115, 116, 97, 108, 101] ∨ wd = [111, 114, 100, 101, 114] ∨ wd = [108, 101, 97, 118, 101, 115] ∨ wd = [102, 105, 108, 101, 115]
    · rcases h5 with rfl | rfl | rfl | rfl | rfl
      all_goals
        go_wp2_with fail
        go_quiet (fail)
        have HBN := Hd (below_drewN HB.out nq)
        go_wp2
        go_ret2
        exact ⟨_, _, rfl, (fun _ => by decide), HA.out _ HBN.out⟩
    obtain ⟨g1, g2, g3, g4, g5⟩ : wd ≠ [99, 108, 101, 97, 114] ∧ wd ≠ [115, 116, 97, 108, 101] ∧ wd ≠ [111, 114, 100, 101, 114] ∧ wd ≠ [108, 101, 97, 118, 101, 115] ∧ wd ≠ [102, 105, 108, 101, 115] :=
      ⟨fun h => h5 (Or.inl h), fun h => h5 (Or.inr (Or.inl h)), fun h => h5 (Or.inr (Or.inr (Or.inl h))), fun h => h5 (Or.inr (Or.inr (Or.inr (Or.inl h)))), fun h => h5 (Or.inr (Or.inr (Or.inr (Or.inr h))))⟩
    obtain ⟨a1, c1⟩ := txt_ne g1
    obtain ⟨a2, c2⟩ := txt_ne g2
    obtain ⟨a3, c3⟩ := txt_ne g3
    obtain ⟨a4, c4⟩ := txt_ne g4
    obtain ⟨a5, c5⟩ := txt_ne g5
    clear h5 g1 g2 g3 g4 g5
    by_cases h6 : wd = [109, 97, 107, 101]
    · subst h6
      by_cases hn : P.length = 0
      · have e0 : ((P.length : Int) == 0) = true := by rw [beq_iff_eq]; omega
        have e1 : ((P.length : Int) = 0) = True := eq_true (by omega)
        clear hb0 hb1 hn
        go_wp2
        go_ret2
        exact ⟨_, _, rfl, (fun _ => by decide), HA.out _ HB.out⟩
      · have e0 : ((P.length : Int) == 0) = false := by rw [beq_eq_false_iff_ne]; omega
        have e1 : ((P.length : Int) = 0) = False := eq_false (by omega)
        have ca : (⟨#[109, 97, 107, 101, 32]⟩ : ByteArray) ++ (⟨jn.toArray⟩ : ByteArray) = ⟨([109, 97, 107, 101, 32] ++ jn).toArray⟩ := str_app [109, 97, 107, 101, 32] jn
        have la : ¬ (9223372036854775807 < 5 + jn.length) := by omega
        clear hb0 hb1 hn
        go_wp2_with fail
        refine (KJ.out _ HB.out).mono ?_
        rintro e w2 ⟨rfl, hb2⟩
        have HB2 := Hd hb2
        clear hb2
        go_wp2
        go_ret2
        exact ⟨_, _, rfl, (fun _ => by simp; omega), HA.out _ HB2.out⟩
    obtain ⟨a6, c6⟩ := txt_ne h6
    clear h6
    by_cases h7 : wd = [100, 114, 111, 112] ∨ wd = [115, 104, 111, 119] ∨ wd = [119, 97, 110, 116]
    · obtain ⟨t0, ht0⟩ : ∃ t, wd ++ [32] = t := ⟨_, rfl⟩
      have cb : (⟨wd.toArray⟩ : ByteArray) ++ (⟨#[32]⟩ : ByteArray) = ⟨t0.toArray⟩ := by rw [← ht0]; exact str_app wd [32]
      have ln0 : t0.length ≤ 61 := by rw [← ht0]; simp; omega
      have cc : (⟨t0.toArray⟩ : ByteArray) ++ (⟨jn.toArray⟩ : ByteArray) = ⟨(t0 ++ jn).toArray⟩ := str_app t0 jn
      have la : ¬ (9223372036854775807 < wd.length + 1) := by omega
      have lb : ¬ (9223372036854775807 < t0.length + jn.length) := by omega
      have HT0 := Hd ht0
      clear ht0
      have hw : ((wd == [100, 114, 111, 112]) = true ∧ (wd = [100, 114, 111, 112]) = True) ∨ (((wd == [100, 114, 111, 112]) = false ∧ (wd = [100, 114, 111, 112]) = False) ∧ (wd == [115, 104, 111, 119]) = true ∧ (wd = [115, 104, 111, 119]) = True) ∨
          (((wd == [100, 114, 111, 112]) = false ∧ (wd = [100, 114, 111, 112]) = False) ∧ ((wd == [115, 104, 111, 119]) = false ∧ (wd = [115, 104, 111, 119]) = False) ∧ (wd == [119, 97, 110, 116]) = true ∧ (wd = [119, 97, 110, 116]) = True) := by
        rcases h7 with h | h | h
        · exact Or.inl ⟨by rw [h]; rfl, eq_true h⟩
        · exact Or.inr (Or.inl ⟨txt_ne (by rw [h]; decide), by rw [h]; rfl, eq_true h⟩)
        · exact Or.inr (Or.inr ⟨txt_ne (by rw [h]; decide), txt_ne (by rw [h]; decide), by rw [h]; rfl, eq_true h⟩)
      clear h7
      rcases hw with ⟨a7, c7⟩ | ⟨⟨a7, c7⟩, a8, c8⟩ | ⟨⟨a7, c7⟩, ⟨a8, c8⟩, a9, c9⟩
      all_goals
        go_wp2_with fail
        go_region_held3 (fun w' => w'.cell? ⟨B, 0, none⟩ = some (str wd) ∧ w'.cell? ⟨B, 1, none⟩ = some (.slice ap P.length cp))
          (first | exact (fun h => ⟨h.1, h.2.1⟩) (HC.out _ hb2) | exact (fun h => ⟨h.1, h.2.1⟩) (HC.out _ HB.out) | exact (fun h => ⟨h.1, h.2.1⟩) (HC.out _ HB.out.drew))
          (first
            | (go_at_call 122
               refine (KJ.out _ ?_).mono ?_
               · first | exact HB.out | exact HB.out.drew
               rintro e w2 ⟨rfl, hb2⟩))
        have HB2 := Hd hb2
        clear hb2
        go_wp2
        go_ret2
        exact ⟨_, _, rfl, (fun _ => by rw [List.length_append]; omega), HA.out _ HB2.out⟩
    obtain ⟨a7, c7⟩ := txt_ne (fun h => h7 (Or.inl h))
    obtain ⟨a8, c8⟩ := txt_ne (fun h => h7 (Or.inr (Or.inl h)))
    obtain ⟨a9, c9⟩ := txt_ne (fun h => h7 (Or.inr (Or.inr h)))
    clear h7
    by_cases h10 : wd = [112, 117, 116]
    · subst h10
      obtain ⟨t0, ht0⟩ : ∃ t, [112, 117, 116, 32] ++ jn = t := ⟨_, rfl⟩
      obtain ⟨t1, ht1⟩ : ∃ t, t0 ++ [32] = t := ⟨_, rfl⟩
      have ca : (⟨#[112, 117, 116, 32]⟩ : ByteArray) ++ (⟨jn.toArray⟩ : ByteArray) = ⟨t0.toArray⟩ := by rw [← ht0]; exact str_app [112, 117, 116, 32] jn
      have cb : (⟨t0.toArray⟩ : ByteArray) ++ (⟨#[32]⟩ : ByteArray) = ⟨t1.toArray⟩ := by rw [← ht1]; exact str_app t0 [32]
      have l0 : t0.length ≤ 310 := by rw [← ht0]; simp; omega
      have l1 : t1.length ≤ 311 := by rw [← ht1]; simp; omega
      have la : ¬ (9223372036854775807 < 4 + jn.length) := by omega
      have lb : ¬ (9223372036854775807 < t0.length + 1) := by omega
      have HT0 := Hd ht0
      have HT1 := Hd ht1
      have hcc : ∀ t : List UInt8, (⟨t1.toArray⟩ : ByteArray) ++ (⟨t.toArray⟩ : ByteArray) = ⟨(t1 ++ t).toArray⟩ := fun t => str_app t1 t
      have HCC := Hd hcc
      clear ht0 ht1 hcc
      go_wp2_with fail
      go_region_held3 (fun w' => w'.cell? ⟨B, 1, none⟩ = some (.slice ap P.length cp) ∧ w'.cell? ⟨B, 2, none⟩ = some (str tx))
        (first | exact (fun h => ⟨h.2.1, h.2.2.1⟩) (HC.out _ hb3) | exact (fun h => ⟨h.2.1, h.2.2.1⟩) (HC.out _ hb2) | exact (fun h => ⟨h.2.1, h.2.2.1⟩) (HC.out _ HB.out) | exact (fun h => ⟨h.2.1, h.2.2.1⟩) (HC.out _ HB.out.drew))
        (first
          | (go_at_call 122
             refine (KJ.out _ ?_).mono ?_
             · first | exact HB.out | exact HB.out.drew
             rintro e w2 ⟨rfl, hb2⟩)
          | (go_at_call 123
             refine (KS.out _ ?_).mono ?_
             · first | exact hb2 | exact hb2.drew
             rintro e w3 ⟨t, rfl, htl, hb3⟩
             have cd := HCC.out t
             have lc : ¬ (9223372036854775807 < t1.length + t.length) := by omega))
      have HB3 := Hd hb3
      have HTL := Hd htl
      clear hb2 hb3 htl
      go_wp2
      go_ret2
      exact ⟨_, _, rfl, (fun _ => by rw [List.length_append]; have := HTL.out; omega), HA.out _ HB3.out⟩
    obtain ⟨a10, c10⟩ := txt_ne h10
    clear h10
    by_cases h11 : wd = [114, 117, 108, 101]
    · subst h11
      obtain ⟨-, -, -, k3, k4, k5, k6⟩ := HC.out wr HB.out
      obtain ⟨W2, hW2⟩ : ∃ W, wr.alloc (.cells #[str o, str kd, str rw', .slice ar ins.length cr] 35) = W := ⟨_, rfl⟩
      have hA2 : Below wr.heap.size wr W2 := hW2 ▸ (Below.refl _ wr).alloc (Nat.le_refl _) _
      have hB2 := HB.out.trans (hA2.mono HB.out.size)
      have HSM : Hid (o.length + kd.length + 2 * rw'.length + sumLen ins + ins.length + 8 ≤ 780) := Hd (by
        obtain ⟨h1, h2, h3, h4, h5, h6⟩ := HR4.out
        simp only at h1 h2 h3 h4 h5 h6
        unfold sumLen
        omega)
      have KG := Hd (rsheetText_any o kd rw' ins ar wr.heap.size cr W2 (hW2 ▸ heap_alloc_here wr _) (HI.out W2 hB2) (by have := HSM.out; omega))
      have HB2 := Hd hB2
      clear hA2 hB2
      go_wp2_with fail
      refine KG.out.mono ?_
      rintro e w3 ⟨t, rfl, ht1, ht2, hb3⟩
      obtain ⟨n, hn⟩ : ∃ n, t.length = n + 1 := ⟨t.length - 1, by omega⟩
      have hw1 : IntKind.i64.wrap ((t.length : Int) - 1) = (n : Int) := by rw [hn, show ((n + 1 : Nat) : Int) - 1 = (n : Int) by omega]; exact IntWalk.i64_in _ (by have := HSM.out; omega)
      obtain ⟨t5, ht5⟩ : ∃ t', t.take n = t' := ⟨_, rfl⟩
      have he : (⟨t.toArray⟩ : ByteArray).extract 0 n = ⟨t5.toArray⟩ := by
        rw [← ht5]
        apply ByteArray.ext
        simp only [ByteArray.data_extract, List.extract_toArray, List.extract_eq_take_drop]
        rfl
      have hle1 : ((n : Int) ≤ (t.length : Int)) = True := eq_true (by omega)
      have hle2 : (n ≤ t.length) = True := eq_true (by omega)
      have ca : (⟨#[114, 117, 108, 101, 32]⟩ : ByteArray) ++ (⟨t5.toArray⟩ : ByteArray) = ⟨([114, 117, 108, 101, 32] ++ t5).toArray⟩ := str_app [114, 117, 108, 101, 32] t5
      have l5 : t5.length ≤ 780 := by rw [← ht5, List.length_take]; have := HSM.out; omega
      have la : ¬ (9223372036854775807 < 5 + t5.length) := by omega
      have HB3 := Hd (HB2.out.trans (hb3.mono HB2.out.size))
      obtain ⟨-, m1, -⟩ := HC.out w3 HB3.out
      clear hb3 ht1 ht2 hn ht5 KG
      go_wp2_with fail
      go_quiet (fail)
      have HBN := Hd (below_drewN HB3.out nq)
      go_wp2
      go_ret2
      exact ⟨_, _, rfl, (fun _ => by simp; omega), HA.out _ HBN.out⟩
    obtain ⟨a11, c11⟩ := txt_ne h11
    clear h11
    go_wp2
    go_ret2
    exact ⟨[], false, rfl, (fun h => by cases h), HA.out _ HB.out⟩
theorem reads_pre {w : World} {ad : Option Addr} {n c : Nat} {xs : List Value} (h : Reads w (.slice ad n c) xs) (k c' : Nat) (hk : k ≤ n) : Reads w (.slice ad k c') (xs.take k) := by
  obtain ⟨a, c0, e, hle, hc⟩ := h
  cases e
  refine ⟨ad, c', by rw [List.length_take, Nat.min_eq_left hk], by rw [List.length_take]; omega, fun i u hi => ?_⟩
  rw [List.getElem?_take] at hi
  split at hi
  · exact hc i u hi
  · cases hi
set_option maxHeartbeats 4000000 in
theorem scriptAgain_all (X : List Ln) (v : Value) (cut : Int) (w : World) (S : Nat → Addr) (hr : ReadsK 7 w v (X.map lnRow)) (hi : ∀ x ∈ X, LnIn w x) (hE : SEnv S w) :
    Calls Tryz.prog 8 #[v, .int .i64 cut] w fun e w' => e = .returned (.bool true) ∧ Below w.heap.size w w' := by
  obtain ⟨av, cv, hv, hle, -⟩ := id hr
  rw [List.length_map] at hv hle
  subst hv
  have HL := Hd (fun wl (hb : Below w.heap.size w wl) => readsK_below0 hr (fun r hr => by obtain ⟨x, -, rfl⟩ := List.mem_map.1 hr; simp [lnRow]) hb)
  have HE := Hd hE
  have HI := Hd (fun wl (hb : Below w.heap.size w wl) x hx => (hi x hx).below0 hb)
  have KH := Hd (hello_any w hE)
  clear hr hi hE
  go_enter Tryz.func8, Tryz.ntmps8
  go_wp2_with fail
  refine KH.out.mono ?_
  rintro e w1 ⟨rfl, hb1⟩
  have HB1 := Hd hb1
  clear hb1 KH
  by_cases h40 : 40 < X.length
  · have hc1 : ((X.length : Int) > 40) = True := eq_true (by omega)
    have hc2 : (40 < (X.length : Int)) = True := eq_true (by omega)
    go_wp2
    go_ret
    exact ⟨rfl, HB1.out⟩
  have hc1 : ((X.length : Int) > 40) = False := eq_false (by omega)
  have hc2 : (40 < (X.length : Int)) = False := eq_false (by omega)
  by_cases hneg : cut < 0
  · have hd1 : (cut < 0) = True := eq_true hneg
    go_wp2
    go_ret
    exact ⟨rfl, HB1.out⟩
  obtain ⟨k, rfl⟩ : ∃ k : Nat, cut = (k : Int) := ⟨cut.toNat, by omega⟩
  have hd1 : ((k : Int) < 0) = False := eq_false hneg
  by_cases hbig : X.length < k
  · have hd2 : ((k : Int) > (X.length : Int)) = True := eq_true (by omega)
    have hd3 : ((X.length : Int) < (k : Int)) = True := eq_true (by omega)
    have hd4 : (X.length < k) = True := eq_true hbig
    go_wp2
    go_ret
    exact ⟨rfl, HB1.out⟩
  have hd2 : ((k : Int) > (X.length : Int)) = False := eq_false (by omega)
  have hd3 : ((X.length : Int) < (k : Int)) = False := eq_false (by omega)
  have hd4 : (X.length < k) = False := eq_false hbig
  have HX4 : Hid (X.length ≤ 40) := Hd (by omega)
  clear hneg h40
  go_wp2_with fail
  clear hc1 hc2 hd1 hd2 hd3 hd4
  go_loopw [6, 7, 8] (fun ov nv iv wl => ∃ (i a : Nat) (own : List (List UInt8)), i ≤ X.length ∧ iv = .int .i64 i ∧ nv = .int .i64 a ∧ a ≤ own.length ∧ own.length ≤ i ∧ wl.ownsRow w1.heap.size 9 1 ov own.length (own.map str) ∧ (∀ s ∈ own, s.length ≤ 990) ∧ Below w1.heap.size w1 wl) (fun _ _ iv _ => X.length - (intOf iv).toNat)
  case atStart => exact ⟨0, 0, [], by omega, rfl, rfl, by simp, by simp, World.ownsRow_nil _ _ _ _, (fun s hs => by simp at hs), Below.refl _ _⟩
  case round =>
    obtain ⟨i, a, own, hi, rfl, rfl, ha, hown, hrow, hsh, hb⟩ := hrel
    have HO := Hd hrow
    have HSH := Hd hsh
    have HB := Hd hb
    have HAO : Hid (a ≤ own.length ∧ own.length ≤ i) := Hd ⟨ha, hown⟩
    have hz := hb.size
    obtain ⟨aw, cw, hvw, -, -⟩ := id (ownsRow_reads hrow)
    rw [List.length_map] at hvw
    subst hvw
    have hbw := HB1.out.trans (hb.mono HB1.out.size)
    clear hrow hsh hb ha hown
    by_cases hlt : i < X.length
    · have hlc : ((i : Int) < (X.length : Int)) = True := eq_true (by omega)
      obtain ⟨bx, ox, hix, -, hce⟩ := (HL.out wr hbw).at (P := Tryz.prog) Tryz.underlying105 (by kernel_rfl) i (by simpa using hlt)
      simp only [List.getElem_map] at hce
      have hxi := HI.out wr hbw _ (List.getElem_mem hlt)
      generalize X[i] = x at *
      have KL := Hd (longLine_any x wr hxi)
      have HCE := Hd (fun wl (hb : Below wr.heap.size wr wl) j u (h : (lnRow x)[j]? = some u) => (hb.cell (lt_of_cell (hce j u h))).trans (hce j u h))
      have HXI := Hd (fun wl (hb : Below wr.heap.size wr wl) => hxi.below0 hb)
      have h0 := hce 0 _ rfl
      have h1 := hce 1 _ rfl
      have h2 := hce 2 _ rfl
      have h3 := hce 3 _ rfl
      have h4 := hce 4 _ rfl
      have h5 := hce 5 _ rfl
      have h6 := hce 6 _ rfl
      simp only [Nat.add_zero] at h0
      clear hce hxi hbw
      go_wp2_with fail
      refine KL.out.mono ?_
      rintro e w2 ⟨b, rfl, hsx, hb2⟩
      cases b with
      | true =>
        have HB2 := Hd (HB1.out.trans ((HB.out.trans (hb2.mono hz)).mono HB1.out.size))
        clear hb2 hsx
        go_wp2
        go_ret
        exact ⟨rfl, HB2.out⟩
      | false =>
        have h0 := HCE.out w2 hb2 0 _ rfl
        have h1 := HCE.out w2 hb2 1 _ rfl
        have h2 := HCE.out w2 hb2 2 _ rfl
        have h3 := HCE.out w2 hb2 3 _ rfl
        have h4 := HCE.out w2 hb2 4 _ rfl
        have h5 := HCE.out w2 hb2 5 _ rfl
        have h6 := HCE.out w2 hb2 6 _ rfl
        simp only [Nat.add_zero] at h0
        have KO := Hd (lineOf_any x w2 (HXI.out w2 hb2) (hsx rfl))
        have HB2 := Hd (HB.out.trans (hb2.mono hz))
        have HO2 := Hd (row_below HO.out hb2)
        clear hb2 hsx KL
        go_wp2_with fail
        refine KO.out.mono ?_
        rintro e w3 ⟨s, is, rfl, hsl, hb3⟩
        have HB3 := Hd (HB2.out.trans (hb3.mono HB2.out.size))
        have HO3 := Hd (row_below HO2.out hb3)
        have HSL := Hd hsl
        have hz3 := HB3.out.size
        clear hb3 hsl h0 h1 h2 h3 h4 h5 h6
        cases is with
        | false =>
          by_cases hik : i < k
          · have hk1 : ((i : Int) < (k : Int)) = True := eq_true (by omega)
            go_wp2
            go_roundw
            case rel => exact ⟨i + 1, own.length, own, by omega, by go_num, rfl, Nat.le_refl _, by have := HAO.out.2; omega, HO3.out, HSH.out, HB3.out⟩
            case measure => simp [intOf]; omega
          · have hk1 : ((i : Int) < (k : Int)) = False := eq_false (by omega)
            go_wp2
            go_roundw
            case rel => exact ⟨i + 1, a, own, by omega, by go_num, rfl, HAO.out.1, by have := HAO.out.2; omega, HO3.out, HSH.out, HB3.out⟩
            case measure => simp [intOf]; omega
        | true =>
          by_cases hik : i < k
          · have hk1 : ((i : Int) < (k : Int)) = True := eq_true (by omega)
            go_wp2_with (first
              | (at_builtin
                 refine wpList_app _ rfl _ _ 33 rfl tyStrsK w1.heap.size _ _ _ rfl (HO3.out.alloc _) ⟨w3.heap.size, 0, none⟩ 1 1 [str s] rfl rfl (news_one ?_) ?_ (by decide) ?_ ?_ ?_
                 · rw [cell_of_heap (heap_alloc_here w3 _)]; rfl
                 · intro u hu; simp at hu; subst hu; rfl
                 · have := HAO.out; have := HX4.out; omega
                 · simp; omega
                 intro v6 w6 ho6 hg6 hloc6
                 have HO6 := Hd ho6
                 have HB6 : Hid (Below w1.heap.size w1 w6) := Hd ((HB3.out.alloc hz3 _).grown hg6 (by simp; omega) (fun q hq => (HO3.out.lt q hq).1))
                 obtain ⟨au, cu, hu6, -, -⟩ := id (ownsRow_reads ho6)
                 have hl6 : ((own.map str) ++ [str s]).length = own.length + 1 := by simp
                 rw [hl6] at hu6
                 subst hu6
                 clear ho6 hg6 hloc6 hl6))
            go_wp2
            go_roundw
            case rel => exact ⟨i + 1, own.length + 1, own ++ [s], by omega, by go_num, by go_num, by simp, by have := HAO.out.2; simp; omega, by rw [List.length_append, List.map_append]; exact HO6.out, (fun y hy => by
              rcases List.mem_append.1 hy with hy | hy
              · exact HSH.out y hy
              · rw [List.mem_singleton.1 hy]; exact HSL.out (by first | rfl | trivial)), HB6.out⟩
            case measure => simp [intOf]; omega
          · have hk1 : ((i : Int) < (k : Int)) = False := eq_false (by omega)
            go_wp2_with (first
              | (at_builtin
                 refine wpList_app _ rfl _ _ 33 rfl tyStrsK w1.heap.size _ _ _ rfl (HO3.out.alloc _) ⟨w3.heap.size, 0, none⟩ 1 1 [str s] rfl rfl (news_one ?_) ?_ (by decide) ?_ ?_ ?_
                 · rw [cell_of_heap (heap_alloc_here w3 _)]; rfl
                 · intro u hu; simp at hu; subst hu; rfl
                 · have := HAO.out; have := HX4.out; omega
                 · simp; omega
                 intro v6 w6 ho6 hg6 hloc6
                 have HO6 := Hd ho6
                 have HB6 : Hid (Below w1.heap.size w1 w6) := Hd ((HB3.out.alloc hz3 _).grown hg6 (by simp; omega) (fun q hq => (HO3.out.lt q hq).1))
                 obtain ⟨au, cu, hu6, -, -⟩ := id (ownsRow_reads ho6)
                 have hl6 : ((own.map str) ++ [str s]).length = own.length + 1 := by simp
                 rw [hl6] at hu6
                 subst hu6
                 clear ho6 hg6 hloc6 hl6))
            go_wp2
            go_roundw
            case rel => exact ⟨i + 1, a, own ++ [s], by omega, by go_num, rfl, by have := HAO.out.1; simp; omega, by have := HAO.out.2; simp; omega, by rw [List.length_append, List.map_append]; exact HO6.out, (fun y hy => by
              rcases List.mem_append.1 hy with hy | hy
              · exact HSH.out y hy
              · rw [List.mem_singleton.1 hy]; exact HSL.out (by first | rfl | trivial)), HB6.out⟩
            case measure => simp [intOf]; omega
    · obtain rfl : i = X.length := by omega
      have hlc : ((X.length : Int) < (X.length : Int)) = False := eq_false (by omega)
      have hco : own.length ≤ cw := ownsRow_roomy HO.out _ _ _ rfl
      have HRD := Hd (fun wl (hb : Below wr.heap.size wr wl) => (ownsRow_reads HO.out).below0 hb)
      have HBW := Hd hbw
      have KR := Hd (fun wl (l : List (List UInt8)) (v : Value) (hb : Below wr.heap.size wr wl) (hr : Reads wl v (l.map str)) (hs : ∀ s ∈ l, s.length ≤ 990) => srun_any (S := S) l v wl hr hs (HE.out.below (hbw.trans (hb.mono hbw.size))))
      have h4 := HX4.out
      have hao := HAO.out
      clear hbw hlt hz
      go_wp2_with (first
        | (at_builtin
           refine wpList_appQ _ rfl (.tmp 67) (.tmp 68) 33 rfl tyStrsK w1.heap.size _ _ [] (own.map str) rfl (OwnQ.nil _ _) rfl (HRD.out _ (Below.refl _ _)) ?_ (by decide) ?_ ?_ ?_
           · intro u hu
             obtain ⟨q, -, rfl⟩ := List.mem_map.1 hu
             rfl
           · simp; omega
           · exact HB.out.size
           intro v6 w6 ho6 hg6 hloc6
           rw [List.nil_append] at ho6
           have HR6 := Hd ho6.reads
           have HB6 : Hid (Below wr.heap.size wr w6) := Hd ((Below.refl _ wr).grown hg6 (Nat.le_refl _) (fun q hq => by cases hq))
           clear ho6 hg6 hloc6))
      have K1 := Hd (KR.out w6 own v6 HB6.out HR6.out HSH.out)
      go_wp2_with fail
      refine K1.out.mono ?_
      rintro e w7 (⟨h100, -⟩ | ⟨-, u, r, bb, rfl, hscr, hrow7, hb7⟩)
      · exfalso; omega
      have hrl := hscr.len
      obtain ⟨au, cu, hu, -, -⟩ := id (ownsRow_reads hrow7)
      have hcu : r.length ≤ cu := ownsRow_roomy hrow7 _ _ _ (by rw [hu, List.length_map])
      rw [List.length_map, hrl] at hu
      rw [hrl] at hcu
      subst hu
      have HB7 := Hd (HB6.out.trans (hb7.mono HB6.out.size))
      have HSC := Hd hscr
      have HRL := Hd hrl
      have HR7 := Hd (fun wl (hb : Below w7.heap.size w7 wl) => (ownsRow_reads hrow7).below0 hb)
      have q1 : ((a : Int) ≤ (own.length : Int)) = True := eq_true (by omega)
      have q2 : ((a : Int) ≤ (cw : Int)) = True := eq_true (by omega)
      have q3 : (a ≤ cw) = True := eq_true (by omega)
      have q4 : ((a : Int) ≤ (cu : Int)) = True := eq_true (by omega)
      have q5 : (a ≤ cu) = True := eq_true (by omega)
      have K2 := Hd (KR.out w7 (own.take a) (.slice aw a cw) HB7.out (by rw [List.map_take]; exact reads_pre (HRD.out w7 HB7.out) a cw hao.1) (fun s hs => HSH.out s (List.mem_of_mem_take hs)))
      have HAL : Hid ((own.take a).length = a) := Hd (by rw [List.length_take]; omega)
      clear hscr hrl hrow7 hb7 K1
      go_wp2_with fail
      refine K2.out.mono ?_
      rintro e w8 (⟨h100, -⟩ | ⟨-, u2, r2, b2, rfl, hscr2, hrow8, hb8⟩)
      · exfalso; rw [HAL.out] at h100; omega
      have hrl2 := hscr2.len
      rw [HAL.out] at hrl2
      obtain ⟨au2, cu2, hu2, -, -⟩ := id (ownsRow_reads hrow8)
      rw [List.length_map, hrl2] at hu2
      subst hu2
      obtain ⟨d, hahead⟩ := HSC.out.ahead a hao.1
      obtain ⟨her, -⟩ := hahead.one hscr2
      have KT := Hd (sameTexts0 (.slice au a cu) (.slice au2 a cu2) (r.take a) r2 w8 (by rw [List.map_take]; exact reads_pre (HR7.out w8 hb8) a cu hao.1) (ownsRow_reads hrow8))
      have hbeq : ((r.take a) == r2) = true := by rw [her]; exact beq_self_eq_true _
      rw [hbeq] at KT
      have HB8 := Hd (HBW.out.trans ((HB7.out.trans (hb8.mono HB7.out.size)).mono HBW.out.size))
      have e1 : ((own.length : Int) == (own.length : Int)) = true := by simp
      have e2 : ((a : Int) == (a : Int)) = true := by simp
      clear hscr2 hrl2 hrow8 hb8 hahead her hbeq K2
      go_wp2_with fail
      refine KT.out.mono ?_
      rintro e w9 ⟨rfl, hb9⟩
      have HB9 := Hd (HB8.out.trans (hb9.mono HB8.out.size))
      clear hb9
      go_wp2
      go_ret
      exact ⟨rfl, HB9.out⟩
end Go.Proofs.YtgjialbmlhbngaaGreatDoor
