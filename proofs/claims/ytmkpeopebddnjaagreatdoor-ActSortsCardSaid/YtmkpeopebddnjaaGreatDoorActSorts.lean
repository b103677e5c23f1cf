/-
  The walk of the law ActSorts, where all its texts are short.
-/
import Derived.Test.YtmkpeopebddnjaaGreatDoorActSortsA
namespace Go.Proofs.YtmkpeopebddnjaaGreatDoor
open Go Go.RowKit Go.Kf Go.Sort

set_option maxHeartbeats 4000000 in
set_option maxRecDepth 100000 in
theorem actSorts_main (a b c : List UInt8) (w : World) (hm : Ml w) (ht : Tab w) (ha : a.length ≤ 500) (hb : b.length ≤ 500) (hc : c.length ≤ 500) :
    Calls Tryz.prog 5 #[str a, str b, str c] w fun e w' => e = .returned (.bool true) ∧ Below w.heap.size w w' := by
  obtain ⟨L, C, HS0⟩ := sortsOf a b c ha hb hc
  obtain ⟨xs, ys, zs, us, la, lc, lx, lxa, lu, xl, ul, ⟨r1, n1⟩, ⟨r2, n2⟩, up, cc⟩ := HS0
  have h3 : ∀ p q r : List UInt8, p.length ≤ 500 → q.length ≤ 500 → r.length ≤ 500 → ∀ s ∈ [p, q, r], s.length ≤ 10000 := fun p q r h1 h2 h3 s hs => by
    simp only [List.mem_cons, List.not_mem_nil, or_false] at hs
    rcases hs with rfl | rfl | rfl <;> omega
  have h1x : ∀ s ∈ [endedL L], s.length ≤ 10000 := fun s hs => by
    obtain rfl := List.mem_singleton.1 hs
    omega
  have k1 := run_sort [] [a, b, c] 3 rfl (by decide) (by decide) (Or.inl rfl) (h3 a b c ha hb hc) (by omega)
  have k2 := run_sort [] [c, a, b] 3 rfl (by decide) (by decide) (Or.inl rfl) (h3 c a b hc ha hb) (by omega)
  have k3 := run_sort [] [endedL L] 1 rfl (by decide) (by decide) (Or.inl rfl) h1x (by omega)
  have k4 := run_sort onceB [endedL L] 1 rfl (by decide) (by decide) (Or.inr rfl) h1x (by omega)
  have k5 := run_count [a, b, c] 3 rfl (by decide) (by decide) (h3 a b c ha hb hc)
  have k6 := run_count [endedL L] 1 rfl (by decide) (by decide) h1x
  have l5 := countB_len (ins := [a, b, c]) (by simp) (h3 a b c ha hb hc)
  have l6 := countB_len (ins := [endedL L]) (by simp) h1x
  have k7 := fun w1 => linesOf_any (endedL L) w1 (by omega)
  have k8 := fun w1 => linesOf_any (endedL C) w1 (by omega)
  have hn1 : CutOf (Lib.decDigits L.length) (countB [a, b, c]) := ⟨by omega, r1, n1⟩
  have hn2 : CutOf (Lib.decDigits L.length) (countB [endedL L]) := ⟨by omega, r2, n2⟩
  have kc := fun s w1 (h : CutOf (Lib.decDigits L.length) s) => cut_of _ s h w1
  have hLn := endedL_count L
  have hCn := endedL_count C
  rw [xs] at k1
  obtain ⟨y, hy⟩ : ∃ y, endedL (sortedC [] (allB [c, a, b])) = y := ⟨_, rfl⟩
  obtain ⟨z, hz⟩ : ∃ z, endedL (sortedC [] (allB [endedL L])) = z := ⟨_, rfl⟩
  rw [hy] at k2
  rw [hz] at k3
  have hxy : (endedL L == y) = true := by rw [← hy, ys]; simp
  have hxz : (endedL L == z) = true := by rw [← hz, zs]; simp
  rw [us] at k4
  rw [xl] at k7
  rw [ul] at k8
  generalize countB [a, b, c] = n at *
  generalize countB [endedL L] = m at *
  generalize Lib.decDigits L.length = d at *

  clear hy hz xs ys zs us n1 n2 xl ul h1x h3
  generalize endedL L = x at *
  generalize endedL C = u at *
  have K0 := Lib.hid (acted_any w)
  have K1 := Lib.hid k1
  have K2 := Lib.hid k2
  have K3 := Lib.hid k3
  have K4 := Lib.hid k4
  have K5 := Lib.hid k5
  have K6 := Lib.hid k6
  have K7 := Lib.hid k7
  have K8 := Lib.hid k8
  have KC := Lib.hid kc
  have N1 := Lib.hid hn1
  have N2 := Lib.hid hn2
  have UP := Lib.hid up
  have CC := Lib.hid cc
  have HM := Lib.hid hm
  have HT := Lib.hid ht
  have da : ((500 : Int) < (a.length : Int)) = False := eq_false (by omega)
  have db : ((500 : Int) < (b.length : Int)) = False := eq_false (by omega)
  have dc : ((500 : Int) < (c.length : Int)) = False := eq_false (by omega)
  clear k1 k2 k3 k4 k5 k6 k7 k8 kc hn1 hn2 up cc hm ht
  go_enter Tryz.func5, Tryz.ntmps5
  go_wp2_with fail
  refine K0.out.mono ?_
  rintro e w1 ⟨rfl, hb1⟩
  have HB1 := Lib.hid hb1
  clear hb1
  go_wp2_with fail
  refine (K1.out w1 (HM.out.below HB1.out (Nat.le_refl _))).mono ?_
  rintro e w2 ⟨rfl, hb2⟩
  have HB2 := Lib.hid (HB1.out.trans (hb2.mono HB1.out.size))
  clear hb2
  go_wp2_with fail
  refine (K2.out w2 (HM.out.below HB2.out (Nat.le_refl _))).mono ?_
  rintro e w3 ⟨rfl, hb3⟩
  have HB3 := Lib.hid (HB2.out.trans (hb3.mono HB2.out.size))
  clear hb3
  go_wp2_with fail
  refine (K3.out w3 (HM.out.below HB3.out (Nat.le_refl _))).mono ?_
  rintro e w4 ⟨rfl, hb4⟩
  have HB4 := Lib.hid (HB3.out.trans (hb4.mono HB3.out.size))
  clear hb4
  go_wp2_with fail
  refine (K4.out w4 (HM.out.below HB4.out (Nat.le_refl _))).mono ?_
  rintro e w5 ⟨rfl, hb5⟩
  have HB5 := Lib.hid (HB4.out.trans (hb5.mono HB4.out.size))
  clear hb5
  go_wp2_with fail
  refine (K5.out w5 (HM.out.below HB5.out (Nat.le_refl _)) (tab_below HT.out HB5.out (Nat.le_refl _))).mono ?_
  rintro e w6 ⟨rfl, hb6⟩
  have HB6 := Lib.hid (HB5.out.trans (hb6.mono HB5.out.size))
  clear hb6
  go_wp2_with fail
  refine (K6.out w6 (HM.out.below HB6.out (Nat.le_refl _)) (tab_below HT.out HB6.out (Nat.le_refl _))).mono ?_
  rintro e w7 ⟨rfl, hb7⟩
  have HB7 := Lib.hid (HB6.out.trans (hb7.mono HB6.out.size))
  clear hb7
  go_wp2_with fail
  refine (K7.out w7).mono ?_
  rintro e w8 ⟨vl, rfl, hol, hb8⟩
  have HRL := Lib.hid (reads_cells hol)
  have HB8 := Lib.hid (HB7.out.trans (hb8.mono HB7.out.size))
  clear hol hb8
  obtain ⟨al, cl, rfl, -, -⟩ := id HRL.out
  simp only [List.length_map] at *
  go_wp2_with fail
  go_loopw [21] (fun iv wl => ∃ i : Nat, (i + 1 ≤ L.length ∨ i = 0) ∧ iv = .int .i64 ((i : Int) + 1) ∧ Below w8.heap.size w8 wl) (fun iv _ => L.length + 1 - (intOf iv).toNat)
  case atStart => exact ⟨0, Or.inr rfl, rfl, Below.refl _ _⟩
  case round =>
    obtain ⟨i, hi, rfl, hbi⟩ := hrel
    have HBi := Lib.hid hbi
    have hsub : (i : Int) + 1 - 1 = (i : Int) := by omega
    have hw1 : IntKind.i64.wrap ((i : Int) + 1 - 1) = (i : Int) := by rw [hsub]; exact IntWalk.i64_in _ (by omega)
    have hw2 : IntKind.i64.wrap (i : Int) = (i : Int) := IntWalk.i64_in _ (by omega)
    have hw3 : IntKind.i64.wrap ((i : Int) + 1 + 1) = (i : Int) + 1 + 1 := IntWalk.i64_in _ (by omega)
    clear hbi
    by_cases hlt : i + 1 < L.length
    · obtain ⟨bi, oi, hix, hce⟩ := (HRL.out.below0 HBi.out).at (P := Tryz.prog) Tryz.underlying39 (by kernel_rfl) (i + 1) (by simpa using hlt)
      obtain ⟨bj, oj, hix2, hce2⟩ := (HRL.out.below0 HBi.out).at (P := Tryz.prog) Tryz.underlying39 (by kernel_rfl) i (by simp; omega)
      simp only [List.getElem_map] at hix hce hix2 hce2
      have hix1 : ∀ w', (Instr.indexAt 39 (.slice al L.length cl) (.int .i64 ((i : Int) + 1))).run Tryz.prog w' = .ok (.pointer (some ⟨bi, oi, none⟩)) w' := hix
      have hlc : ((i : Int) + 1 < (L.length : Int)) = True := eq_true (by omega)
      have hle : Op.bytesLess L[i + 1] L[i] = false := by
        rw [bytesLess_eq, decide_eq_false_iff_not]
        exact UP.out i hlt
      generalize L[i + 1] = p at *
      generalize L[i] = q at *
      go_wp2_with fail
      go_quiet (fail)
      go_wp2
      go_roundw
      case rel => exact ⟨i + 1, Or.inl (by omega), by go_num, by first | exact HBi.out | exact below_drewN HBi.out _⟩
      case measure => simp [intOf]; omega
    · have hlc : ((i : Int) + 1 < (L.length : Int)) = False := eq_false (by omega)
      go_wp2_with fail
      refine (K8.out wr).mono ?_
      rintro e w9 ⟨vc, rfl, hoc, hb9⟩
      have HRC := Lib.hid (reads_cells hoc)
      have HRL9 := Lib.hid ((HRL.out.below0 HBi.out).below0 hb9)
      have HB9 := Lib.hid (HB8.out.trans ((HBi.out.trans (hb9.mono HBi.out.size)).mono HB8.out.size))
      clear hoc hb9
      obtain ⟨ac, cc2, rfl, -, -⟩ := id HRC.out
      simp only [List.length_map] at *
      clear hw1 hw2 hw3 hsub hlc hlt hi
      go_wp2_with fail
      go_loopw [23, 24] (fun kv iv wl => ∃ j : Nat, j ≤ L.length ∧ iv = .int .i64 j ∧ kv = .int .i64 (Lib.compactUpTo L.toArray j).length ∧ Below w9.heap.size w9 wl) (fun _ iv _ => L.length - (intOf iv).toNat)
      case atStart => exact ⟨0, by omega, rfl, by simp [Lib.compactUpTo], Below.refl _ _⟩
      case round =>
        obtain ⟨j, hj, rfl, rfl, hbj⟩ := hrel
        have HBj := Lib.hid hbj
        clear hbj
        by_cases hlt : j < L.length
        · have hlc : ((j : Int) < (L.length : Int)) = True := eq_true (by omega)
          obtain ⟨bi, oi, hix, hce⟩ := (HRL9.out.below0 HBj.out).at (P := Tryz.prog) Tryz.underlying39 (by kernel_rfl) j (by simpa using hlt)
          simp only [List.getElem_map] at hix hce
          by_cases hk : j = 0 ∨ ∀ h : j - 1 < L.length, L[j] ≠ L[j - 1]
          · have hup := upto_keep hlt hk
            have hat : C[(Lib.compactUpTo L.toArray j).length]? = some L[j] := by
              obtain ⟨h, e⟩ := upto_at hlt hk
              rw [CC.out, List.getElem?_eq_getElem h, e]
            have HNX : Hid ((Lib.compactUpTo L.toArray (j + 1)).length = (Lib.compactUpTo L.toArray j).length + 1) := Lib.hid (by rw [hup]; simp)
            clear hup
            generalize (Lib.compactUpTo L.toArray j).length = k at *
            obtain ⟨hkC, hCk⟩ := List.getElem?_eq_some_iff.1 hat
            obtain ⟨bo, oo, hixo, hceo⟩ := (HRC.out.below0 HBj.out).at (P := Tryz.prog) Tryz.underlying39 (by kernel_rfl) k (by simpa using hkC)
            simp only [List.getElem_map, hCk] at hixo hceo
            clear hat hCk
            have hkc : ((C.length : Int) ≤ (k : Int)) = False := eq_false (by omega)
            have hkc2 : (C.length ≤ k) = False := eq_false (by omega)
            by_cases hj0 : j = 0
            · have hz : ((0 : Int) < (j : Int)) = False := eq_false (by omega)
              have hz2 : (0 < j) = False := eq_false (by omega)
              clear hk hj0
              generalize L[j] = p at *
              go_wp2_with fail
              go_quiet (fail)
              go_wp2_with fail
              go_quiet (fail)
              go_wp2
              go_roundw
              case rel => exact ⟨j + 1, by omega, by go_num, by rw [HNX.out]; go_num, by first | exact HBj.out | exact below_drewN HBj.out _ | exact below_drewN (below_drewN HBj.out _) _⟩
              case measure => simp [intOf]; omega
            · have hz : ((0 : Int) < (j : Int)) = True := eq_true (by omega)
              have hz2 : (0 < j) = True := eq_true (by omega)
              obtain ⟨q, rfl⟩ : ∃ q, j = q + 1 := ⟨j - 1, by omega⟩
              have hne : (L[q + 1] == L[q]) = false := by
                rcases hk with h | h
                · omega
                · simpa using h (by simp; omega)
              obtain ⟨bj, oj, hixj, hcej⟩ := (HRL9.out.below0 HBj.out).at (P := Tryz.prog) Tryz.underlying39 (by kernel_rfl) q (by simp; omega)
              simp only [List.getElem_map] at hixj hcej
              have hsub : (q : Int) + 1 - 1 = (q : Int) := by omega
              have hw1 : IntKind.i64.wrap ((q : Int) + 1 - 1) = (q : Int) := by rw [hsub]; exact IntWalk.i64_in _ (by omega)
              have hw2 : IntKind.i64.wrap (q : Int) = (q : Int) := IntWalk.i64_in _ (by omega)
              have hix1 : ∀ w', (Instr.indexAt 39 (.slice al L.length cl) (.int .i64 ((q : Int) + 1))).run Tryz.prog w' = .ok (.pointer (some ⟨bi, oi, none⟩)) w' := hix
              clear hk hj0
              generalize L[q + 1] = p at *
              generalize L[q] = r at *
              go_wp2_with fail
              go_quiet (fail)
              go_wp2_with fail
              go_quiet (fail)
              go_wp2
              go_roundw
              case rel => exact ⟨q + 1 + 1, by omega, by go_num, by rw [HNX.out]; go_num, by first | exact HBj.out | exact below_drewN HBj.out _ | exact below_drewN (below_drewN HBj.out _) _⟩
              case measure => simp [intOf]; omega
          · have hj0 : j ≠ 0 := fun e => hk (Or.inl e)
            obtain ⟨q, rfl⟩ : ∃ q, j = q + 1 := ⟨j - 1, by omega⟩
            have heq : L[q + 1] = L[q] := Classical.byContradiction fun h => hk (Or.inr (fun _ => by simpa using h))
            have HNX : Hid ((Lib.compactUpTo L.toArray (q + 1 + 1)).length = (Lib.compactUpTo L.toArray (q + 1)).length) := Lib.hid (by rw [upto_skip hlt heq])
            generalize (Lib.compactUpTo L.toArray (q + 1)).length = k at *
            obtain ⟨bj, oj, hixj, hcej⟩ := (HRL9.out.below0 HBj.out).at (P := Tryz.prog) Tryz.underlying39 (by kernel_rfl) q (by simp; omega)
            simp only [List.getElem_map] at hixj hcej
            rw [heq] at hce
            have hz : ((0 : Int) < ((q : Int) + 1)) = True := eq_true (by omega)
            have hsub : (q : Int) + 1 - 1 = (q : Int) := by omega
            have hw1 : IntKind.i64.wrap ((q : Int) + 1 - 1) = (q : Int) := by rw [hsub]; exact IntWalk.i64_in _ (by omega)
            have hw2 : IntKind.i64.wrap (q : Int) = (q : Int) := IntWalk.i64_in _ (by omega)
            have hix1 : ∀ w', (Instr.indexAt 39 (.slice al L.length cl) (.int .i64 ((q : Int) + 1))).run Tryz.prog w' = .ok (.pointer (some ⟨bi, oi, none⟩)) w' := hix
            clear hk hj0 heq
            generalize L[q] = r at *
            go_wp2_with fail
            go_quiet (fail)
            go_wp2
            go_roundw
            case rel => exact ⟨q + 1 + 1, by omega, by go_num, by rw [HNX.out], by first | exact HBj.out | exact below_drewN HBj.out _ | exact below_drewN (below_drewN HBj.out _) _⟩
            case measure => simp [intOf]; omega
        · obtain rfl : j = L.length := by omega
          have hkC : (Lib.compactUpTo L.toArray L.length).length = C.length := by rw [CC.out]; rfl
          have hlc : ((L.length : Int) < (L.length : Int)) = False := eq_false (by omega)
          generalize (Lib.compactUpTo L.toArray L.length).length = k at *
          have hkk : ((k : Int) == (C.length : Int)) = true := by rw [hkC]; simp
          clear hkC
          go_wp2_with fail
          refine wp_region_noPanic ?_
          refine wp_region_any (by kernel_rfl) ?_
          change wpAny _ _ _ _ _ _ _ (World.drew _)
          refine wpAny_take (i := 0) (v := ?_) rfl (by kernel_rfl) (by kernel_rfl) (by kernel_rfl) (fun _ _ _ (h : False) => h.elim) (Or.inl ⟨by rfl, ?_⟩) ?_
          rotate_left
          · first | (intro w'; go_simp; done) | (intro w'; go_simp; with_reducible rfl)
          try simp only [List.getElem_toArray, List.getElem_cons_zero, List.getElem_cons_succ, Act.put, List.setIfInBounds_toArray, List.set_cons_zero, List.set_cons_succ]
          refine wpAny_take (i := 1) (v := ?_) rfl (by kernel_rfl) (by kernel_rfl) (by kernel_rfl) (fun _ _ _ (h : False) => h.elim) (Or.inl ⟨by rfl, ?_⟩) ?_
          rotate_left
          · first | (intro w'; go_simp; done) | (intro w'; go_simp; with_reducible rfl)
          try simp only [List.getElem_toArray, List.getElem_cons_zero, List.getElem_cons_succ, Act.put, List.setIfInBounds_toArray, List.set_cons_zero, List.set_cons_succ]
          refine wpAny_take (i := 2) (v := ?_) rfl (by kernel_rfl) (by kernel_rfl) (by kernel_rfl) (fun _ _ _ (h : False) => h.elim) (Or.inl ⟨by rfl, ?_⟩) ?_
          rotate_left
          · first | (intro w'; go_simp; done) | (intro w'; go_simp; with_reducible rfl)
          try simp only [List.getElem_toArray, List.getElem_cons_zero, List.getElem_cons_succ, Act.put, List.setIfInBounds_toArray, List.set_cons_zero, List.set_cons_succ]
          refine wpAny_take (i := 3) (v := ?_) rfl (by kernel_rfl) (by kernel_rfl) (by kernel_rfl) (fun _ _ _ (h : False) => h.elim) (Or.inl ⟨by rfl, ?_⟩) ?_
          rotate_left
          · first | (intro w'; go_simp; done) | (intro w'; go_simp; with_reducible rfl)
          try simp only [List.getElem_toArray, List.getElem_cons_zero, List.getElem_cons_succ, Act.put, List.setIfInBounds_toArray, List.set_cons_zero, List.set_cons_succ]
          refine wpAny_take (i := 4) (v := ?_) rfl (by kernel_rfl) (by kernel_rfl) (by kernel_rfl) (fun _ _ _ (h : False) => h.elim) (Or.inl ⟨by rfl, ?_⟩) ?_
          rotate_left
          · first | (intro w'; go_simp; done) | (intro w'; go_simp; with_reducible rfl)
          try simp only [List.getElem_toArray, List.getElem_cons_zero, List.getElem_cons_succ, Act.put, List.setIfInBounds_toArray, List.set_cons_zero, List.set_cons_succ]
          refine wpAny_take (i := 5) (v := ?_) rfl (by kernel_rfl) (by kernel_rfl) (by kernel_rfl) (fun _ _ _ (h : False) => h.elim) (Or.inl ⟨by rfl, ?_⟩) ?_
          rotate_left
          · first | (intro w'; go_simp; done) | (intro w'; go_simp; with_reducible rfl)
          try simp only [List.getElem_toArray, List.getElem_cons_zero, List.getElem_cons_succ, Act.put, List.setIfInBounds_toArray, List.set_cons_zero, List.set_cons_succ]
          refine wpAny_take (i := 6) (v := ?_) rfl (by kernel_rfl) (by kernel_rfl) (by kernel_rfl) (fun _ _ _ (h : False) => h.elim) (Or.inl ⟨by rfl, ?_⟩) ?_
          rotate_left
          · first | (intro w'; go_simp; done) | (intro w'; go_simp; with_reducible rfl)
          try simp only [List.getElem_toArray, List.getElem_cons_zero, List.getElem_cons_succ, Act.put, List.setIfInBounds_toArray, List.set_cons_zero, List.set_cons_succ]
          refine wpAny_take (i := 7) (v := ?_) rfl (by kernel_rfl) (by kernel_rfl) (by kernel_rfl) (fun _ _ _ (h : False) => h.elim) (Or.inl ⟨by rfl, ?_⟩) ?_
          rotate_left
          · first | (intro w'; go_simp; done) | (intro w'; go_simp; with_reducible rfl)
          try simp only [List.getElem_toArray, List.getElem_cons_zero, List.getElem_cons_succ, Act.put, List.setIfInBounds_toArray, List.set_cons_zero, List.set_cons_succ]
          refine wpAny_take (i := 8) (v := ?_) rfl (by kernel_rfl) (by kernel_rfl) (by kernel_rfl) (fun _ _ _ (h : False) => h.elim) (Or.inl ⟨by rfl, ?_⟩) ?_
          rotate_left
          · first | (intro w'; go_simp; done) | (intro w'; go_simp; with_reducible rfl)
          try simp only [List.getElem_toArray, List.getElem_cons_zero, List.getElem_cons_succ, Act.put, List.setIfInBounds_toArray, List.set_cons_zero, List.set_cons_succ]
          refine wpAny_take (i := 9) (v := ?_) rfl (by kernel_rfl) (by kernel_rfl) (by kernel_rfl) (fun _ _ _ (h : False) => h.elim) (Or.inl ⟨by rfl, ?_⟩) ?_
          rotate_left
          · first | (intro w'; go_simp; done) | (intro w'; go_simp; with_reducible rfl)
          try simp only [List.getElem_toArray, List.getElem_cons_zero, List.getElem_cons_succ, Act.put, List.setIfInBounds_toArray, List.set_cons_zero, List.set_cons_succ]
          refine wpAny_take (i := 10) (v := ?_) rfl (by kernel_rfl) (by kernel_rfl) (by kernel_rfl) (fun _ _ _ (h : False) => h.elim) (Or.inl ⟨by rfl, ?_⟩) ?_
          rotate_left
          · first | (intro w'; go_simp; done) | (intro w'; go_simp; with_reducible rfl)
          try simp only [List.getElem_toArray, List.getElem_cons_zero, List.getElem_cons_succ, Act.put, List.setIfInBounds_toArray, List.set_cons_zero, List.set_cons_succ]
          refine wpAny_take (i := 11) (v := ?_) rfl (by kernel_rfl) (by kernel_rfl) (by kernel_rfl) (fun _ _ _ (h : False) => h.elim) (Or.inl ⟨by rfl, ?_⟩) ?_
          rotate_left
          · first | (intro w'; go_simp; done) | (intro w'; go_simp; with_reducible rfl)
          try simp only [List.getElem_toArray, List.getElem_cons_zero, List.getElem_cons_succ, Act.put, List.setIfInBounds_toArray, List.set_cons_zero, List.set_cons_succ]
          refine wpAny_take (i := 12) (v := ?_) rfl (by kernel_rfl) (by kernel_rfl) (by kernel_rfl) (fun _ _ _ (h : False) => h.elim) (Or.inl ⟨by rfl, ?_⟩) ?_
          rotate_left
          · first | (intro w'; go_simp; done) | (intro w'; go_simp; with_reducible rfl)
          try simp only [List.getElem_toArray, List.getElem_cons_zero, List.getElem_cons_succ, Act.put, List.setIfInBounds_toArray, List.set_cons_zero, List.set_cons_succ]
          refine wpAny_take (i := 13) (v := ?_) rfl (by kernel_rfl) (by kernel_rfl) (by kernel_rfl) (fun _ _ _ (h : False) => h.elim) (Or.inl ⟨by rfl, ?_⟩) ?_
          rotate_left
          · first | (intro w'; go_simp; done) | (intro w'; go_simp; with_reducible rfl)
          try simp only [List.getElem_toArray, List.getElem_cons_zero, List.getElem_cons_succ, Act.put, List.setIfInBounds_toArray, List.set_cons_zero, List.set_cons_succ]
          refine wpAny_take (i := 14) (v := ?_) rfl (by kernel_rfl) (by kernel_rfl) (by kernel_rfl) (fun _ _ _ (h : False) => h.elim) (Or.inl ⟨by rfl, ?_⟩) ?_
          rotate_left
          · first | (intro w'; go_simp; done) | (intro w'; go_simp; with_reducible rfl)
          try simp only [List.getElem_toArray, List.getElem_cons_zero, List.getElem_cons_succ, Act.put, List.setIfInBounds_toArray, List.set_cons_zero, List.set_cons_succ]
          refine wpAny_take (i := 15) (v := ?_) rfl (by kernel_rfl) (by kernel_rfl) (by kernel_rfl) (fun _ _ _ (h : False) => h.elim) (Or.inl ⟨by rfl, ?_⟩) ?_
          rotate_left
          · first | (intro w'; go_simp; done) | (intro w'; go_simp; with_reducible rfl)
          try simp only [List.getElem_toArray, List.getElem_cons_zero, List.getElem_cons_succ, Act.put, List.setIfInBounds_toArray, List.set_cons_zero, List.set_cons_succ]
          refine wpAny_take (i := 19) (v := ?_) rfl (by kernel_rfl) (by kernel_rfl) (by kernel_rfl) (fun _ _ _ (h : False) => h.elim) (Or.inl ⟨by rfl, ?_⟩) ?_
          rotate_left
          · first | (intro w'; go_simp; done) | (intro w'; go_simp; with_reducible rfl)
          try simp only [List.getElem_toArray, List.getElem_cons_zero, List.getElem_cons_succ, Act.put, List.setIfInBounds_toArray, List.set_cons_zero, List.set_cons_succ]
          refine wpAny_ready (rs := [16]) (by kernel_rfl) (by simp) ?_
          refine AllReady.cons rfl (fun K hK => ?_) ?_
          · go_simp
            go_wp2_with (
              go_at_call 29
              refine (KC.out _ _ N1.out).mono ?_
              rintro e w10 ⟨a10, n10, c10, b10, o10, rfl, hb10, hix10, hce10⟩
              have HS10 : Below w9.heap.size w9 w10 := HBj.out.drew.trans (hb10.mono HBj.out.drew.size))
            try simp only [List.getElem_toArray, List.getElem_cons_zero, List.getElem_cons_succ, Act.put, List.setIfInBounds_toArray, List.set_cons_zero, List.set_cons_succ]
            refine wpAny_take (i := 17) (v := ?_) rfl (by kernel_rfl) (by kernel_rfl) (by kernel_rfl) (fun _ _ _ (h : False) => h.elim) (Or.inl ⟨by rfl, ?_⟩) ?_
            rotate_left
            · first | (intro w'; go_simp; done) | (intro w'; go_simp; with_reducible rfl)
            try simp only [List.getElem_toArray, List.getElem_cons_zero, List.getElem_cons_succ, Act.put, List.setIfInBounds_toArray, List.set_cons_zero, List.set_cons_succ]
            refine wpAny_ready (rs := [18, 20]) (by kernel_rfl) (by simp) ?_
            refine AllReady.cons rfl (fun K hK => ?_) ?_
            · go_simp
              refine hK _ _ ?_
              clear hK K
              try simp only [List.getElem_toArray, List.getElem_cons_zero, List.getElem_cons_succ, Act.put, List.setIfInBounds_toArray, List.set_cons_zero, List.set_cons_succ]
              refine wpAny_ready (rs := [20]) (by kernel_rfl) (by simp) ?_
              refine AllReady.cons rfl (fun K hK => ?_) ?_
              · go_simp
                go_wp2_with (
                  go_at_call 29
                  refine (KC.out _ _ N2.out).mono ?_
                  rintro e w11 ⟨a11, n11, c11, b11, o11, rfl, hb11, hix11, hce11⟩
                  have HS11 : Below w9.heap.size w9 w11 := HS10.trans (hb11.mono HS10.size)
                  have hce12 := (hb11.cell (lt_of_cell hce10)).trans hce10)
                try simp only [List.getElem_toArray, List.getElem_cons_zero, List.getElem_cons_succ, Act.put, List.setIfInBounds_toArray, List.set_cons_zero, List.set_cons_succ]
                refine wpAny_take (i := 21) (v := ?_) rfl (by kernel_rfl) (by kernel_rfl) (by kernel_rfl) (fun _ _ _ (h : False) => h.elim) (Or.inl ⟨by rfl, ?_⟩) ?_
                rotate_left
                · first | (intro w'; go_simp; done) | (intro w'; go_simp; with_reducible rfl)
                try simp only [List.getElem_toArray, List.getElem_cons_zero, List.getElem_cons_succ, Act.put, List.setIfInBounds_toArray, List.set_cons_zero, List.set_cons_succ]
                refine wpAny_ready (rs := [22]) (by kernel_rfl) (by simp) ?_
                refine AllReady.cons rfl (fun K hK => ?_) ?_
                · go_simp
                  refine hK _ _ ?_
                  clear hK K
                  try simp only [List.getElem_toArray, List.getElem_cons_zero, List.getElem_cons_succ, Act.put, List.setIfInBounds_toArray, List.set_cons_zero, List.set_cons_succ]
                  refine wpAny_take (i := 23) (v := ?_) rfl (by kernel_rfl) (by kernel_rfl) (by kernel_rfl) (fun _ _ _ (h : False) => h.elim) (Or.inl ⟨by rfl, ?_⟩) ?_
                  rotate_left
                  · first | (intro w'; go_simp; done) | (intro w'; go_simp; with_reducible rfl)
                  try simp only [List.getElem_toArray, List.getElem_cons_zero, List.getElem_cons_succ, Act.put, List.setIfInBounds_toArray, List.set_cons_zero, List.set_cons_succ]
                  refine wpAny_take (i := 24) (v := ?_) rfl (by kernel_rfl) (by kernel_rfl) (by kernel_rfl) (fun _ _ _ (h : False) => h.elim) (Or.inl ⟨by rfl, ?_⟩) ?_
                  rotate_left
                  · first | (intro w'; go_simp; done) | (intro w'; go_simp; with_reducible rfl)
                  try simp only [List.getElem_toArray, List.getElem_cons_zero, List.getElem_cons_succ, Act.put, List.setIfInBounds_toArray, List.set_cons_zero, List.set_cons_succ]
                  refine wpAny_take (i := 25) (v := ?_) rfl (by kernel_rfl) (by kernel_rfl) (by kernel_rfl) (fun _ _ _ (h : False) => h.elim) (Or.inl ⟨by rfl, ?_⟩) ?_
                  rotate_left
                  · first | (intro w'; go_simp; done) | (intro w'; go_simp; with_reducible rfl)
                  try simp only [List.getElem_toArray, List.getElem_cons_zero, List.getElem_cons_succ, Act.put, List.setIfInBounds_toArray, List.set_cons_zero, List.set_cons_succ]
                  refine wpAny_done (by kernel_rfl) ?_ _
                  refine NoPanic.normal ?_
                  go_wp2
                  go_ret
                  exact ⟨rfl, HB9.out.trans (HS11.mono HB9.out.size)⟩
                exact AllReady.nil
              exact AllReady.nil
            refine AllReady.cons rfl (fun K hK => ?_) ?_
            · go_simp
              go_wp2_with (
                go_at_call 29
                refine (KC.out _ _ N2.out).mono ?_
                rintro e w11 ⟨a11, n11, c11, b11, o11, rfl, hb11, hix11, hce11⟩
                have HS11 : Below w9.heap.size w9 w11 := HS10.trans (hb11.mono HS10.size)
                have hce12 := (hb11.cell (lt_of_cell hce10)).trans hce10)
              try simp only [List.getElem_toArray, List.getElem_cons_zero, List.getElem_cons_succ, Act.put, List.setIfInBounds_toArray, List.set_cons_zero, List.set_cons_succ]
              refine wpAny_take (i := 21) (v := ?_) rfl (by kernel_rfl) (by kernel_rfl) (by kernel_rfl) (fun _ _ _ (h : False) => h.elim) (Or.inl ⟨by rfl, ?_⟩) ?_
              rotate_left
              · first | (intro w'; go_simp; done) | (intro w'; go_simp; with_reducible rfl)
              try simp only [List.getElem_toArray, List.getElem_cons_zero, List.getElem_cons_succ, Act.put, List.setIfInBounds_toArray, List.set_cons_zero, List.set_cons_succ]
              refine wpAny_ready (rs := [18, 22]) (by kernel_rfl) (by simp) ?_
              refine AllReady.cons rfl (fun K hK => ?_) ?_
              · go_simp
                refine hK _ _ ?_
                clear hK K
                try simp only [List.getElem_toArray, List.getElem_cons_zero, List.getElem_cons_succ, Act.put, List.setIfInBounds_toArray, List.set_cons_zero, List.set_cons_succ]
                refine wpAny_ready (rs := [22]) (by kernel_rfl) (by simp) ?_
                refine AllReady.cons rfl (fun K hK => ?_) ?_
                · go_simp
                  refine hK _ _ ?_
                  clear hK K
                  try simp only [List.getElem_toArray, List.getElem_cons_zero, List.getElem_cons_succ, Act.put, List.setIfInBounds_toArray, List.set_cons_zero, List.set_cons_succ]
                  refine wpAny_take (i := 23) (v := ?_) rfl (by kernel_rfl) (by kernel_rfl) (by kernel_rfl) (fun _ _ _ (h : False) => h.elim) (Or.inl ⟨by rfl, ?_⟩) ?_
                  rotate_left
                  · first | (intro w'; go_simp; done) | (intro w'; go_simp; with_reducible rfl)
                  try simp only [List.getElem_toArray, List.getElem_cons_zero, List.getElem_cons_succ, Act.put, List.setIfInBounds_toArray, List.set_cons_zero, List.set_cons_succ]
                  refine wpAny_take (i := 24) (v := ?_) rfl (by kernel_rfl) (by kernel_rfl) (by kernel_rfl) (fun _ _ _ (h : False) => h.elim) (Or.inl ⟨by rfl, ?_⟩) ?_
                  rotate_left
                  · first | (intro w'; go_simp; done) | (intro w'; go_simp; with_reducible rfl)
                  try simp only [List.getElem_toArray, List.getElem_cons_zero, List.getElem_cons_succ, Act.put, List.setIfInBounds_toArray, List.set_cons_zero, List.set_cons_succ]
                  refine wpAny_take (i := 25) (v := ?_) rfl (by kernel_rfl) (by kernel_rfl) (by kernel_rfl) (fun _ _ _ (h : False) => h.elim) (Or.inl ⟨by rfl, ?_⟩) ?_
                  rotate_left
                  · first | (intro w'; go_simp; done) | (intro w'; go_simp; with_reducible rfl)
                  try simp only [List.getElem_toArray, List.getElem_cons_zero, List.getElem_cons_succ, Act.put, List.setIfInBounds_toArray, List.set_cons_zero, List.set_cons_succ]
                  refine wpAny_done (by kernel_rfl) ?_ _
                  refine NoPanic.normal ?_
                  go_wp2
                  go_ret
                  exact ⟨rfl, HB9.out.trans (HS11.mono HB9.out.size)⟩
                exact AllReady.nil
              refine AllReady.cons rfl (fun K hK => ?_) ?_
              · go_simp
                refine hK _ _ ?_
                clear hK K
                try simp only [List.getElem_toArray, List.getElem_cons_zero, List.getElem_cons_succ, Act.put, List.setIfInBounds_toArray, List.set_cons_zero, List.set_cons_succ]
                refine wpAny_ready (rs := [18]) (by kernel_rfl) (by simp) ?_
                refine AllReady.cons rfl (fun K hK => ?_) ?_
                · go_simp
                  refine hK _ _ ?_
                  clear hK K
                  try simp only [List.getElem_toArray, List.getElem_cons_zero, List.getElem_cons_succ, Act.put, List.setIfInBounds_toArray, List.set_cons_zero, List.set_cons_succ]
                  refine wpAny_take (i := 23) (v := ?_) rfl (by kernel_rfl) (by kernel_rfl) (by kernel_rfl) (fun _ _ _ (h : False) => h.elim) (Or.inl ⟨by rfl, ?_⟩) ?_
                  rotate_left
                  · first | (intro w'; go_simp; done) | (intro w'; go_simp; with_reducible rfl)
                  try simp only [List.getElem_toArray, List.getElem_cons_zero, List.getElem_cons_succ, Act.put, List.setIfInBounds_toArray, List.set_cons_zero, List.set_cons_succ]
                  refine wpAny_take (i := 24) (v := ?_) rfl (by kernel_rfl) (by kernel_rfl) (by kernel_rfl) (fun _ _ _ (h : False) => h.elim) (Or.inl ⟨by rfl, ?_⟩) ?_
                  rotate_left
                  · first | (intro w'; go_simp; done) | (intro w'; go_simp; with_reducible rfl)
                  try simp only [List.getElem_toArray, List.getElem_cons_zero, List.getElem_cons_succ, Act.put, List.setIfInBounds_toArray, List.set_cons_zero, List.set_cons_succ]
                  refine wpAny_take (i := 25) (v := ?_) rfl (by kernel_rfl) (by kernel_rfl) (by kernel_rfl) (fun _ _ _ (h : False) => h.elim) (Or.inl ⟨by rfl, ?_⟩) ?_
                  rotate_left
                  · first | (intro w'; go_simp; done) | (intro w'; go_simp; with_reducible rfl)
                  try simp only [List.getElem_toArray, List.getElem_cons_zero, List.getElem_cons_succ, Act.put, List.setIfInBounds_toArray, List.set_cons_zero, List.set_cons_succ]
                  refine wpAny_done (by kernel_rfl) ?_ _
                  refine NoPanic.normal ?_
                  go_wp2
                  go_ret
                  exact ⟨rfl, HB9.out.trans (HS11.mono HB9.out.size)⟩
                exact AllReady.nil
              exact AllReady.nil
            exact AllReady.nil
          exact AllReady.nil
end Go.Proofs.YtmkpeopebddnjaaGreatDoor
