/-
  The walk of the law CacheActs.
-/
import Derived.Test.YtmmgbgekcpbelaaDoorActs
namespace Go.Proofs.YtmmgbgekcpbelaaDoor
open Go Go.RowKit Go.Kf

theorem Twin.get2 {many : Nat} {l : List (List UInt8)} {m : List (List UInt8 × List UInt8)} {es : List EntL} (h : Twin many l m es) (key : List UInt8) :
    Twin many (if (mlook key m).isSome = true then without key l ++ [key] else l) m (refGet many key es) := by
  unfold refGet
  rw [← h.look]
  cases hs : mlook key m with
  | none => simpa using h
  | some s => simpa using h.get key s hs

set_option maxRecDepth 100000 in
set_option maxHeartbeats 4000000 in
theorem acts_main (many : Nat) (v : Value) (asks : List AskL) (w : World) (h1 : 1 ≤ many) (h2 : many ≤ 100) (h3 : asks.length ≤ 100) (hr : ReadsK 3 w v (asks.map askRow)) :
    Calls Tryd.prog 5 #[.int .i64 many, v] w fun e w' => e = .returned (.bool true) ∧ Below w.heap.size w w' := by
  have hr' := hr
  obtain ⟨a, cap, rfl, -, -⟩ := hr'
  simp only [List.length_map] at *
  go_enter Tryd.func5, Tryd.ntmps5
  go_wp2_with fail
  refine (cached_any w).mono ?_
  rintro e w1 ⟨rfl, hb1⟩
  go_wp2_with fail
  refine (new_ok many w1 h1 h2).mono ?_
  rintro e w2 ⟨pb, mb, rfl, hpb, hmb, hC2, hb2⟩
  have hs1 := hb1.size
  have hs2 := hb2.size
  have hft2 := hC2.foot_lt
  have hst : Ac w.heap.size w (w2.alloc (.cells #[.int .i64 many, .slice none 0 0] 51)) pb mb w2.heap.size (.slice none 0 0) (.slice none 0 0) many [] [] [] :=
    ⟨hC2.of_fr ((Fr.refl _ (fun _ => False) w2).alloc (Nat.le_refl _) _) (fun _ _ => id), ⟨heap_alloc_here _ _, none, 0, rfl, (by simp), (fun i u hi => (by simp at hi))⟩, ⟨by omega, by omega, fun k hk => (by cases hk)⟩, by omega,
      (fun k hk => (by cases hk)), (fun hf => Nat.lt_irrefl _ (hft2 _ hf)), (hb1.trans (hb2.mono hs1)).alloc (by omega) _⟩
  clear hC2 hb2 hb1 hft2
  have htw := Twin.init many
  have hm1 : ((many : Int) < 1) = False := by simp; omega
  have hm2 : ((100 : Int) < many) = False := by simp; omega
  have HST := Lib.hid hst
  have HTW := Lib.hid htw
  clear hst htw
  go_wp2_with fail
  go_loopw [9] (fun iv wr => ∃ (i : Nat) (lv rv : Value) (l : List (List UInt8)) (m : List (List UInt8 × List UInt8)) (es : List EntL), iv = .int .i64 i ∧ i ≤ asks.length ∧ Twin many l m es ∧
      Ac w.heap.size w wr pb mb w2.heap.size lv rv many l m es) (fun iv _ => asks.length - (intOf iv).toNat)
  case atStart => exact ⟨0, _, _, [], [], [], rfl, by omega, HTW.out, HST.out⟩
  case round =>
    obtain ⟨i, lv, rv, l, m, es, rfl, hi, htw, hst⟩ := hrel
    by_cases hlt : i < asks.length
    · obtain ⟨b, o, hix, ha, hce⟩ := hr.at Tryd.underlying22 (by kernel_rfl) i (by simpa using hlt)
      have hbw : b < w.heap.size := lt_of_cell (hce 0 _ (by simp [askRow]; rfl))
      obtain ⟨p, key, by', hask⟩ : ∃ p key by', asks[i] = (p, key, by') := ⟨_, _, _, rfl⟩
      have k0 : wr.cell? ⟨b, o, none⟩ = some (.bool p) := (hst.b.cell (p := ⟨b, o, none⟩) hbw).trans (hce 0 _ (by simp [hask, askRow]))
      have k1 : wr.cell? ⟨b, o + 1, none⟩ = some (str key) := (hst.b.cell (p := ⟨b, o + 1, none⟩) hbw).trans (hce 1 _ (by simp [hask, askRow]))
      have k2 : wr.cell? ⟨b, o + 2, none⟩ = some (str by') := (hst.b.cell (p := ⟨b, o + 2, none⟩) hbw).trans (hce 2 _ (by simp [hask, askRow]))
      clear hce hask ha
      have hB := hst.hB
      by_cases hbad : 100 < key.length ∨ 100 < by'.length
      · rcases hbad with hbad | hbad
        · go_wp2_with fail
          go_ret
          exact ⟨rfl, hst.b.alloc hB _⟩
        · by_cases hbad2 : 100 < key.length
          · go_wp2_with fail
            go_ret
            exact ⟨rfl, hst.b.alloc hB _⟩
          · go_wp2_with fail
            go_ret
            exact ⟨rfl, hst.b.alloc hB _⟩
      obtain ⟨hg1, hg2⟩ : key.length ≤ 100 ∧ by'.length ≤ 100 := by omega
      clear hbad
      have hle := htw.len
      have hll : l.length = es.length := by rw [← htw.keys, List.length_map]
      have hst0 := hst.below ((Below.refl _ wr).alloc (Nat.le_refl _) (.cells #[.bool p, str key, str by'] 31))
      have hA0 := heap_alloc_here wr (.cells #[.bool p, str key, str by'] 31)
      have hnf0 : ¬ foot pb mb lv wr.heap.size := fun hf => Nat.lt_irrefl _ (hst.c.foot_lt _ hf)
      have hnr0 : wr.heap.size ≠ w2.heap.size := fun e => Nat.lt_irrefl _ (e ▸ lt_of_heap hst.r.blk)
      clear hst
      cases p with
      | true =>
        go_wp2_with fail
        refine (put_any pb mb lv many l m key by' _ hst0.c (by omega)).mono ?_
        rintro e w3 ⟨rfl, lv3, hC3, hF3, hl3⟩
        have hst3 := hst0.cstep hC3 hF3 hl3
        have hA3 := hst0.own_c hF3 hA0 hnf0
        clear hC3 hF3 hl3 hst0 hA0
        have j1 : w3.cell? ⟨wr.heap.size, 1, none⟩ = some (str key) := by rw [cell_of_heap hA3]; rfl
        have j2 : w3.cell? ⟨wr.heap.size, 2, none⟩ = some (str by') := by rw [cell_of_heap hA3]; rfl
        go_wp2_with fail
        refine (refPut_any w2.heap.size rv many es key by' w3 hst3.r (fun k hk => (hst3.rv0 k hk).2.1) (by omega) h1).mono ?_
        rintro e w4 ⟨rfl, rv4, hR4, hF4, hl4⟩
        have hst4 := Lib.hid (hst3.rstep hR4 hF4 (fun k hk => Or.inr (hl4 k hk)))
        have htw4 := htw.put key by'
        clear hR4 hF4 hl4 hst3 j1 j2 hA3 hnf0 hnr0 hB htw
        generalize putKeys many key l = l4 at *
        generalize putMapL many key by' l m = m4 at *
        generalize refPut many key by' es = es4 at *
        have hle4 := htw4.len
        have hll4 : l4.length = es4.length := by rw [← htw4.keys, List.length_map]
        have HK4 := Lib.hid htw4.keys
        have HW4 := Lib.hid htw4
        clear htw4
        obtain ⟨a4, cap4, hrv4, -, -⟩ := hst4.out.r.row
        rw [List.length_map] at hrv4
        subst hrv4
        go_wp2_with fail
        go_region_law (first
          | (go_simp
             go_at_call 25
             refine (keys_any pb mb lv3 many l4 m4 _ ?_ (by omega)).mono ?_
             · first | exact hst4.out.c | exact (hst4.out.below (Below.refl _ _).drew).c
             rintro e w5 ⟨v5, rfl, ho5, hb5⟩
             have hst5 := Lib.hid ((hst4.out.below (Below.refl _ _).drew).below hb5))
          | (go_simp
             go_at_call 26
             refine (refKeys_any w2.heap.size _ many es4 _ hst5.out.r (fun k hk => (hst5.out.rv0 k hk).2.1) (by omega)).mono ?_
             rintro e w6 ⟨v6, rfl, ho6, hb6⟩
             have hst6 := Lib.hid (hst5.out.below hb6))
          | (go_simp
             go_at_call 24
             refine (sameTexts v5 v6 l4 (es4.map Prod.fst) w6 ((ownsRow_reads ho5).below hb6 (fun k hk => (ho5.lt k hk).2)) (ownsRow_reads ho6) (fun k hk => Nat.lt_of_lt_of_le (ho5.lt k hk).2 hb6.size) (fun k hk => (ho6.lt k hk).2)).mono ?_
             rintro e w7 ⟨he7, hb7⟩
             rw [HK4.out, beq_self_eq_true] at he7
             subst he7
             have hst7 := Lib.hid (hst6.out.below hb7)
             have d7 : w7.cell? ⟨w2.heap.size, 1, none⟩ = some (.slice a4 es4.length cap4) := (cell_of_heap hst7.out.r.blk 1).trans rfl)
          | (go_simp
             go_at_call 15
             refine (len_any pb mb lv3 many l4 m4 w7 hst7.out.c).mono ?_
             rintro e w8 ⟨rfl, rfl⟩))
        all_goals
          go_wp2_with fail
          go_roundw
          case rel => exact ⟨i + 1, _, _, _, _, _, by go_num, by omega, HW4.out, hst7.out⟩
          case measure => simp [intOf]; omega
      | false =>
        go_wp2_with fail
        refine (get_any pb mb lv many l m key _ hst0.c (by omega)).mono ?_
        rintro e w3 ⟨rfl, lv3, hC3, hF3, hl3⟩
        have hst3 := hst0.cstep hC3 hF3 hl3
        have hA3 := hst0.own_c hF3 hA0 hnf0
        clear hC3 hF3 hl3 hst0 hA0
        have j1 : w3.cell? ⟨wr.heap.size, 1, none⟩ = some (str key) := by rw [cell_of_heap hA3]; rfl
        go_wp2_with fail
        refine (refGet_any w2.heap.size rv many es key w3 hst3.r (fun k hk => (hst3.rv0 k hk).2.1) (by omega) h1).mono ?_
        rintro e w4 ⟨he4, rv4, hR4, hF4, hl4⟩
        rw [← htw.look key] at he4
        subst he4
        have hst4 := Lib.hid (hst3.rstep hR4 hF4 hl4)
        have htw4 := htw.get2 key
        clear hR4 hF4 hl4 hst3 j1 hA3 hnf0 hnr0 hB htw
        generalize (if (mlook key m).isSome = true then without key l ++ [key] else l) = l4 at *
        generalize refGet many key es = es4 at *
        generalize mlook key m = got at *
        generalize m = m4 at *
        have hle4 := htw4.len
        have hll4 : l4.length = es4.length := by rw [← htw4.keys, List.length_map]
        have HK4 := Lib.hid htw4.keys
        have HW4 := Lib.hid htw4
        clear htw4
        obtain ⟨a4, cap4, hrv4, -, -⟩ := hst4.out.r.row
        rw [List.length_map] at hrv4
        subst hrv4
        go_wp2_with fail
        go_region_law (first
          | (go_simp
             go_at_call 25
             refine (keys_any pb mb lv3 many l4 m4 _ ?_ (by omega)).mono ?_
             · first | exact hst4.out.c | exact (hst4.out.below (Below.refl _ _).drew).c
             rintro e w5 ⟨v5, rfl, ho5, hb5⟩
             have hst5 := Lib.hid ((hst4.out.below (Below.refl _ _).drew).below hb5))
          | (go_simp
             go_at_call 26
             refine (refKeys_any w2.heap.size _ many es4 _ hst5.out.r (fun k hk => (hst5.out.rv0 k hk).2.1) (by omega)).mono ?_
             rintro e w6 ⟨v6, rfl, ho6, hb6⟩
             have hst6 := Lib.hid (hst5.out.below hb6))
          | (go_simp
             go_at_call 24
             refine (sameTexts v5 v6 l4 (es4.map Prod.fst) w6 ((ownsRow_reads ho5).below hb6 (fun k hk => (ho5.lt k hk).2)) (ownsRow_reads ho6) (fun k hk => Nat.lt_of_lt_of_le (ho5.lt k hk).2 hb6.size) (fun k hk => (ho6.lt k hk).2)).mono ?_
             rintro e w7 ⟨he7, hb7⟩
             rw [HK4.out, beq_self_eq_true] at he7
             subst he7
             have hst7 := Lib.hid (hst6.out.below hb7)
             have d7 : w7.cell? ⟨w2.heap.size, 1, none⟩ = some (.slice a4 es4.length cap4) := (cell_of_heap hst7.out.r.blk 1).trans rfl)
          | (go_simp
             go_at_call 15
             refine (len_any pb mb lv3 many l4 m4 w7 hst7.out.c).mono ?_
             rintro e w8 ⟨rfl, rfl⟩))
        all_goals
          go_wp2_with fail
          go_roundw
          case rel => exact ⟨i + 1, _, _, _, _, _, by go_num, by omega, HW4.out, hst7.out⟩
          case measure => simp [intOf]; omega
    · have HS := Lib.hid hst
      clear hst
      go_wp2_with fail
      go_ret
      exact ⟨rfl, HS.out.b⟩
end Go.Proofs.YtmmgbgekcpbelaaDoor
