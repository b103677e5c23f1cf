/-
  The reference's order, in plain words. LongTexts at any texts. The laws' LongRules and OwnRules at any rules. What the laws of what is wanted stand on. What is wanted of files, by rules, in plain words.
-/
import Derived.Test.YtgjialbmlhbngaaGreatDoorPkH
import Derived.Test.YtgjialbmlhbngaaGreatDoorPkG
import Derived.Test.YtgjialbmlhbngaaGreatDoorPkC
import Derived.Test.YtgjialbmlhbngaaGreatDoorPkF
import Derived.Test.YtgjialbmlhbngaaGreatDoorPkE

namespace Go.Proofs.YtgjialbmlhbngaaGreatDoor
open Go Go.RowKit Go.Kf Go.Sort Go.Proofs

end Go.Proofs.YtgjialbmlhbngaaGreatDoor

/-
  The reference: AllOf, OrderOf; the laws' numbers.
-/
namespace Go.Proofs.YtgjialbmlhbngaaGreatDoor
open Go Go.RowKit Go.Kf Go.Sort Go.Proofs

end Go.Proofs.YtgjialbmlhbngaaGreatDoor

/-
  The reference: NeededOf.
-/
namespace Go.Proofs.YtgjialbmlhbngaaGreatDoor
open Go Go.RowKit Go.Kf Go.Sort Go.Proofs

theorem needL_nodup (n : Nat) (N : List Nat) : (needL n N).Nodup := List.Pairwise.filter _ List.nodup_range
end Go.Proofs.YtgjialbmlhbngaaGreatDoor

namespace Go.Proofs.YtgjialbmlhbngaaGreatDoor
open Go Go.RowKit Go.Kf

/-- What LongTexts lets pass. -/
def FewTexts (l : List (List UInt8)) (many most : Nat) : Prop := l.length ≤ many ∧ (∀ s ∈ l, s.length ≤ most) ∧ (l.map List.length).sum ≤ most
def LongPost (l : List (List UInt8)) (many most : Nat) (w : World) (e : Ending) (w' : World) : Prop := w = w' ∧ ((e = .returned (.int .i64 1)) ∨ (e = .returned (.int .i64 0) ∧ FewTexts l many most))
theorem sum_take_succ {l : List (List UInt8)} {j : Nat} (h : j < l.length) : ((l.take (j + 1)).map List.length).sum = ((l.take j).map List.length).sum + l[j].length := by
  rw [List.take_succ_eq_append_getElem h]
  simp only [List.map_append, List.map_cons, List.map_nil, List.sum_append, List.sum_cons, List.sum_nil, Nat.add_zero]

set_option maxRecDepth 100000 in
theorem longTexts_any (v : Value) (l : List (List UInt8)) (many most : Nat) (w : World) (hr : Reads w v (l.map str)) (hm : many ≤ 1000) (hM : most ≤ 1000000) :
    Calls Tryz.prog 27 #[v, .int .i64 many, .int .i64 most] w (LongPost l many most w) := by
  have hle := hr.le
  obtain ⟨a, cap, rfl, -, -⟩ := id hr
  simp only [List.length_map] at *
  have HR := Lib.hid hr
  clear hr
  by_cases hlm : many < l.length
  · go_enter Tryz.func27, Tryz.ntmps27
    go_wp2
    go_ret
    exact ⟨rfl, Or.inl rfl⟩
  · go_enter Tryz.func27, Tryz.ntmps27
    go_wp2
    go_loop [7, 8] (fun n i => ∃ j : Nat, j ≤ l.length ∧ i = .int .i64 j ∧ n = .int .i64 ((l.take j).map List.length).sum ∧ (∀ s ∈ l.take j, s.length ≤ most) ∧ ((l.take j).map List.length).sum ≤ most) (fun _ i => l.length - (intOf i).toNat)
    case atStart => exact ⟨0, by omega, rfl, rfl, by simp, by simp⟩
    case round =>
      obtain ⟨j, hj, rfl, rfl, hall, hsum⟩ := hrel
      have HA := Lib.hid hall
      clear hall
      by_cases hlt : j < l.length
      · obtain ⟨b, o, hix, hce⟩ := HR.out.at (P := Tryz.prog) Tryz.underlying33 (by kernel_rfl) j (by simpa using hlt)
        simp only [List.getElem_map] at hce
        have HS := Lib.hid (sum_take_succ hlt)
        have hmem : ∀ s ∈ l.take (j + 1), s ∈ l.take j ∨ s = l[j] := by
          intro s hs
          rw [List.take_succ_eq_append_getElem hlt] at hs
          simpa only [List.mem_append, List.mem_singleton] using hs
        have HM := Lib.hid hmem
        clear hmem
        generalize ((l.take j).map List.length).sum = n at *
        generalize l[j] = s at *
        by_cases hs : s.length ≤ most
        · by_cases hs2 : n + s.length ≤ most
          · go_wp2
            go_round
            case rel =>
              refine ⟨j + 1, by omega, by go_num, by rw [HS.out]; go_num, fun t ht => ?_, by rw [HS.out]; omega⟩
              rcases HM.out t ht with h | rfl
              · exact HA.out t h
              · exact hs
            case measure => simp [intOf]; omega
          · go_wp2
            go_ret
            exact ⟨rfl, Or.inl rfl⟩
        · go_wp2
          go_ret
          exact ⟨rfl, Or.inl rfl⟩
      · obtain rfl : j = l.length := by omega
        rw [List.take_length] at hsum HA
        go_wp2
        go_ret
        exact ⟨rfl, Or.inr ⟨rfl, by omega, HA.out, hsum⟩⟩

end Go.Proofs.YtgjialbmlhbngaaGreatDoor

namespace Go.Proofs.YtgjialbmlhbngaaGreatDoor
open Go Go.RowKit Go.Kf Go.Sort Go.Proofs

/-- A rule that is short. -/
def ShortR (r : RuleL) : Prop := r.out.length ≤ 100 ∧ r.kind.length ≤ 60 ∧ r.word.length ≤ 150 ∧ FewTexts r.ins 12 300
def LongRPost (R : List RV) (many : Nat) (w : World) (e : Ending) (w' : World) : Prop := w = w' ∧ (e = .returned (.int .i64 1) ∨ (e = .returned (.int .i64 0) ∧ (R.length ≤ many ∨ R.length = 41) ∧ ∀ x ∈ R, ShortR x.1))

set_option maxRecDepth 100000 in
set_option maxHeartbeats 1000000 in
theorem longRules_any (R : List RV) (v : Value) (many : Nat) (w : World) (hr : ReadsK 4 w v (R.map rvRow)) (hi : ∀ x ∈ R, Reads w x.2 (x.1.ins.map str)) (_hm : many ≤ 1000) :
    Calls Tryz.prog 12 #[v, .int .i64 many] w (LongRPost R many w) := by
  have hle := hr.le
  obtain ⟨a, c, rfl, -, -⟩ := id hr
  simp only [List.length_map] at *
  have HR := Lib.hid hr
  have HI := Lib.hid hi
  clear hr hi
  by_cases hlong : many < R.length ∧ R.length ≠ 41
  · have d1 : ((many : Int) < (R.length : Int)) = True := eq_true (by omega)
    have d2 : ((R.length : Int) != 41) = true := by rw [bne_iff_ne]; omega
    clear hlong
    go_enter Tryz.func12, Tryz.ntmps12
    go_wp2
    go_ret
    exact ⟨rfl, Or.inl rfl⟩
  · have HOK : Hid (R.length ≤ many ∨ R.length = 41) := Lib.hid (by omega)
    have hcs : ((many : Int) < (R.length : Int)) = False ∨ (((many : Int) < (R.length : Int)) = True ∧ ((R.length : Int) != 41) = false) := by
      by_cases h : many < R.length
      · exact Or.inr ⟨eq_true (by omega), by rw [show R.length = 41 by omega]; rfl⟩
      · exact Or.inl (eq_false (by omega))
    clear hlong
    rcases hcs with d1 | ⟨d1, d2⟩
    all_goals
      go_enter Tryz.func12, Tryz.ntmps12
      go_wp2_with fail
      go_loopw [5] (fun iv wl => ∃ i : Nat, i ≤ R.length ∧ iv = .int .i64 i ∧ (∀ x ∈ R.take i, ShortR x.1) ∧ wl = w) (fun iv _ => R.length - (intOf iv).toNat)
      case atStart => exact ⟨0, by omega, rfl, fun x hx => by simp at hx, rfl⟩
      case round =>
        obtain ⟨i, hi, rfl, hsh, rfl⟩ := hrel
        have HSH := Lib.hid hsh
        clear hsh
        by_cases hlt : i < R.length
        · have hlc : ((i : Int) < (R.length : Int)) = True := eq_true (by omega)
          obtain ⟨b, o, hix, -, hce⟩ := HR.out.at (P := Tryz.prog) Tryz.underlying22 (by kernel_rfl) i (by simpa using hlt)
          simp only [List.getElem_map] at hce
          have hc0 := hce 0 _ rfl
          have hc1 := hce 1 _ rfl
          have hc2 := hce 2 _ rfl
          have hc3 := hce 3 _ rfl
          simp only [Nat.add_zero] at hc0
          have hrx := HI.out _ (List.getElem_mem hlt)
          have HTK : Hid (∀ x, R[i] = x → ShortR x.1 → ∀ y ∈ R.take (i + 1), ShortR y.1) := Lib.hid (fun x hx h y hy => by
            rw [List.take_succ_eq_append_getElem hlt] at hy
            rcases List.mem_append.1 hy with hy | hy
            · exact HSH.out y hy
            · rw [List.mem_singleton.1 hy, hx]; exact h)
          clear hce
          generalize hx : R[i] = x at *
          have HTK2 := Lib.hid (HTK.out x rfl)
          clear hx HTK
          obtain ⟨r, u⟩ := x
          simp only at hc0 hc1 hc2 hc3 hrx HTK2
          have KT := Lib.hid (longTexts_any u r.ins 12 300 wr hrx (by decide) (by decide))
          clear hrx
          by_cases h1 : 100 < r.out.length
          · have e1 : ((100 : Int) < (r.out.length : Int)) = True := eq_true (by omega)
            go_wp2
            go_ret
            exact ⟨rfl, Or.inl rfl⟩
          · have e1 : ((100 : Int) < (r.out.length : Int)) = False := eq_false (by omega)
            by_cases h2 : 60 < r.kind.length
            · have e2 : ((60 : Int) < (r.kind.length : Int)) = True := eq_true (by omega)
              go_wp2
              go_ret
              exact ⟨rfl, Or.inl rfl⟩
            · have e2 : ((60 : Int) < (r.kind.length : Int)) = False := eq_false (by omega)
              by_cases h3 : 150 < r.word.length
              · have e3 : ((150 : Int) < (r.word.length : Int)) = True := eq_true (by omega)
                go_wp2
                go_ret
                exact ⟨rfl, Or.inl rfl⟩
              · have e3 : ((150 : Int) < (r.word.length : Int)) = False := eq_false (by omega)
                go_wp2_with fail
                refine KT.out.mono ?_
                rintro e w2 ⟨rfl, rfl | ⟨rfl, hfew⟩⟩
                · go_wp2
                  go_ret
                  exact ⟨rfl, Or.inl rfl⟩
                · have HS2 := Lib.hid (HTK2.out ⟨by omega, by omega, by omega, hfew⟩)
                  clear hfew
                  go_wp2
                  go_roundw
                  case rel => exact ⟨i + 1, by omega, by go_num, HS2.out, by first | rfl | trivial⟩
                  case measure => simp [intOf]; omega
        · obtain rfl : i = R.length := by omega
          have hlc : ((R.length : Int) < (R.length : Int)) = False := eq_false (by omega)
          have HF : Hid (∀ x ∈ R, ShortR x.1) := Lib.hid (by have := HSH.out; rw [List.take_length] at this; exact this)
          go_wp2
          go_ret
          exact ⟨rfl, Or.inr ⟨rfl, HOK.out, HF.out⟩⟩

set_option maxRecDepth 100000 in
/-- OwnTexts: a slice of the call's own. -/
theorem own_row (v : Value) (l : List (List UInt8)) (w : World) (hr : Reads w v (l.map str)) (hn : NilOr v) (hl : l.length ≤ 1000) :
    Calls Tryz.prog 32 #[v] w fun e w' => ∃ v', e = .returned v' ∧ w'.ownsRow w.heap.size 9 1 v' l.length (l.map str) ∧ Below w.heap.size w w' := by
  rcases hn with rfl | ⟨ad, n, c, rfl⟩
  · obtain ⟨i, hi, hz0, hz1, hz2⟩ := info_parts tyStrsK.info
    obtain rfl : l = [] := by
      have := hr.len
      rw [List.length_map] at this
      exact List.length_eq_zero_iff.1 this.symm
    clear hr
    go_enter Tryz.func32, Tryz.ntmps32
    go_wp2_with (at_builtin; refine wpList_append_own_none rfl _ _ 33 rfl 0 9 i 1 tyStrsK.und hi _ 0 [] rfl (World.ownsRow_nil _ _ _ _) rfl ?_)
    go_ret
    exact ⟨_, rfl, World.ownsRow_nil _ _ _ _, Below.refl _ _⟩
  · obtain rfl := hr.len
    have HR := Lib.hid hr
    have hm : (l.map str).length = l.length := List.length_map _
    rw [hm]
    clear hr hm
    go_enter Tryz.func32, Tryz.ntmps32
    go_wp2_with (at_builtin; refine wpList_app _ rfl _ _ 33 rfl tyStrsK w.heap.size _ 0 [] rfl (World.ownsRow_nil _ _ _ _) ad l.length c (l.map str) rfl (by simp) ?c1 ?c2 (by decide) (by omega) (Nat.le_refl _) ?_)
    case c1 =>
      intro j u hj
      obtain ⟨a', cap', e, -, hc⟩ := HR.out
      cases e
      obtain ⟨b, o, e, hcell⟩ := hc j u hj
      cases e
      rw [addr_add rfl]
      exact hcell
    case c2 =>
      intro u hu
      obtain ⟨t, -, rfl⟩ := List.mem_map.1 hu
      rfl
    intro v' w' hown hgrow hblk
    go_wp2
    go_ret
    refine ⟨_, rfl, ?_, (Below.refl _ _).grown hgrow (Nat.le_refl _) (fun k hk => by cases hk)⟩
    simpa using hown

theorem ownsRow_roomy {w : World} {base : Nat} {e : TypeId} {s : Nat} {v : Value} {n : Nat} {xs : List Value} (h : w.ownsRow base e s v n xs) : Roomy v := by
  rcases h.2 with ⟨rfl, -⟩ | ⟨g, cap, cur, rfl, -, -, hcn, -⟩
  · intro a n c h
    cases h
    exact Nat.le_refl _
  · intro a n c h
    cases h
    exact hcn

theorem tyRules : SliceTyK Tryz.prog 22 35 (.agg #[str [], str [], str [], .slice none 0 0]) 4 72 := ⟨Tryz.underlying22, by kernel_rfl, rfl, by decide⟩
/-- The rules of the call's own: the row, and each one's inputs, in a block of their own. -/
def OwnAt (B : Nat) (w : World) (v : Value) (R : List RV) : Prop :=
  w.ownsRow B 35 4 v R.length (R.map rvRow).flatten ∧ ∀ x ∈ R, w.ownsRow B 9 1 x.2 x.1.ins.length (x.1.ins.map str) ∧ ∀ k, x.2.ownBlock = some k → v.ownBlock ≠ some k
theorem OwnAt.rules {B : Nat} {w : World} {v : Value} {R : List RV} (h : OwnAt B w v R) : RulesAt w v R ∧ Roomy v :=
  ⟨⟨ownsRow_readsK h.1 (List.length_map _) (fun r hr => by obtain ⟨x, -, rfl⟩ := List.mem_map.1 hr; rfl), fun x hx => ⟨ownsRow_reads (h.2 x hx).1, ownsRow_roomy (h.2 x hx).1⟩⟩, ownsRow_roomy h.1⟩
end Go.Proofs.YtgjialbmlhbngaaGreatDoor

/-
  The laws' OwnRules at any rules.
-/
namespace Go.Proofs.YtgjialbmlhbngaaGreatDoor
open Go Go.RowKit Go.Kf Go.Sort Go.Proofs

theorem OwnAt.fr {B : Nat} {w w' : World} {v : Value} {R : List RV} (h : OwnAt B w v R) (hb : Below w.heap.size w w') : OwnAt B w' v R :=
  ⟨ownsRow_fr (S := fun _ => False) h.1 (Fr.of_below hb) (fun k hk => ⟨(h.1.lt k hk).2, id⟩), fun x hx => ⟨ownsRow_fr (S := fun _ => False) (h.2 x hx).1 (Fr.of_below hb) (fun k hk => ⟨((h.2 x hx).1.lt k hk).2, id⟩), (h.2 x hx).2⟩⟩

set_option maxRecDepth 100000 in
set_option maxHeartbeats 2000000 in
theorem ownRules_any (R : List RV) (v : Value) (w : World) (hr : ReadsK 4 w v (R.map rvRow)) (hi : ∀ x ∈ R, Reads w x.2 (x.1.ins.map str) ∧ NilOr x.2 ∧ x.1.ins.length ≤ 1000) (hn : R.length ≤ 1000) :
    Calls Tryz.prog 15 #[v] w fun e w' => ∃ v' R', e = .returned v' ∧ R'.map Prod.fst = R.map Prod.fst ∧ OwnAt w.heap.size w' v' R' ∧ Below w.heap.size w w' := by
  have hle := hr.le
  obtain ⟨a, c, rfl, -, -⟩ := id hr
  simp only [List.length_map] at *
  have HR := Lib.hid (fun w1 (hb : Below w.heap.size w w1) => readsK_below0 hr (fun r hr => by obtain ⟨x, -, rfl⟩ := List.mem_map.1 hr; simp [rvRow]) hb)
  have HI := Lib.hid hi
  clear hr hi
  go_enter Tryz.func15, Tryz.ntmps15
  go_wp2_with fail
  go_loopw [3, 4] (fun lv iv wl => ∃ (i : Nat) (R2 : List RV), i ≤ R.length ∧ iv = .int .i64 i ∧ R2.map Prod.fst = (R.take i).map Prod.fst ∧ OwnAt w.heap.size wl lv R2 ∧ Below w.heap.size w wl) (fun _ iv _ => R.length - (intOf iv).toNat)
  case atStart => exact ⟨0, [], by omega, rfl, rfl, ⟨World.ownsRow_nil _ _ _ _, fun x hx => by cases hx⟩, Below.refl _ _⟩
  case round =>
    obtain ⟨i, R2, hi, rfl, hfst, hown, hbi⟩ := hrel
    have HF := Lib.hid hfst
    have HO := Lib.hid hown
    have HBi := Lib.hid hbi
    have hzi := hbi.size
    have hl2 : R2.length = i := by
      have := congrArg List.length hfst
      rw [List.length_map, List.length_map, List.length_take] at this
      omega
    clear hfst hown
    by_cases hlt : i < R.length
    · have hlc : ((i : Int) < (R.length : Int)) = True := eq_true (by omega)
      obtain ⟨b, o, hix, -, hce⟩ := (HR.out _ hbi).at (P := Tryz.prog) Tryz.underlying22 (by kernel_rfl) i (by simpa using hlt)
      simp only [List.getElem_map] at hce
      have hc0 := hce 0 _ rfl
      have hc1 := hce 1 _ rfl
      have hc2 := hce 2 _ rfl
      have hc3 := hce 3 _ rfl
      simp only [Nat.add_zero] at hc0
      obtain ⟨hrx, hnx, hlx⟩ := HI.out _ (List.getElem_mem hlt)
      have HTK : Hid (∀ x u', R[i] = x → (R2 ++ [(x.1, u')]).map Prod.fst = (R.take (i + 1)).map Prod.fst) := Lib.hid (fun x u' hx => by
        rw [List.take_succ_eq_append_getElem hlt, List.map_append, List.map_append, HF.out, hx]
        rfl)
      clear hce
      generalize hx : R[i] = x at *
      have HTK2 := Lib.hid (fun u' => HTK.out x u' rfl)
      clear hx HTK
      obtain ⟨r, u⟩ := x
      simp only at hc0 hc1 hc2 hc3 hrx hnx hlx HTK2
      have KO := Lib.hid (own_row u r.ins wr (hrx.below0 hbi) hnx hlx)
      clear hrx hnx hbi
      go_wp2_with fail
      refine KO.out.mono ?_
      rintro e w2 ⟨u2, rfl, hou, hb2⟩
      have hz2 := hb2.size
      have HO2 := Lib.hid (HO.out.fr hb2)
      have HB2 := Lib.hid (HBi.out.trans (hb2.mono hzi))
      have hbz := HB2.out.size
      have HU := Lib.hid (ownsRow_base hou hzi)
      have HUN : Hid (∀ k, u2.ownBlock = some k → u3.ownBlock ≠ some k) := Lib.hid (fun k hk e => by
        have h1 := (hou.lt k hk).1
        have h2 := (HO.out.1.lt k e).2
        omega)
      have hq0 := (hb2.cell (p := ⟨b, o, none⟩) (lt_of_cell hc0)).trans hc0
      have hq1 := (hb2.cell (p := ⟨b, o + 1, none⟩) (lt_of_cell hc1)).trans hc1
      have hq2 := (hb2.cell (p := ⟨b, o + 2, none⟩) (lt_of_cell hc2)).trans hc2
      obtain ⟨au, cu, hu2, -, -⟩ := id (ownsRow_reads hou)
      rw [List.length_map] at hu2
      subst hu2
      clear hc0 hc1 hc2 hc3 hou hb2 KO
      go_wp2_with fail
      go_region_law (first
        | (refine step_appK rfl (.tmp 18) (.tmp 36) 22 rfl tyRules w.heap.size u3 _ _ rfl (by first | exact HO2.out.1.alloc _ | exact HO2.out.1.drew.alloc _ | exact (HO2.out.1.alloc _).drew) ⟨w2.heap.size, 0, none⟩ 1 1 [str r.out, str r.kind, str r.word, .slice au r.ins.length cu] rfl rfl ?_ ?_ (by decide) ?_ ?_ ?_
           · first | exact news_block w2 [str r.out, str r.kind, str r.word, .slice au r.ins.length cu] _ | exact news_block w2.drew [str r.out, str r.kind, str r.word, .slice au r.ins.length cu] _
           · intro u hu; simp at hu; rcases hu with rfl | rfl | rfl | rfl <;> rfl
           · omega
           · simp; omega
           intro v5 w5 ho5 hg5 hloc5))
      all_goals
        have HX5 : Hid (∀ (B' : Nat) (x : Value) (n : Nat) (xs : List Value), w2.ownsRow w.heap.size 9 1 x n xs → (∀ k, x.ownBlock = some k → u3.ownBlock ≠ some k) → w5.ownsRow w.heap.size 9 1 x n xs ∧ ∀ k, x.ownBlock = some k → v5.ownBlock ≠ some k) := Lib.hid (fun B' x n xs hx hne => by
          have hfr := Fr.of_grown hg5
          have hlt : ∀ k, x.ownBlock = some k → k < w2.heap.size := fun k hk => (hx.lt k hk).2
          refine ⟨ownsRow_fr (by first | exact hx.alloc _ | exact hx.drew.alloc _ | exact (hx.alloc _).drew) hfr (fun k hk => ⟨by have := hlt k hk; simp; omega, hne k hk⟩), fun k hk e => ?_⟩
          rcases hloc5 with h | h
          · rw [h] at e; exact hne k hk e
          · rw [h] at e
            have h1 := Option.some.inj e
            have h2 := hlt k hk
            simp at h1
            omega)
        have HB5 : Hid (Below w.heap.size w w5) := Lib.hid (by
          first
          | exact ((HB2.out.alloc hbz _).drew).grown hg5 (by simp; omega) (fun r hr => (HO2.out.1.lt r hr).1)
          | exact (HB2.out.alloc hbz _).grown hg5 (by simp; omega) (fun r hr => (HO2.out.1.lt r hr).1))
        have HO5 := Lib.hid ho5
        clear ho5 hg5 hloc5
        go_wp2
        go_roundw
        case rel =>
          refine ⟨i + 1, R2 ++ [(r, .slice au r.ins.length cu)], by omega, by go_num, HTK2.out _, ⟨?_, fun x hx => ?_⟩, HB5.out⟩
          · have h5 := HO5.out
            rw [List.map_append, List.flatten_append, List.length_append]
            simpa [rvRow] using h5
          · rcases List.mem_append.1 hx with hx | hx
            · exact HX5.out 0 _ _ _ (HO2.out.2 x hx).1 (HO2.out.2 x hx).2
            · obtain rfl := List.mem_singleton.1 hx
              exact HX5.out 0 _ _ _ (by have := HU.out; exact this) HUN.out
        case measure => simp [intOf]; omega
    · obtain rfl : i = R.length := by omega
      have hlc : ((R.length : Int) < (R.length : Int)) = False := eq_false (by omega)
      have HFF : Hid (R2.map Prod.fst = R.map Prod.fst) := Lib.hid (by have := HF.out; rw [List.take_length] at this; exact this)
      clear hbi
      go_wp2
      go_ret
      exact ⟨_, R2, rfl, HFF.out, HO.out, HBi.out⟩
end Go.Proofs.YtgjialbmlhbngaaGreatDoor

namespace Go.Proofs.YtgjialbmlhbngaaGreatDoor
open Go Go.RowKit Go.Kf Go.Sort Go.Proofs

theorem own_rulesT {w : World} {v : Value} {R : List RV} (h : ∃ B, OwnAt B w v R) : RulesAt w v R ∧ Roomy v := by
  obtain ⟨B, h⟩ := h
  exact h.rules
/-- What is short is not long. -/
theorem short_bounds {R : List RV} (h : ∀ x ∈ R, ShortR x.1) : ∀ x ∈ R, x.1.out.length ≤ 1000000 ∧ x.1.word.length ≤ 100000 ∧ (∀ s ∈ x.1.ins, s.length ≤ 1000000) ∧ x.1.ins.length ≤ 1000 := fun x hx => by
  obtain ⟨h1, h2, h3, h4, h5, h6⟩ := h x hx
  exact ⟨by omega, by omega, fun s hs => by have := h5 s hs; omega, by omega⟩
theorem short_other {R R' : List RV} (h : ∀ x ∈ R, ShortR x.1) (he : R'.map Prod.fst = R.map Prod.fst) : ∀ x ∈ R', ShortR x.1 := fun x hx => by
  have hm : x.1 ∈ R.map Prod.fst := he ▸ List.mem_map.2 ⟨x, hx, rfl⟩
  obtain ⟨y, hy, e⟩ := List.mem_map.1 hm
  exact e ▸ h y hy

/-- One rule, as a statement's closed fact lays it. -/
def oneL : List RuleL := [⟨[98], [117, 112, 112, 101, 114], [], [[97]]⟩]
def oneR (b : Nat) : List RV := [(⟨[98], [117, 112, 112, 101, 114], [], [[97]]⟩, .slice (some ⟨b, 0, none⟩) 1 1)]
theorem oneL_right : RightS oneL := by
  have h0 : errAt oneL 0 ⟨[98], [117, 112, 112, 101, 114], [], [[97]]⟩ = 0 := by decide +kernel
  refine ⟨by decide, fun i r h => ?_⟩
  match i, h with
  | 0, h => cases h; exact h0
  | n + 1, h => cases h
theorem oneR_short (b : Nat) : ∀ x ∈ oneR b, x.1.out.length ≤ 1000000 ∧ x.1.word.length ≤ 100000 ∧ (∀ s ∈ x.1.ins, s.length ≤ 1000000) ∧ x.1.ins.length ≤ 1000 := by
  intro x hx
  simp only [oneR, List.mem_cons, List.not_mem_nil, or_false] at hx
  subst hx
  exact ⟨by simp, by simp, fun s hs => (by obtain rfl := List.mem_singleton.1 hs; simp), by simp⟩
theorem oneR_at {w W1 W2 : World} (h1 : w.alloc (.cells #[.string ⟨#[97]⟩] 9) = W1)
    (h2 : W1.alloc (.cells #[.string ⟨#[98]⟩, .string ⟨#[117, 112, 112, 101, 114]⟩, .string ⟨#[]⟩, .slice (some ⟨w.heap.size, 0, none⟩) 1 1] 35) = W2) :
    RulesAt W2 (.slice (some ⟨w.heap.size + 1, 0, none⟩) 1 1) (oneR w.heap.size) := by
  have hz : W1.heap.size = w.heap.size + 1 := by rw [← h1]; simp
  have hc : ∀ j, W2.cell? ⟨w.heap.size + 1, j, none⟩ = (#[Value.string ⟨#[98]⟩, .string ⟨#[117, 112, 112, 101, 114]⟩, .string ⟨#[]⟩, .slice (some ⟨w.heap.size, 0, none⟩) 1 1] : Array Value)[j]? := fun j => by
    rw [← hz, ← h2, cell_of_heap (heap_alloc_here W1 _)]
  have hb : W2.cell? ⟨w.heap.size, 0, none⟩ = some (.string ⟨#[97]⟩) := by
    have h3 : W1.cell? ⟨w.heap.size, 0, none⟩ = some (.string ⟨#[97]⟩) := by rw [← h1, cell_of_heap (heap_alloc_here w _)]; rfl
    rw [← h2]
    exact (((Below.refl _ W1).alloc (Nat.le_refl _) _).cell (p := ⟨w.heap.size, 0, none⟩) (by simp; omega)).trans h3
  refine ⟨⟨some ⟨w.heap.size + 1, 0, none⟩, 1, rfl, by simp [oneR], fun i row hi => ⟨_, _, rfl, fun j u hj => ?_⟩⟩, fun x hx => ?_⟩
  · rw [hc]
    match i, hi with
    | 0, hi =>
      cases hi
      match j, hj with
      | 0, hj => cases hj; rfl
      | 1, hj => cases hj; rfl
      | 2, hj => cases hj; rfl
      | 3, hj => cases hj; rfl
      | n + 4, hj => cases hj
    | n + 1, hi => cases hi
  · simp only [oneR, List.mem_cons, List.not_mem_nil, or_false] at hx
    subst hx
    refine ⟨⟨some ⟨w.heap.size, 0, none⟩, 1, rfl, by simp, fun i u hi => ⟨_, _, rfl, ?_⟩⟩, fun a n c h => ?_⟩
    · match i, hi with
      | 0, hi => cases hi; exact hb
      | n + 1, hi => cases hi
    · cases h
      exact Nat.le_refl _
end Go.Proofs.YtgjialbmlhbngaaGreatDoor

namespace Go.Proofs.YtgjialbmlhbngaaGreatDoor
open Go Go.RowKit Go.Kf Go.Sort Go.Proofs

/-- What is told: an error's number (0: none), bytes. -/
abbrev Told := Nat × List UInt8
abbrev Look := List UInt8 → Option (List UInt8)
/-- What a rule makes of what its inputs tell. -/
def toldOf (r : RuleL) (xs : List Told) : Told := match xs.find? (fun x => decide (x.1 ≠ 0)) with
  | some x => x
  | none => actOf r.kind r.word (xs.map Prod.snd)
def leafT (T : Look) (p : List UInt8) : Told := match T p with
  | some b => (0, b)
  | none => (6, [])
def wantF (l : List RuleL) (T : Look) : Nat → List UInt8 → Told
  | 0, _ => (0, [])
  | f + 1, p => match l.find? (fun r => r.out == p) with
    | some r => toldOf r (r.ins.map (wantF l T f))
    | none => leafT T p
def wantV (l : List RuleL) (T : Look) (p : List UInt8) : Told := wantF l T (l.length + 2) p

theorem find_out {l : List RuleL} (hr : Right l) {i : Nat} (hi : i < l.length) : l.find? (fun r => r.out == l[i].out) = some l[i] := by
  rw [List.find?_eq_some_iff_getElem]
  refine ⟨by simp, i, hi, rfl, fun j hj => ?_⟩
  have : l[j].out ≠ l[i].out := fun e => by
    have := hr.outs (by omega) hi e
    omega
  simpa using this
theorem find_noout {l : List RuleL} {p : List UInt8} (h : p ∉ l.map RuleL.out) : l.find? (fun r => r.out == p) = none := by
  rw [List.find?_eq_none]
  intro r hr e
  exact h (List.mem_map.2 ⟨r, hr, by simpa using e⟩)
theorem out_cases (l : List RuleL) (p : List UInt8) : (∃ i, ∃ h : i < l.length, l[i].out = p) ∨ p ∉ l.map RuleL.out := by
  by_cases h : p ∈ l.map RuleL.out
  · obtain ⟨r, hr, e⟩ := List.mem_map.1 h
    obtain ⟨i, hi, rfl⟩ := List.mem_iff_getElem.1 hr
    exact Or.inl ⟨i, hi, e⟩
  · exact Or.inr h
/-- Those of an order are all that are so. -/
theorem order_mem {E : Nat → List Nat} {isB : Nat → Bool} {n : Nat} {o : List Nat} (h : orderB E isB n = some o) : Outs E isB n o ∧ ∀ i, i < n → isB i = true → i ∈ o := by
  unfold orderB at h
  obtain ⟨h1, h2⟩ := (orderGo_outs (manyB isB n) [] (outs_nil E isB n)).1 o h
  refine ⟨h1, fun i hi hb => Classical.byContradiction (fun hm => ?_)⟩
  have hs := nodup_sub (i :: o) ((List.range n).filter isB) (List.nodup_cons.2 ⟨hm, h1.nd⟩) (fun k hk => by
    rcases List.mem_cons.1 hk with rfl | hk
    · exact List.mem_filter.2 ⟨List.mem_range.2 hi, hb⟩
    · have := h1.lt k hk
      exact List.mem_filter.2 ⟨List.mem_range.2 this.1, this.2⟩)
  have hm : ((List.range n).filter isB).length = manyB isB n := rfl
  simp only [List.length_cons, List.length_nil, Nat.zero_add] at hs h2
  omega
theorem wantF_leaf {l : List RuleL} {T : Look} {p : List UInt8} (h : p ∉ l.map RuleL.out) (f : Nat) : wantF l T (f + 1) p = leafT T p := by
  unfold wantF
  rw [find_noout h]
theorem wantF_rule {l : List RuleL} {T : Look} (hr : Right l) {i : Nat} (hi : i < l.length) (f : Nat) : wantF l T (f + 1) l[i].out = toldOf l[i] (l[i].ins.map (wantF l T f)) := by
  conv => lhs; unfold wantF
  rw [find_out hr hi]
theorem want_stable {l : List RuleL} {T : Look} {isB : Nat → Bool} {o : List Nat} (hr : Right l) (ho : Outs (edgesB l) isB l.length o) :
    ∀ (t : Nat) (ht : t < o.length) (hn : o[t] < l.length) (f f' : Nat), t + 2 ≤ f → t + 2 ≤ f' → wantF l T f l[o[t]].out = wantF l T f' l[o[t]].out := by
  intro t
  induction t using Nat.strongRecOn with
  | ind t ih =>
    intro ht hn f f' hf hf'
    obtain ⟨g, rfl⟩ : ∃ g, f = g + 1 := ⟨f - 1, by omega⟩
    obtain ⟨g', rfl⟩ : ∃ g, f' = g + 1 := ⟨f' - 1, by omega⟩
    rw [wantF_rule hr hn, wantF_rule hr hn]
    congr 1
    refine List.map_congr_left (fun s hs => ?_)
    rcases out_cases l s with ⟨j, hj, rfl⟩ | hno
    · have hje : j ∈ edgesB l o[t] := (mem_edges hn).2 ⟨hj, hs⟩
      obtain ⟨t', ht', e⟩ := List.mem_iff_getElem.1 (ho.back t ht j hje)
      rw [List.length_take] at ht'
      rw [List.getElem_take] at e
      subst e
      exact ih t' (by omega) (by omega) hj g g' (by omega) (by omega)
    · obtain ⟨k, rfl⟩ : ∃ k, g = k + 1 := ⟨g - 1, by omega⟩
      obtain ⟨k', rfl⟩ : ∃ k, g' = k + 1 := ⟨g' - 1, by omega⟩
      rw [wantF_leaf hno, wantF_leaf hno]
theorem wantV_leaf {l : List RuleL} {T : Look} {p : List UInt8} (h : p ∉ l.map RuleL.out) : wantV l T p = leafT T p := wantF_leaf h _
theorem outs_len {E : Nat → List Nat} {isB : Nat → Bool} {n : Nat} {o : List Nat} (h : Outs E isB n o) : o.length ≤ n := nodup_le n o h.nd (fun k hk => (h.lt k hk).1)
theorem wantV_rule {l : List RuleL} {T : Look} {isB : Nat → Bool} {o : List Nat} (hr : Right l) (ho : Outs (edgesB l) isB l.length o) {i : Nat} (hi : i < l.length) (hm : i ∈ o) : wantV l T l[i].out = toldOf l[i] (l[i].ins.map (wantV l T)) := by
  unfold wantV
  rw [wantF_rule hr hi]
  congr 1
  refine List.map_congr_left (fun s hs => ?_)
  rcases out_cases l s with ⟨j, hj, rfl⟩ | hno
  · obtain ⟨t, ht, e⟩ := List.mem_iff_getElem.1 hm
    subst e
    have hje : j ∈ edgesB l o[t] := (mem_edges hi).2 ⟨hj, hs⟩
    obtain ⟨t', ht', e⟩ := List.mem_iff_getElem.1 (ho.back t ht j hje)
    rw [List.length_take] at ht'
    rw [List.getElem_take] at e
    subst e
    have := outs_len ho
    exact want_stable hr ho t' (by omega) hj _ _ (by omega) (by omega)
  · rw [wantF_leaf hno, wantF_leaf hno]
theorem actOf_len (k w : List UInt8) (ins : List (List UInt8)) : (actOf k w ins).2.length ≤ 2000 := by
  unfold actOf
  split
  · split
    · simp
    · split
      · simp
      · rename_i h; exact Nat.le_of_not_lt h
  · simp
theorem actOf_err (k w : List UInt8) (ins : List (List UInt8)) : (actOf k w ins).1 ≠ 0 → (actOf k w ins).2 = [] := by
  unfold actOf
  split
  · split
    · intro h; exact absurd rfl h
    · split
      · intro _; rfl
      · intro h; exact absurd rfl h
  · intro _; rfl
theorem actErr_code (k w : List UInt8) (n : Nat) : actErr k w n = 0 ∨ actErr k w n = 3 ∨ actErr k w n = 5 ∨ actErr k w n = 10 := by
  unfold actErr
  split
  · omega
  · split
    · split <;> omega
    · omega
theorem actOf_code (k w : List UInt8) (ins : List (List UInt8)) : (actOf k w ins).1 = 0 ∨ (actOf k w ins).1 = 3 ∨ (actOf k w ins).1 = 5 ∨ (actOf k w ins).1 = 10 := by
  unfold actOf
  split
  · split
    · exact Or.inl rfl
    · split
      · exact Or.inr (Or.inr (Or.inr rfl))
      · exact Or.inl rfl
  · exact actErr_code _ _ _
/-- What is always so of what is told. -/
structure ToldOk (x : Told) : Prop where
  len : x.2.length ≤ 2000
  err : x.1 ≠ 0 → x.2 = []
  code : x.1 = 0 ∨ x.1 = 3 ∨ x.1 = 5 ∨ x.1 = 6 ∨ x.1 = 10
theorem toldOk_act (k w : List UInt8) (ins : List (List UInt8)) : ToldOk (actOf k w ins) := ⟨actOf_len _ _ _, actOf_err _ _ _, by have := actOf_code k w ins; omega⟩
theorem toldOk_of {r : RuleL} {xs : List Told} (h : ∀ x ∈ xs, ToldOk x) : ToldOk (toldOf r xs) := by
  unfold toldOf
  split
  · rename_i x hx
    exact h x (List.mem_of_find?_eq_some hx)
  · exact toldOk_act _ _ _
theorem toldOk_leaf {T : Look} (hT : ∀ p b, T p = some b → b.length ≤ 2000) (p : List UInt8) : ToldOk (leafT T p) := by
  unfold leafT
  split
  · rename_i b hb
    exact ⟨hT p b hb, fun h => absurd rfl h, Or.inl rfl⟩
  · exact ⟨by simp, fun _ => rfl, by simp⟩
theorem toldOk_wantF {l : List RuleL} {T : Look} (hT : ∀ p b, T p = some b → b.length ≤ 2000) : ∀ (f : Nat) (p : List UInt8), ToldOk (wantF l T f p)
  | 0, _ => ⟨by simp [wantF], fun h => absurd rfl h, Or.inl rfl⟩
  | f + 1, p => by
    unfold wantF
    split
    · exact toldOk_of (fun x hx => by
        obtain ⟨s, -, rfl⟩ := List.mem_map.1 hx
        exact toldOk_wantF hT f s)
    · exact toldOk_leaf hT p
theorem toldOk_want {l : List RuleL} {T : Look} (hT : ∀ p b, T p = some b → b.length ≤ 2000) (p : List UInt8) : ToldOk (wantV l T p) := toldOk_wantF hT _ p
/-- The first error among what is told. -/
theorem toldOf_bad {r : RuleL} {xs : List Told} {i : Nat} (hi : i < xs.length) (hb : xs[i].1 ≠ 0) (ho : ∀ j (hj : j < xs.length), j < i → xs[j].1 = 0) : toldOf r xs = xs[i] := by
  unfold toldOf
  have : xs.find? (fun x => decide (x.1 ≠ 0)) = some xs[i] := by
    rw [List.find?_eq_some_iff_getElem]
    exact ⟨by simpa using hb, i, hi, rfl, fun j hj => by simpa using ho j (by omega) hj⟩
  rw [this]
theorem toldOf_good {r : RuleL} {xs : List Told} (h : ∀ x ∈ xs, x.1 = 0) : toldOf r xs = actOf r.kind r.word (xs.map Prod.snd) := by
  unfold toldOf
  have : xs.find? (fun x => decide (x.1 ≠ 0)) = none := by
    rw [List.find?_eq_none]
    intro x hx
    simpa using h x hx
  rw [this]
end Go.Proofs.YtgjialbmlhbngaaGreatDoor
