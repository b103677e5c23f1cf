/-
  The laws' LongRules and OwnRules at any rules.
-/
import Derived.Test.YtmlmogllgnfklaaGreatDoorRules
import Derived.Test.YtmlmogllgnfklaaGreatDoorLongT
namespace Go.Proofs.YtmlmogllgnfklaaGreatDoor
open Go Go.RowKit Go.Kf Go.Sort Go.Proofs

/-- A rule that is short. -/
def ShortR (r : RuleL) : Prop := r.out.length ≤ 100 ∧ r.kind.length ≤ 60 ∧ r.word.length ≤ 150 ∧ FewTexts r.ins 12 300
def LongRPost (R : List RV) (many : Nat) (w : World) (e : Ending) (w' : World) : Prop := w = w' ∧ (e = .returned (.int .i64 1) ∨ (e = .returned (.int .i64 0) ∧ (R.length ≤ many ∨ R.length = 41) ∧ ∀ x ∈ R, ShortR x.1))

set_option maxRecDepth 100000 in
set_option maxHeartbeats 1000000 in
theorem longRules_any (R : List RV) (v : Value) (many : Nat) (w : World) (hr : ReadsK 4 w v (R.map rvRow)) (hi : ∀ x ∈ R, Reads w x.2 (x.1.ins.map str)) (_hm : many ≤ 1000) :
    Calls Tryz.prog 8 #[v, .int .i64 many] w (LongRPost R many w) := by
  have hle := hr.le
  obtain ⟨a, c, rfl, -, -⟩ := id hr
  simp only [List.length_map] at *
  have HR := Lib.hid hr
  have HI := Lib.hid hi
  clear hr hi
  by_cases hlong : many < R.length ∧ R.length ≠ 41
  · have d1 : ((many : Int) < (R.length : Int)) = True := eq_true (by omega)
    have d2 : ((R.length : Int) != 41) = true := by rw [bne_iff_ne]; omega
    clear hlong
    go_enter Tryz.func8, Tryz.ntmps8
    go_wp2
    go_ret
    exact ⟨rfl, Or.inl rfl⟩
  · have HOK : Hid (R.length ≤ many ∨ R.length = 41) := Lib.hid (by omega)
    have hcs : ((many : Int) < (R.length : Int)) = False ∨ (((many : Int) < (R.length : Int)) = True ∧ ((R.length : Int) != 41) = false) := by
      by_cases h : many < R.length
      · exact Or.inr ⟨eq_true (by omega), by rw [show R.length = 41 by omega]; rfl⟩
      · exact Or.inl (eq_false (by omega))
    clear hlong
    rcases hcs with d1 | ⟨d1, d2⟩
    all_goals
      go_enter Tryz.func8, Tryz.ntmps8
      go_wp2_with fail
      go_loopw [5] (fun iv wl => ∃ i : Nat, i ≤ R.length ∧ iv = .int .i64 i ∧ (∀ x ∈ R.take i, ShortR x.1) ∧ wl = w) (fun iv _ => R.length - (intOf iv).toNat)
      case atStart => exact ⟨0, by omega, rfl, fun x hx => by simp at hx, rfl⟩
      case round =>
        obtain ⟨i, hi, rfl, hsh, rfl⟩ := hrel
        have HSH := Lib.hid hsh
        clear hsh
        by_cases hlt : i < R.length
        · have hlc : ((i : Int) < (R.length : Int)) = True := eq_true (by omega)
          obtain ⟨b, o, hix, -, hce⟩ := HR.out.at (P := Tryz.prog) Tryz.underlying22 (by kernel_rfl) i (by simpa using hlt)
          simp only [List.getElem_map] at hce
          have hc0 := hce 0 _ rfl
          have hc1 := hce 1 _ rfl
          have hc2 := hce 2 _ rfl
          have hc3 := hce 3 _ rfl
          simp only [Nat.add_zero] at hc0
          have hrx := HI.out _ (List.getElem_mem hlt)
          have HTK : Hid (∀ x, R[i] = x → ShortR x.1 → ∀ y ∈ R.take (i + 1), ShortR y.1) := Lib.hid (fun x hx h y hy => by
            rw [List.take_succ_eq_append_getElem hlt] at hy
            rcases List.mem_append.1 hy with hy | hy
            · exact HSH.out y hy
            · rw [List.mem_singleton.1 hy, hx]; exact h)
          clear hce
          generalize hx : R[i] = x at *
          have HTK2 := Lib.hid (HTK.out x rfl)
          clear hx HTK
          obtain ⟨r, u⟩ := x
          simp only at hc0 hc1 hc2 hc3 hrx HTK2
          have KT := Lib.hid (longTexts_any u r.ins 12 300 wr hrx (by decide) (by decide))
          clear hrx
          by_cases h1 : 100 < r.out.length
          · have e1 : ((100 : Int) < (r.out.length : Int)) = True := eq_true (by omega)
            go_wp2
            go_ret
            exact ⟨rfl, Or.inl rfl⟩
          · have e1 : ((100 : Int) < (r.out.length : Int)) = False := eq_false (by omega)
            by_cases h2 : 60 < r.kind.length
            · have e2 : ((60 : Int) < (r.kind.length : Int)) = True := eq_true (by omega)
              go_wp2
              go_ret
              exact ⟨rfl, Or.inl rfl⟩
            · have e2 : ((60 : Int) < (r.kind.length : Int)) = False := eq_false (by omega)
              by_cases h3 : 150 < r.word.length
              · have e3 : ((150 : Int) < (r.word.length : Int)) = True := eq_true (by omega)
                go_wp2
                go_ret
                exact ⟨rfl, Or.inl rfl⟩
              · have e3 : ((150 : Int) < (r.word.length : Int)) = False := eq_false (by omega)
                go_wp2_with fail
                refine KT.out.mono ?_
                rintro e w2 ⟨rfl, rfl | ⟨rfl, hfew⟩⟩
                · go_wp2
                  go_ret
                  exact ⟨rfl, Or.inl rfl⟩
                · have HS2 := Lib.hid (HTK2.out ⟨by omega, by omega, by omega, hfew⟩)
                  clear hfew
                  go_wp2
                  go_roundw
                  case rel => exact ⟨i + 1, by omega, by go_num, HS2.out, by first | rfl | trivial⟩
                  case measure => simp [intOf]; omega
        · obtain rfl : i = R.length := by omega
          have hlc : ((R.length : Int) < (R.length : Int)) = False := eq_false (by omega)
          have HF : Hid (∀ x ∈ R, ShortR x.1) := Lib.hid (by have := HSH.out; rw [List.take_length] at this; exact this)
          go_wp2
          go_ret
          exact ⟨rfl, Or.inr ⟨rfl, HOK.out, HF.out⟩⟩

set_option maxRecDepth 100000 in
/-- OwnTexts: a slice of the call's own. -/
theorem own_row (v : Value) (l : List (List UInt8)) (w : World) (hr : Reads w v (l.map str)) (hn : NilOr v) (hl : l.length ≤ 1000) :
    Calls Tryz.prog 29 #[v] w fun e w' => ∃ v', e = .returned v' ∧ w'.ownsRow w.heap.size 9 1 v' l.length (l.map str) ∧ Below w.heap.size w w' := by
  rcases hn with rfl | ⟨ad, n, c, rfl⟩
  · obtain ⟨i, hi, hz0, hz1, hz2⟩ := info_parts tyStrsK.info
    obtain rfl : l = [] := by
      have := hr.len
      rw [List.length_map] at this
      exact List.length_eq_zero_iff.1 this.symm
    clear hr
    go_enter Tryz.func29, Tryz.ntmps29
    go_wp2_with (at_builtin; refine wpList_append_own_none rfl _ _ 25 rfl 0 9 i 1 tyStrsK.und hi _ 0 [] rfl (World.ownsRow_nil _ _ _ _) rfl ?_)
    go_ret
    exact ⟨_, rfl, World.ownsRow_nil _ _ _ _, Below.refl _ _⟩
  · obtain rfl := hr.len
    have HR := Lib.hid hr
    have hm : (l.map str).length = l.length := List.length_map _
    rw [hm]
    clear hr hm
    go_enter Tryz.func29, Tryz.ntmps29
    go_wp2_with (at_builtin; refine wpList_app _ rfl _ _ 25 rfl tyStrsK w.heap.size _ 0 [] rfl (World.ownsRow_nil _ _ _ _) ad l.length c (l.map str) rfl (by simp) ?c1 ?c2 (by decide) (by omega) (Nat.le_refl _) ?_)
    case c1 =>
      intro j u hj
      obtain ⟨a', cap', e, -, hc⟩ := HR.out
      cases e
      obtain ⟨b, o, e, hcell⟩ := hc j u hj
      cases e
      rw [addr_add rfl]
      exact hcell
    case c2 =>
      intro u hu
      obtain ⟨t, -, rfl⟩ := List.mem_map.1 hu
      rfl
    intro v' w' hown hgrow hblk
    go_wp2
    go_ret
    refine ⟨_, rfl, ?_, (Below.refl _ _).grown hgrow (Nat.le_refl _) (fun k hk => by cases hk)⟩
    simpa using hown

theorem ownsRow_roomy {w : World} {base : Nat} {e : TypeId} {s : Nat} {v : Value} {n : Nat} {xs : List Value} (h : w.ownsRow base e s v n xs) : Roomy v := by
  rcases h.2 with ⟨rfl, -⟩ | ⟨g, cap, cur, rfl, -, -, hcn, -⟩
  · intro a n c h
    cases h
    exact Nat.le_refl _
  · intro a n c h
    cases h
    exact hcn

theorem tyRules : SliceTyK Tryz.prog 22 27 (.agg #[str [], str [], str [], .slice none 0 0]) 4 72 := ⟨Tryz.underlying22, by kernel_rfl, rfl, by decide⟩
/-- The rules of the call's own: the row, and each one's inputs, in a block of their own. -/
def OwnAt (B : Nat) (w : World) (v : Value) (R : List RV) : Prop :=
  w.ownsRow B 27 4 v R.length (R.map rvRow).flatten ∧ ∀ x ∈ R, w.ownsRow B 9 1 x.2 x.1.ins.length (x.1.ins.map str) ∧ ∀ k, x.2.ownBlock = some k → v.ownBlock ≠ some k
theorem OwnAt.rules {B : Nat} {w : World} {v : Value} {R : List RV} (h : OwnAt B w v R) : RulesAt w v R ∧ Roomy v :=
  ⟨⟨ownsRow_readsK h.1 (List.length_map _) (fun r hr => by obtain ⟨x, -, rfl⟩ := List.mem_map.1 hr; rfl), fun x hx => ⟨ownsRow_reads (h.2 x hx).1, ownsRow_roomy (h.2 x hx).1⟩⟩, ownsRow_roomy h.1⟩
end Go.Proofs.YtmlmogllgnfklaaGreatDoor

/-
  The laws' OwnRules at any rules.
-/
namespace Go.Proofs.YtmlmogllgnfklaaGreatDoor
open Go Go.RowKit Go.Kf Go.Sort Go.Proofs

theorem OwnAt.fr {B : Nat} {w w' : World} {v : Value} {R : List RV} (h : OwnAt B w v R) (hb : Below w.heap.size w w') : OwnAt B w' v R :=
  ⟨ownsRow_fr (S := fun _ => False) h.1 (Fr.of_below hb) (fun k hk => ⟨(h.1.lt k hk).2, id⟩), fun x hx => ⟨ownsRow_fr (S := fun _ => False) (h.2 x hx).1 (Fr.of_below hb) (fun k hk => ⟨((h.2 x hx).1.lt k hk).2, id⟩), (h.2 x hx).2⟩⟩

set_option maxRecDepth 100000 in
set_option maxHeartbeats 2000000 in
theorem ownRules_any (R : List RV) (v : Value) (w : World) (hr : ReadsK 4 w v (R.map rvRow)) (hi : ∀ x ∈ R, Reads w x.2 (x.1.ins.map str) ∧ NilOr x.2 ∧ x.1.ins.length ≤ 1000) (hn : R.length ≤ 1000) :
    Calls Tryz.prog 10 #[v] w fun e w' => ∃ v' R', e = .returned v' ∧ R'.map Prod.fst = R.map Prod.fst ∧ OwnAt w.heap.size w' v' R' ∧ Below w.heap.size w w' := by
  have hle := hr.le
  obtain ⟨a, c, rfl, -, -⟩ := id hr
  simp only [List.length_map] at *
  have HR := Lib.hid (fun w1 (hb : Below w.heap.size w w1) => readsK_below0 hr (fun r hr => by obtain ⟨x, -, rfl⟩ := List.mem_map.1 hr; simp [rvRow]) hb)
  have HI := Lib.hid hi
  clear hr hi
  go_enter Tryz.func10, Tryz.ntmps10
  go_wp2_with fail
  go_loopw [3, 4] (fun lv iv wl => ∃ (i : Nat) (R2 : List RV), i ≤ R.length ∧ iv = .int .i64 i ∧ R2.map Prod.fst = (R.take i).map Prod.fst ∧ OwnAt w.heap.size wl lv R2 ∧ Below w.heap.size w wl) (fun _ iv _ => R.length - (intOf iv).toNat)
  case atStart => exact ⟨0, [], by omega, rfl, rfl, ⟨World.ownsRow_nil _ _ _ _, fun x hx => by cases hx⟩, Below.refl _ _⟩
  case round =>
    obtain ⟨i, R2, hi, rfl, hfst, hown, hbi⟩ := hrel
    have HF := Lib.hid hfst
    have HO := Lib.hid hown
    have HBi := Lib.hid hbi
    have hzi := hbi.size
    have hl2 : R2.length = i := by
      have := congrArg List.length hfst
      rw [List.length_map, List.length_map, List.length_take] at this
      omega
    clear hfst hown
    by_cases hlt : i < R.length
    · have hlc : ((i : Int) < (R.length : Int)) = True := eq_true (by omega)
      obtain ⟨b, o, hix, -, hce⟩ := (HR.out _ hbi).at (P := Tryz.prog) Tryz.underlying22 (by kernel_rfl) i (by simpa using hlt)
      simp only [List.getElem_map] at hce
      have hc0 := hce 0 _ rfl
      have hc1 := hce 1 _ rfl
      have hc2 := hce 2 _ rfl
      have hc3 := hce 3 _ rfl
      simp only [Nat.add_zero] at hc0
      obtain ⟨hrx, hnx, hlx⟩ := HI.out _ (List.getElem_mem hlt)
      have HTK : Hid (∀ x u', R[i] = x → (R2 ++ [(x.1, u')]).map Prod.fst = (R.take (i + 1)).map Prod.fst) := Lib.hid (fun x u' hx => by
        rw [List.take_succ_eq_append_getElem hlt, List.map_append, List.map_append, HF.out, hx]
        rfl)
      clear hce
      generalize hx : R[i] = x at *
      have HTK2 := Lib.hid (fun u' => HTK.out x u' rfl)
      clear hx HTK
      obtain ⟨r, u⟩ := x
      simp only at hc0 hc1 hc2 hc3 hrx hnx hlx HTK2
      have KO := Lib.hid (own_row u r.ins wr (hrx.below0 hbi) hnx hlx)
      clear hrx hnx hbi
      go_wp2_with fail
      refine KO.out.mono ?_
      rintro e w2 ⟨u2, rfl, hou, hb2⟩
      have hz2 := hb2.size
      have HO2 := Lib.hid (HO.out.fr hb2)
      have HB2 := Lib.hid (HBi.out.trans (hb2.mono hzi))
      have hbz := HB2.out.size
      have HU := Lib.hid (ownsRow_base hou hzi)
      have HUN : Hid (∀ k, u2.ownBlock = some k → u3.ownBlock ≠ some k) := Lib.hid (fun k hk e => by
        have h1 := (hou.lt k hk).1
        have h2 := (HO.out.1.lt k e).2
        omega)
      have hq0 := (hb2.cell (p := ⟨b, o, none⟩) (lt_of_cell hc0)).trans hc0
      have hq1 := (hb2.cell (p := ⟨b, o + 1, none⟩) (lt_of_cell hc1)).trans hc1
      have hq2 := (hb2.cell (p := ⟨b, o + 2, none⟩) (lt_of_cell hc2)).trans hc2
      obtain ⟨au, cu, hu2, -, -⟩ := id (ownsRow_reads hou)
      rw [List.length_map] at hu2
      subst hu2
      clear hc0 hc1 hc2 hc3 hou hb2 KO
      go_wp2_with fail
      go_region_law (first
        | (refine step_appK rfl (.tmp 18) (.tmp 36) 22 rfl tyRules w.heap.size u3 _ _ rfl (by first | exact HO2.out.1.alloc _ | exact HO2.out.1.drew.alloc _ | exact (HO2.out.1.alloc _).drew) ⟨w2.heap.size, 0, none⟩ 1 1 [str r.out, str r.kind, str r.word, .slice au r.ins.length cu] rfl rfl ?_ ?_ (by decide) ?_ ?_ ?_
           · first | exact news_block w2 [str r.out, str r.kind, str r.word, .slice au r.ins.length cu] _ | exact news_block w2.drew [str r.out, str r.kind, str r.word, .slice au r.ins.length cu] _
           · intro u hu; simp at hu; rcases hu with rfl | rfl | rfl | rfl <;> rfl
           · omega
           · simp; omega
           intro v5 w5 ho5 hg5 hloc5))
      all_goals
        have HX5 : Hid (∀ (B' : Nat) (x : Value) (n : Nat) (xs : List Value), w2.ownsRow w.heap.size 9 1 x n xs → (∀ k, x.ownBlock = some k → u3.ownBlock ≠ some k) → w5.ownsRow w.heap.size 9 1 x n xs ∧ ∀ k, x.ownBlock = some k → v5.ownBlock ≠ some k) := Lib.hid (fun B' x n xs hx hne => by
          have hfr := Fr.of_grown hg5
          have hlt : ∀ k, x.ownBlock = some k → k < w2.heap.size := fun k hk => (hx.lt k hk).2
          refine ⟨ownsRow_fr (by first | exact hx.alloc _ | exact hx.drew.alloc _ | exact (hx.alloc _).drew) hfr (fun k hk => ⟨by have := hlt k hk; simp; omega, hne k hk⟩), fun k hk e => ?_⟩
          rcases hloc5 with h | h
          · rw [h] at e; exact hne k hk e
          · rw [h] at e
            have h1 := Option.some.inj e
            have h2 := hlt k hk
            simp at h1
            omega)
        have HB5 : Hid (Below w.heap.size w w5) := Lib.hid (by
          first
          | exact ((HB2.out.alloc hbz _).drew).grown hg5 (by simp; omega) (fun r hr => (HO2.out.1.lt r hr).1)
          | exact (HB2.out.alloc hbz _).grown hg5 (by simp; omega) (fun r hr => (HO2.out.1.lt r hr).1))
        have HO5 := Lib.hid ho5
        clear ho5 hg5 hloc5
        go_wp2
        go_roundw
        case rel =>
          refine ⟨i + 1, R2 ++ [(r, .slice au r.ins.length cu)], by omega, by go_num, HTK2.out _, ⟨?_, fun x hx => ?_⟩, HB5.out⟩
          · have h5 := HO5.out
            rw [List.map_append, List.flatten_append, List.length_append]
            simpa [rvRow] using h5
          · rcases List.mem_append.1 hx with hx | hx
            · exact HX5.out 0 _ _ _ (HO2.out.2 x hx).1 (HO2.out.2 x hx).2
            · obtain rfl := List.mem_singleton.1 hx
              exact HX5.out 0 _ _ _ (by have := HU.out; exact this) HUN.out
        case measure => simp [intOf]; omega
    · obtain rfl : i = R.length := by omega
      have hlc : ((R.length : Int) < (R.length : Int)) = False := eq_false (by omega)
      have HFF : Hid (R2.map Prod.fst = R.map Prod.fst) := Lib.hid (by have := HF.out; rw [List.take_length] at this; exact this)
      clear hbi
      go_wp2
      go_ret
      exact ⟨_, R2, rfl, HFF.out, HO.out, HBi.out⟩
end Go.Proofs.YtmlmogllgnfklaaGreatDoor
