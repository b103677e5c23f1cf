/-
  Package graph: Leaves at any rules.
-/
import Derived.Test.YtmlmogllgnfklaaGreatDoorGAid
namespace Go.Proofs.YtmlmogllgnfklaaGreatDoor
open Go Go.RowKit Go.Kf Go.Sort Go.Proofs

theorem any_outs (R : List RV) (s : List UInt8) : (R.any fun x => x.1.out == s) = ((R.map Prod.fst).map RuleL.out).contains s := by
  rw [Bool.eq_iff_iff, List.any_eq_true, List.contains_iff_mem, List.map_map, List.mem_map]
  constructor
  · rintro ⟨x, hx, e⟩
    exact ⟨x, hx, by simpa using e⟩
  · rintro ⟨x, hx, e⟩
    exact ⟨x, hx, by simpa using e⟩
/-- What Leaves answers. -/
def LeavesAns (S : Nat → Addr) (l : List RuleL) (B : Nat) (e : Ending) (w' : World) : Prop :=
  (RightS l ∧ ∃ u, e = .returned (.tuple #[u, .nilIface]) ∧ w'.ownsRow B 9 1 u (leavesB l).length ((leavesB l).map str)) ∨ ∃ T x, e = .returned (.tuple #[.slice none 0 0, .iface T x]) ∧ SheetBad S l B (.iface T x) w'

set_option maxRecDepth 100000 in
set_option maxHeartbeats 4000000 in
theorem gleaves_any (R : List RV) (v : Value) (w : World) (S : Nat → Addr) (hR : RulesAt w v R) (hcap : Roomy v) (hm : Ml w) (hE : KErr w S) (hN : NErr w) (ht : Tab w)
    (hb : ∀ x ∈ R, x.1.out.length ≤ 1000000 ∧ x.1.word.length ≤ 100000 ∧ (∀ s ∈ x.1.ins, s.length ≤ 1000000) ∧ x.1.ins.length ≤ 1000) (hn : R.length ≤ 100000) :
    Calls Tryz.prog 12 #[v] w fun e w' => LeavesAns S (R.map Prod.fst) w.heap.size e w' ∧ Below w.heap.size w w' := by
  obtain ⟨a, c, hv, -, -⟩ := id hR.1
  rw [List.length_map] at hv
  subst hv
  have KS := Lib.hid (sheet_any R (.slice a R.length c) w S hR hcap hm hE hN ht hb hn)
  have HR := Lib.hid hR
  have HB := Lib.hid hb
  have hml : (R.map Prod.fst).length = R.length := List.length_map _
  have HML := Lib.hid hml
  obtain ⟨OUTS, hOUTS⟩ : ∃ o, (R.map Prod.fst).map RuleL.out = o := ⟨_, rfl⟩
  have HOUTS := Lib.hid hOUTS
  have HANY : Hid (∀ s, (R.any fun x => x.1.out == s) = OUTS.contains s) := Lib.hid (fun s => by rw [any_outs, hOUTS])
  have HLN : Hid (∀ i, (looseAll OUTS ((R.map Prod.fst).take i)).length ≤ 1000 * R.length) := Lib.hid (fun i => by
    refine Nat.le_trans (loose_len _ (fun r hr => ?_)) ?_
    · obtain ⟨x, hx, rfl⟩ := List.mem_map.1 (List.mem_of_mem_take hr)
      exact (hb x hx).2.2.2
    · rw [List.length_take, hml]
      exact Nat.mul_le_mul_left _ (by omega))
  clear hR hcap hm hE hN ht hb hml hOUTS
  go_enter Tryz.func12, Tryz.ntmps12
  go_wp2_with fail
  refine KS.out.mono ?_
  rintro e w1 ⟨hs, hb1⟩
  rcases sheet_split hs with ⟨hrs, rfl⟩ | ⟨T, x, rfl, hbad⟩
  case inr =>
    have HB1 := Lib.hid hb1
    have HBAD := Lib.hid hbad
    clear hs hb1 hbad
    go_wp2
    go_ret2
    exact ⟨Or.inr ⟨T, x, rfl, HBAD.out⟩, HB1.out⟩
  case inl =>
    have HRS := Lib.hid hrs
    have h40 : R.length ≤ 40 := by have := hrs.1; rw [HML.out] at this; exact this
    have HB1 := Lib.hid hb1
    have hz1 := hb1.size
    have HW : Hid (∀ wl, Below w1.heap.size w1 wl → Below w.heap.size w wl) := Lib.hid (fun wl h => HB1.out.trans (h.mono HB1.out.size))
    clear hs hb1 hrs KS
    go_wp2_with fail
    go_loopw [5, 17] (fun ov iv wl => ∃ i : Nat, i ≤ R.length ∧ iv = .int .i64 i ∧ wl.ownsRow w1.heap.size 9 1 ov (looseAll OUTS ((R.map Prod.fst).take i)).length ((looseAll OUTS ((R.map Prod.fst).take i)).map str) ∧ Below w1.heap.size w1 wl) (fun _ iv _ => R.length - (intOf iv).toNat)
    case atStart => exact ⟨0, by omega, rfl, World.ownsRow_nil _ _ _ _, Below.refl _ _⟩
    case round =>
      obtain ⟨i, hi, rfl, hown, hbi⟩ := hrel
      have HOW := Lib.hid hown
      have HBI := Lib.hid hbi
      have hzi := hbi.size
      by_cases hlt : i < R.length
      · have hlc : ((i : Int) < (R.length : Int)) = True := eq_true (by omega)
        have hri2 := HR.out.below0 (HW.out _ hbi)
        obtain ⟨b, o, hix, -, hce⟩ := hri2.1.at (P := Tryz.prog) Tryz.underlying22 (by kernel_rfl) i (by simpa using hlt)
        simp only [List.getElem_map] at hce
        have hc0 := hce 0 _ rfl
        have hc1 := hce 1 _ rfl
        have hc2 := hce 2 _ rfl
        have hc3 := hce 3 _ rfl
        simp only [Nat.add_zero] at hc0
        have hin := List.getElem_mem hlt
        have hrv := (HR.out.2 _ hin).1
        have hil := (HB.out _ hin).2.2.2
        have HTK : Hid (∀ x, R[i] = x → looseAll OUTS ((R.map Prod.fst).take (i + 1)) = looseAll OUTS ((R.map Prod.fst).take i) ++ looseB OUTS x.1.ins) := Lib.hid (fun x hx => by
          rw [List.take_succ_eq_append_getElem (by rw [HML.out]; exact hlt), looseAll_snoc, List.getElem_map, hx])
        clear hce hin hri2
        generalize hx : R[i] = x at *
        have HTK2 := Lib.hid (HTK.out x rfl)
        clear hx HTK
        obtain ⟨r, u⟩ := x
        simp only at hc0 hc1 hc2 hc3 hrv hil HTK2
        obtain ⟨au, cu, hu, -, -⟩ := id hrv
        rw [List.length_map] at hu
        subst hu
        obtain ⟨W2, hW2⟩ : ∃ W2, wr.alloc (.cells #[str r.out, str r.kind, str r.word, .slice au r.ins.length cu] 27) = W2 := ⟨_, rfl⟩
        have hA : Below wr.heap.size wr W2 := hW2 ▸ (Below.refl _ wr).alloc (Nat.le_refl _) _
        have hq3 : W2.cell? ⟨wr.heap.size, 3, none⟩ = some (.slice au r.ins.length cu) := by rw [← hW2, cell_of_heap (heap_alloc_here wr _)]; rfl
        have hz2 : W2.heap.size = wr.heap.size + 1 := by rw [← hW2]; simp
        have HA := Lib.hid hA
        have HU := Lib.hid hrv
        have HO2 := Lib.hid (ownsRow_fr (S := fun _ => False) hown (Fr.of_below hA) (fun k hk => ⟨(hown.lt k hk).2, id⟩))
        have HB2 := Lib.hid (hbi.trans (hA.mono hzi))
        have hpl := HLN.out i
        clear hown hbi hrv hA
        go_wp2_with fail
        go_loopw [5, 24] (fun ov jv wl => ∃ k : Nat, k ≤ r.ins.length ∧ jv = .int .i64 k ∧ wl.ownsRow w1.heap.size 9 1 ov (looseAll OUTS ((R.map Prod.fst).take i) ++ looseB OUTS (r.ins.take k)).length ((looseAll OUTS ((R.map Prod.fst).take i) ++ looseB OUTS (r.ins.take k)).map str) ∧ Below w1.heap.size w1 wl) (fun _ jv _ => r.ins.length - (intOf jv).toNat)
        case atStart => exact ⟨0, by omega, rfl, by rw [List.take_zero, show looseB OUTS [] = [] from rfl, List.append_nil]; exact HO2.out, HB2.out⟩
        case round =>
          obtain ⟨k, hk, rfl, hown, hbk⟩ := hrel
          have HOK := Lib.hid hown
          have HBK := Lib.hid hbk
          have hzk := hbk.size
          by_cases hkl : k < r.ins.length
          · have hlc2 : ((k : Int) < (r.ins.length : Int)) = True := eq_true (by omega)
            obtain ⟨b2, o2, hix2, hce2⟩ := (HU.out.below0 (HW.out _ hbk)).at (P := Tryz.prog) Tryz.underlying25 (by kernel_rfl) k (by simpa using hkl)
            simp only [List.getElem_map] at hce2
            have HSN : Hid (looseB OUTS (r.ins.take (k + 1)) = looseB OUTS (r.ins.take k) ++ if OUTS.contains r.ins[k] then [] else [r.ins[k]]) := Lib.hid (by rw [List.take_succ_eq_append_getElem hkl, looseB_snoc])
            generalize r.ins[k] = s at *
            obtain ⟨W4, hW4⟩ : ∃ W, wr.alloc (.cells #[str s] 9) = W := ⟨_, rfl⟩
            have hA4 : Below wr.heap.size wr W4 := hW4 ▸ (Below.refl _ wr).alloc (Nat.le_refl _) _
            have hq0 : W4.cell? ⟨wr.heap.size, 0, none⟩ = some (str s) := by rw [← hW4, cell_of_heap (heap_alloc_here wr _)]; rfl
            have hz4 : W4.heap.size = wr.heap.size + 1 := by rw [← hW4]; simp
            have hB4 : Below w1.heap.size w1 W4 := hbk.trans (hA4.mono hzk)
            have KA := anyRule_any (fun x => x.1.out == s) 42 (.pointer (some ⟨wr.heap.size, 0, none⟩)) (.slice a R.length c) R W4 (HR.out.below0 (HW.out _ hB4)).1
              ⟨fun _ _ => rfl, fun W x hW => leaves1_any x wr.heap.size s W ((hW.cell (p := ⟨wr.heap.size, 0, none⟩) (by simp; omega)).trans hq0)⟩
            rw [HANY.out] at KA
            have HB4 := Lib.hid hB4
            have HA4 := Lib.hid hA4
            have HQ0 := Lib.hid hq0
            have hlk : (looseAll OUTS ((R.map Prod.fst).take i) ++ looseB OUTS (r.ins.take k)).length ≤ 1000000 := by
              have h1 : (looseB OUTS (r.ins.take k)).length ≤ (r.ins.take k).length := List.length_filter_le _ _
              rw [List.length_take] at h1
              rw [List.length_append]
              omega
            clear hown hbk hA4 hB4
            cases hco : OUTS.contains s with
            | true =>
              rw [hco] at KA HSN
              have KA1 := Lib.hid KA
              simp only [if_true, List.append_nil] at HSN
              clear KA hco
              go_wp2_with fail
              refine KA1.out.mono ?_
              rintro e w5 ⟨rfl, hb5⟩
              have HF5 : Hid (Below wr.heap.size wr w5) := Lib.hid (HA4.out.trans (hb5.mono (by omega)))
              clear hb5
              go_wp2
              go_roundw
              case rel => exact ⟨k + 1, by omega, by go_num, by rw [HSN.out]; exact ownsRow_fr (S := fun _ => False) HOK.out (Fr.of_below HF5.out) (fun k hk => ⟨(HOK.out.lt k hk).2, id⟩), HBK.out.trans (HF5.out.mono hzk)⟩
              case measure => simp [intOf]; omega
            | false =>
              rw [hco] at KA HSN
              have KA1 := Lib.hid KA
              simp only [Bool.false_eq_true, if_false] at HSN
              clear KA hco
              go_wp2_with fail
              refine KA1.out.mono ?_
              rintro e w5 ⟨rfl, hb5⟩
              have hq5 : w5.cell? ⟨wr.heap.size, 0, none⟩ = some (str s) := (hb5.cell (p := ⟨wr.heap.size, 0, none⟩) (by simp; omega)).trans HQ0.out
              have HF5 : Hid (Below wr.heap.size wr w5) := Lib.hid (HA4.out.trans (hb5.mono (by omega)))
              have hz5 := HF5.out.size
              have HO5 := Lib.hid (ownsRow_fr (S := fun _ => False) HOK.out (Fr.of_below HF5.out) (fun k hk => ⟨(HOK.out.lt k hk).2, id⟩))
              clear hb5 hq0
              go_wp2_with (first
                | (at_builtin
                   refine wpList_app _ rfl _ _ 25 rfl tyStrsA w1.heap.size _ _ _ rfl (HO5.out.alloc _) ⟨w5.heap.size, 0, none⟩ 1 1 [str s] rfl rfl (news_one ?_) ?_ (by decide) ?_ ?_ ?_
                   · rw [cell_of_heap (heap_alloc_here w5 _)]; rfl
                   · intro u hu; simp at hu; subst hu; rfl
                   · omega
                   · simp; omega
                   intro v6 w6 ho6 hg6 hloc6
                   have HO6 : Hid (w6.ownsRow w1.heap.size 9 1 v6 (looseAll OUTS ((R.map Prod.fst).take i) ++ looseB OUTS (r.ins.take (k + 1))).length ((looseAll OUTS ((R.map Prod.fst).take i) ++ looseB OUTS (r.ins.take (k + 1))).map str)) := Lib.hid (by
                     rw [HSN.out, ← List.append_assoc, List.length_append, List.map_append]
                     exact ho6)
                   have HG6 : Hid (∀ B, B ≤ w1.heap.size → Below B w5 w6) := Lib.hid (fun B hB => ((Below.refl _ w5).alloc (by omega) _).grown hg6 (by simp; omega) (fun q hq => by have := (HO5.out.lt q hq).1; omega))
                   clear ho6 hg6 hloc6))
              go_wp2
              go_roundw
              case rel => exact ⟨k + 1, by omega, by go_num, HO6.out, (HBK.out.trans (HF5.out.mono hzk)).trans (HG6.out _ (Nat.le_refl _))⟩
              case measure => simp [intOf]; omega
          · obtain rfl : k = r.ins.length := by omega
            have hlc2 : ((r.ins.length : Int) < (r.ins.length : Int)) = False := eq_false (by omega)
            have hown2 := hown
            rw [List.take_length, ← HTK2.out] at hown2
            have HO9 := Lib.hid hown2
            clear hown hbk hown2
            go_wp2
            go_roundw
            case rel => exact ⟨i + 1, by omega, by go_num, HO9.out, HBK.out⟩
            case measure => simp [intOf]; omega
      · obtain rfl : i = R.length := by omega
        have hlc : ((R.length : Int) < (R.length : Int)) = False := eq_false (by omega)
        have hown2 := hown
        rw [← HML.out, List.take_length] at hown2
        have hll : (looseAll OUTS (R.map Prod.fst)).length ≤ 1000 * R.length := by have h := HLN.out (R.map Prod.fst).length; rw [List.take_length] at h; exact h
        have KQ := Lib.hid (sort_any u5 (looseAll OUTS (R.map Prod.fst)) w1.heap.size wr hown2 (by omega))
        have HLO := Lib.hid hown2
        have HSL : Hid (∀ w2, w2.ownsRow w1.heap.size 9 1 u5 (sortB (looseAll OUTS (R.map Prod.fst))).length ((sortB (looseAll OUTS (R.map Prod.fst))).map str) → Calls Tryz.prog 44 #[u5] w2 fun e w' => ∃ v', e = .returned v' ∧ w'.ownsRow w1.heap.size 9 1 v' (leavesB (R.map Prod.fst)).length ((leavesB (R.map Prod.fst)).map str) ∧ w2.grownBy w' u5.ownBlock) := Lib.hid (fun w2 h => by
          have h1 := compact_any u5 _ w1.heap.size w2 h (by rw [(sortB_perm _).length_eq]; omega)
          unfold leavesB
          rw [HOUTS.out]
          exact h1)
        clear hown hbi hown2
        go_wp2_with fail
        refine KQ.out.mono ?_
        rintro e w2 ⟨rfl, ho2, hg2⟩
        have HC := Lib.hid (HSL.out w2 ho2)
        have HG2 := Lib.hid (HBI.out.grown hg2 hzi (fun q hq => (HLO.out.lt q hq).1))
        have HLT := Lib.hid (fun q hq => (ho2.lt q hq).1)
        clear ho2 hg2
        go_wp2_with fail
        refine HC.out.mono ?_
        rintro e w3 ⟨v3, rfl, ho3, hg3⟩
        have HO3 := Lib.hid (ownsRow_base ho3 hz1)
        have HG3 := Lib.hid (HW.out _ (HG2.out.grown hg3 HG2.out.size (fun q hq => HLT.out q hq)))
        clear ho3 hg3
        go_wp2
        go_ret2
        exact ⟨Or.inl ⟨HRS.out, _, rfl, HO3.out⟩, HG3.out⟩
end Go.Proofs.YtmlmogllgnfklaaGreatDoor
