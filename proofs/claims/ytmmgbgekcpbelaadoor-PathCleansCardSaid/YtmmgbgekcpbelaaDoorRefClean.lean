/-
  The walk of the reference's CleanOf.
-/
import Derived.Test.YtmmgbgekcpbelaaDoorRefP
import Derived.Test.YtmmgbgekcpbelaaDoorPathLaw1
import Derived.Test.YtmmgbgekcpbelaaDoorSameT
namespace Go.Proofs.YtmmgbgekcpbelaaDoor
open Go Go.RowKit Go.Kf

theorem cleanFold_take {ws : List (List UInt8)} {k : Nat} (hk : k < ws.length) : cleanFold (ws.take (k + 1)) = cleanStep (cleanFold (ws.take k)) ws[k] := by
  rw [List.take_succ_eq_append_getElem hk, cleanFold_snoc]
theorem join_take {l : List (List UInt8)} {k : Nat} (h1 : 1 ≤ k) (hk : k < l.length) : Lib.join (l.take (k + 1)) [47] = Lib.join (l.take k) [47] ++ 47 :: l[k] := by
  rw [List.take_succ_eq_append_getElem hk, join_snoc _ (by intro e; have := congrArg List.length e; rw [List.length_take, List.length_nil] at this; omega)]

set_option maxRecDepth 100000 in
set_option maxHeartbeats 2000000 in
theorem cleanOf_any (s : List UInt8) (w : World) (hs : s.length ≤ 1000000) :
    Calls Tryd.prog 40 #[str s] w fun e w' => e = .returned (.tuple #[str (cleanR s).1, .int .i64 (cleanR s).2]) ∧ Below w.heap.size w w' := by
  by_cases h2 : 200 < s.length
  · have hcl : cleanR s = ([], 2) := by unfold cleanR; rw [if_pos h2]
    rw [hcl]
    clear hcl
    go_enter Tryd.func40, Tryd.ntmps40
    go_wp2
    go_ret2
    exact ⟨rfl, Below.refl _ _⟩
  · have hclr : cleanR s = finR (cleanFold (spl 47 s)) := by unfold cleanR; rw [if_neg h2]
    have hsl := spl_length_le 47 s
    have hpos := spl_length_pos 47 s
    have hmem := spl_mem_len 47 s
    have hcut := cut_any s 47 w hs
    generalize hws : spl 47 s = ws at *
    rw [hclr]
    have HM := Lib.hid (fun t ht => Nat.le_trans (hmem t ht) (show s.length ≤ 200 by omega))
    have HCut := Lib.hid hcut
    clear hclr hws hmem hcut
    go_enter Tryd.func40, Tryd.ntmps40
    go_wp2_with fail
    refine HCut.out.mono ?_
    rintro e w1 ⟨v, rfl, hown, hb1⟩
    have hrd := ownsRow_reads hown
    obtain ⟨a, cap, rfl, -, -⟩ := id hrd
    have hll : ((ws.map str).length) = ws.length := List.length_map _
    rw [hll]
    rw [hll] at hrd
    have HR := Lib.hid hrd
    have HB1 := Lib.hid hb1
    have hz1 := hb1.size
    clear hrd hown hll hb1
    go_wp2_with fail
    go_loopw [5, 6] (fun v i wl => ∃ (k : Nat) (out : List (List UInt8)), i = .int .i64 k ∧ k ≤ ws.length ∧ cleanFold (ws.take k) = some out ∧ wl.ownsRow w1.heap.size 9 1 v out.length (out.map str) ∧ Below w1.heap.size w1 wl) (fun _ i _ => ws.length - (intOf i).toNat)
    case atStart => exact ⟨0, [], rfl, by omega, rfl, World.ownsRow_nil _ _ _ _, Below.refl _ _⟩
    case round =>
      obtain ⟨k, out, rfl, hk, hcf, hown, hb⟩ := hrel
      have hol := cleanFold_len hcf
      simp only [List.length_take] at hol
      have HCF := Lib.hid hcf
      clear hcf
      by_cases hlt : k < ws.length
      · obtain ⟨b, o, hix, hce⟩ := (HR.out.below1 hb (Nat.le_refl _)).at (P := Tryd.prog) Tryd.underlying29 (by kernel_rfl) k (by simpa using hlt)
        simp only [List.getElem_map] at hce
        have HT := Lib.hid (cleanFold_take hlt)
        obtain ⟨x, hx⟩ : ∃ x, ws[k] = x := ⟨_, rfl⟩
        rw [hx, HCF.out] at HT
        rw [hx] at hce
        clear hx
        by_cases hx1 : x = [] ∨ x = [46]
        · have HI : Hid (cleanFold (ws.take (k + 1)) = some out) := Lib.hid (by rw [HT.out, cleanStep, if_pos hx1])
          rcases hx1 with rfl | rfl
          all_goals
            go_wp2
            go_roundw
            case rel => exact ⟨k + 1, out, by go_num, by omega, HI.out, hown, hb⟩
            case measure => simp [intOf]; omega
        · have n1 : ¬ x = [] := fun e => hx1 (Or.inl e)
          have n2 : ¬ x = [46] := fun e => hx1 (Or.inr e)
          have HX1 := Lib.hid hx1
          clear hx1
          by_cases hx2 : x = [46, 46]
          · subst hx2
            by_cases ho : out = []
            · subst ho
              obtain ⟨a2, cap2, rfl, -, -⟩ := ownsRow_reads hown
              have HX : Hid (cleanFold ws = none) := Lib.hid (cleanFold_prefix (List.take_prefix (k + 1) ws) (by rw [HT.out, cleanStep, if_neg HX1.out, if_pos rfl, if_pos rfl]))
              clear n1 n2
              go_wp2
              go_ret2
              rw [HX.out]
              exact ⟨rfl, HB1.out.trans (hb.mono hz1)⟩
            · obtain ⟨a2, cap2, rfl, -, -⟩ := ownsRow_reads hown
              rw [List.length_map] at hown
              obtain ⟨m, hm⟩ : ∃ m, out.length = m + 1 := ⟨out.length - 1, by have := List.length_pos_iff.2 ho; omega⟩
              have HI : Hid (cleanFold (ws.take (k + 1)) = some out.dropLast) := Lib.hid (by rw [HT.out, cleanStep, if_neg HX1.out, if_pos rfl, if_neg ho])
              obtain ⟨g, rfl⟩ : ∃ g, a2 = some ⟨g, 0, none⟩ := by
                rcases hown.2 with ⟨hv, hz⟩ | ⟨g, cap', cur, hv, _⟩
                · omega
                · injection hv with hv1; exact ⟨g, hv1⟩
              have hcap : m + 1 ≤ cap2 := by
                rcases hown.2 with ⟨hv, _⟩ | ⟨g', cap', cur, hv, _, _, hn, _⟩
                · cases hv
                · injection hv with hv1 hv2 hv3; omega
              rw [hm] at hown
              have hm5 : m ≤ 1000 := by omega
              have hcut := ownsRow_cut (m := m) hown (by omega)
              have hdl : (out.map str).take m = out.dropLast.map str := by
                rw [List.dropLast_eq_take, ← List.map_take, hm]; rfl
              have hdn : out.dropLast.length = m := by rw [List.length_dropLast, hm]; rfl
              rw [hdl] at hcut
              have hsub : (m : Int) + 1 - 1 = (m : Int) := by omega
              have HC : Hid _ := Lib.hid hcut
              have HD := Lib.hid hdn
              rw [List.length_map, hm]
              clear n1 n2 hm hdl hdn hcut ho
              go_wp2
              go_roundw
              case rel => exact ⟨k + 1, out.dropLast, by go_num, by omega, HI.out, by rw [HD.out]; exact HC.out, hb⟩
              case measure => simp [intOf]; omega
          · have HI : Hid (cleanFold (ws.take (k + 1)) = some (out ++ [x])) := Lib.hid (by rw [HT.out, cleanStep, if_neg HX1.out, if_neg hx2])
            have d1 : (x == [46]) = false := by simpa using n2
            have d2 : (x == [46, 46]) = false := by simpa using hx2
            have d3 : x.isEmpty = false := by simpa using n1
            clear n2 hx2
            go_wp2_with (
              at_builtin
              refine wpList_app _ rfl _ _ 29 rfl tyStrsK w1.heap.size _ out.length (out.map str) rfl (hown.alloc _) ⟨wr.heap.size, 0, none⟩ 1 1 [str x] rfl rfl (news_one ?_) ?_ (by decide) ?_ ?_ ?_
              · simp [go_sem]
              · intro u hu; simp at hu; subst hu; rfl
              · omega
              · have := hb.size; simp; omega
              intro v5 w5 ho5 hg5 hloc5
              have b5 : Below w1.heap.size w1 w5 := (hb.alloc hb.size _).grown hg5 (by have := hb.size; simp; omega) (fun k hk => (hown.lt k hk).1)
              have HO5 := Lib.hid ho5
              clear ho5 hg5 hloc5)
            go_roundw
            case rel => exact ⟨k + 1, out ++ [x], by go_num, by omega, HI.out, by simpa using HO5.out, b5⟩
            case measure => simp [intOf]; omega
      · obtain rfl : k = ws.length := by omega
        rw [List.take_length] at HCF
        have hrd := ownsRow_reads hown
        obtain ⟨a2, cap2, rfl, -, -⟩ := id hrd
        have hll : ((out.map str).length) = out.length := List.length_map _
        rw [hll] at hrd
        rw [hll]
        have HRo := Lib.hid hrd
        have hbl := HB1.out.trans (hb.mono hz1)
        have hmem := cleanFold_mem HCF.out HM.out
        clear hown hrd hll
        cases out with
        | nil =>
          go_wp2
          go_ret2
          rw [HCF.out]
          exact ⟨rfl, hbl⟩
        | cons x0 r =>
          obtain ⟨out, ho⟩ : ∃ out, x0 :: r = out := ⟨_, rfl⟩
          have hfin : finR (some out) = if partsL (Lib.join out [47]) false = [] then ([], 4) else (Lib.join out [47], 0) := by rw [← ho]; rfl
          have hol1 : 1 ≤ out.length := by rw [← ho]; simp
          have hj1 : Lib.join (out.take 1) [47] = x0 := by rw [← ho]; simp [Lib.join_cons, Lib.joinTail]
          have ho0 : ∀ h, out[0]'h = x0 := by intro h; subst ho; rfl
          rw [ho] at hol hmem HRo HCF ⊢
          have HFin : Hid (finR (cleanFold ws) = if partsL (Lib.join out [47]) false = [] then ([], 4) else (Lib.join out [47], 0)) := Lib.hid (by rw [HCF.out, hfin])
          have HJ := Lib.hid hj1
          have HMo := Lib.hid hmem
          clear ho hfin hmem hj1 HCF
          obtain ⟨b0, o0, hix0, hce0⟩ := HRo.out.at (P := Tryd.prog) Tryd.underlying29 (by kernel_rfl) 0 (by rw [List.length_map]; omega)
          simp only [List.getElem_map, ho0] at hce0
          rw [show ((0 : Nat) : Int) = 0 from rfl] at hix0
          go_wp2_with fail
          go_loop [7, 8] (fun t i => ∃ k : Nat, 1 ≤ k ∧ k ≤ out.length ∧ t = str (Lib.join (out.take k) [47]) ∧ i = .int .i64 k) (fun _ i => out.length - (intOf i).toNat)
          case atStart => exact ⟨1, by omega, hol1, by rw [HJ.out], rfl⟩
          case round =>
            obtain ⟨k, hk1, hk, rfl, rfl⟩ := hrel
            have hjl := join_len (out.take k) 200 (fun t ht => HMo.out t (List.mem_of_mem_take ht))
            rw [List.length_take] at hjl
            by_cases hlt : k < out.length
            · obtain ⟨b, o, hix, hce⟩ := HRo.out.at (P := Tryd.prog) Tryd.underlying29 (by kernel_rfl) k (by simpa using hlt)
              simp only [List.getElem_map] at hce
              have hjt := join_take hk1 hlt
              have hml := HMo.out _ (List.getElem_mem hlt)
              have hje : (⟨(Lib.join (out.take k) [47]).toArray⟩ : ByteArray) ++ (⟨#[47]⟩ : ByteArray) ++ (⟨(out[k]).toArray⟩ : ByteArray) = ⟨(Lib.join (out.take (k + 1)) [47]).toArray⟩ := by
                rw [show (⟨#[47]⟩ : ByteArray) = ⟨([47] : List UInt8).toArray⟩ from rfl, str_app, str_app, hjt]
                simp
              have hjl2 : (Lib.join (out.take k) [47]).length ≤ 100000 := by
                have : (200 + 1) * min k out.length ≤ 201 * 201 := Nat.mul_le_mul_left 201 (by omega)
                omega
              have HJE := Lib.hid hje
              clear hje hjt hjl
              generalize out[k] = y at *
              generalize Lib.join (out.take k) [47] = z at *
              go_wp2
              go_round
              case rel => exact ⟨k + 1, by omega, by omega, congrArg Value.string HJE.out, by go_num⟩
              case measure => simp [intOf]; omega
            · obtain rfl : k = out.length := by omega
              rw [List.take_length] at hjl ⊢
              have hjl2 : (Lib.join out [47]).length ≤ 100000 := by
                have : (200 + 1) * min out.length out.length ≤ 201 * 201 := Nat.mul_le_mul_left 201 (by omega)
                omega
              generalize Lib.join out [47] = z at *
              have hip := fun w2 => isPath_any z w2 (by omega)
              by_cases hz : partsL z false = []
              · have e : isPathB z = false := by unfold isPathB; rw [hz]; rfl
                rw [e] at hip
                have HIP := Lib.hid hip
                have HFI : Hid (finR (cleanFold ws) = ([], 4)) := Lib.hid (by rw [HFin.out, if_pos hz])
                clear hz e hip hjl HFin
                go_wp2_with fail
                refine (HIP.out _).mono ?_
                rintro e w3 ⟨rfl, hb3⟩
                go_wp2
                go_ret2
                rw [HFI.out]
                exact ⟨rfl, hbl.trans (hb3.mono hbl.size)⟩
              · have e : isPathB z = true := by unfold isPathB; simpa using hz
                rw [e] at hip
                have HIP := Lib.hid hip
                have HFI : Hid (finR (cleanFold ws) = (z, 0)) := Lib.hid (by rw [HFin.out, if_neg hz])
                clear hz e hip hjl HFin
                go_wp2_with fail
                refine (HIP.out _).mono ?_
                rintro e w3 ⟨rfl, hb3⟩
                go_wp2
                go_ret2
                rw [HFI.out]
                exact ⟨rfl, hbl.trans (hb3.mono hbl.size)⟩
end Go.Proofs.YtmmgbgekcpbelaaDoor
