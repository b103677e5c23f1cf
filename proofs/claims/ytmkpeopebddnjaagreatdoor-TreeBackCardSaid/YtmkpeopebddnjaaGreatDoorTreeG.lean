/-
  The program's tree: Glob.
-/
import Derived.Test.YtmkpeopebddnjaaGreatDoorTreeP
namespace Go.Proofs.YtmkpeopebddnjaaGreatDoor
open Go Go.RowKit Go.Kf Go.Sort

/-- The paths that a pattern fits. -/
def globK (pat : List UInt8) (ks : List (List UInt8)) : List (List UInt8) := ks.filter fun p => matchB pat p
def globL (pat : List UInt8) (ks : List (List UInt8)) : List (List UInt8) := if noMatch pat [97] = true then [] else globK pat ks
theorem globK_snoc_t {pat : List UInt8} {ks : List (List UInt8)} {p : List UInt8} (h : matchB pat p = true) : globK pat (ks ++ [p]) = globK pat ks ++ [p] := by simp [globK, h]
theorem globK_snoc_f {pat : List UInt8} {ks : List (List UInt8)} {p : List UInt8} (h : matchB pat p = false) : globK pat (ks ++ [p]) = globK pat ks := by simp [globK, h]
theorem globK_le (pat : List UInt8) (ks : List (List UInt8)) : (globK pat ks).length ≤ ks.length := List.length_filter_le _ _
theorem tyStrsG : SliceTy Tryz.prog 39 9 (str []) 16 := ⟨Tryz.underlying39, by kernel_rfl, rfl⟩

set_option maxHeartbeats 2000000 in
set_option maxRecDepth 100000 in
theorem glob_tree (tb mb : Nat) (m : List Ent) (pat : List UInt8) (w : World) (S : Nat → Addr) (h : TAt w tb mb m) (hm : Ml w) (hE : TErr w S) (hd : (m.map Prod.fst).Nodup) (hn : m.length ≤ 1000) (hk : ∀ x ∈ m, x.1.length ≤ 1000) (hp : pat.length ≤ 1000) :
    Calls Tryz.prog 16 #[.pointer (some ⟨tb, 0, none⟩), str pat] w fun e w' =>
      ∃ v, e = .returned (.tuple #[v, matchV S pat [97]]) ∧ w'.ownsRow w.heap.size 9 1 v (globL pat (sortK m)).length ((globL pat (sortK m)).map str) ∧ Below w.heap.size w w' := by
  have HH := Lib.hid h
  have HM := Lib.hid hm
  have HE := Lib.hid hE
  have HKM : Hid (∀ p ∈ sortK m, p.length ≤ 1000) := Lib.hid (fun p hp => by
    obtain ⟨x, hx, rfl⟩ := List.mem_map.1 ((sortK_perm m).mem_iff.1 hp)
    exact hk x hx)
  have K0 := Lib.hid (match_any pat [97] w S hm (pErr_of_tErr hE) hp (by decide))
  have HP := Lib.hid (fun w1 (h1 : TAt w1 tb mb m) => paths_tree tb mb m w1 h1 hd hn (fun x hx => by have := hk x hx; omega))
  clear h hm hE hd hk
  cases hnm : noMatch pat [97] with
  | true =>
    have hv : matchV S pat [97] = errI (S 3) := by unfold matchV; rw [if_pos hnm]
    have hg : globL pat (sortK m) = [] := by unfold globL; rw [if_pos hnm]
    rw [hv] at K0
    rw [hv, hg]
    clear hv hg hnm
    go_enter Tryz.func16, Tryz.ntmps16
    go_wp2_with fail
    refine K0.out.mono ?_
    rintro e w1 ⟨rfl, hb1⟩
    go_wp2
    go_ret2
    exact ⟨_, rfl, World.ownsRow_nil _ _ _ _, hb1⟩
  | false =>
    have hv : matchV S pat [97] = .nilIface := by unfold matchV; rw [if_neg (by rw [hnm]; decide)]
    have hg : globL pat (sortK m) = globK pat (sortK m) := by unfold globL; rw [if_neg (by rw [hnm]; decide)]
    rw [hv] at K0
    rw [hv, hg]
    clear hv hg hnm
    go_enter Tryz.func16, Tryz.ntmps16
    go_wp2_with fail
    refine K0.out.mono ?_
    rintro e w1 ⟨rfl, hb1⟩
    have HP1 := Lib.hid (HP.out w1 (HH.out.below hb1))
    go_wp2_with fail
    refine HP1.out.mono ?_
    rintro e w2 ⟨v, rfl, hrow, hb2⟩
    have b2 := hb1.trans (hb2.mono hb1.size)
    have hrd := ownsRow_reads hrow
    have hlv : ∀ k, v.ownBlock = some k → k < w2.heap.size := fun k hk => (hrow.lt k hk).2
    obtain ⟨a, cap, rfl, -, -⟩ := id hrd
    rw [List.length_map, sortK_len] at *
    have HR := Lib.hid hrd
    have HLV := Lib.hid hlv
    have HB2 := Lib.hid b2
    have hsz2 := b2.size
    clear hb2 hrow hrd hlv b2 hb1
    go_wp2
    go_loopw [8, 24] (fun out i wl => ∃ j : Nat, j ≤ m.length ∧ i = .int .i64 j ∧ wl.ownsRow w2.heap.size 9 1 out (globK pat ((sortK m).take j)).length ((globK pat ((sortK m).take j)).map str) ∧ Below w2.heap.size w2 wl) (fun _ i _ => m.length - (intOf i).toNat)
    case atStart => exact ⟨0, by omega, rfl, by simpa [globK] using World.ownsRow_nil w2 _ _ _, Below.refl _ _⟩
    case round =>
      obtain ⟨j, hj, rfl, hown, hbl⟩ := hrel
      have HO := Lib.hid hown
      have HB := Lib.hid hbl
      have hszr := hbl.size
      by_cases hlt : j < m.length
      · have hlt2 : j < (sortK m).length := by rw [sortK_len]; exact hlt
        obtain ⟨b, o, hix, hce⟩ := (HR.out.below hbl HLV.out).at (P := Tryz.prog) Tryz.underlying39 (by kernel_rfl) j (by simpa using hlt2)
        simp only [List.getElem_map] at hce
        have hp1 := HKM.out _ (List.getElem_mem hlt2)
        have HTK : Hid ((sortK m).take (j + 1) = (sortK m).take j ++ [(sortK m)[j]]) := Lib.hid (List.take_succ_eq_append_getElem hlt2)
        have hgl : (globK pat ((sortK m).take j)).length ≤ 1000 := Nat.le_trans (globK_le _ _) (by rw [List.length_take]; omega)
        obtain ⟨p, hpp⟩ : ∃ p, (sortK m)[j] = p := ⟨_, rfl⟩
        rw [hpp] at hce hp1 HTK
        have HQ : Hid (Below w.heap.size w wr) := Lib.hid (HB2.out.trans (hbl.mono hsz2))
        have K1 := match_any pat p wr S (HM.out.below HQ.out (Nat.le_refl _)) (pErr_of_tErr (HE.out.below HQ.out (Nat.le_refl _))) hp hp1
        clear hown hbl hpp
        cases hmb : matchB pat p with
        | true =>
          have hv : matchV S pat p = .nilIface := by
            unfold matchV
            have : noMatch pat p = false := by unfold matchB at hmb; revert hmb; cases noMatch pat p <;> simp
            rw [this]; rfl
          rw [hmb, hv] at K1
          have K := Lib.hid K1
          have HG : Hid (globK pat ((sortK m).take (j + 1)) = globK pat ((sortK m).take j) ++ [p]) := Lib.hid (by rw [HTK.out, globK_snoc_t hmb])
          clear K1 hv hmb
          go_wp2_with fail
          refine K.out.mono ?_
          rintro e w3 ⟨rfl, hb3⟩
          have HB3 := Lib.hid hb3
          have hsz3 := hb3.size
          have HO3 := Lib.hid (ownsRow_fr (S := fun _ => False) HO.out (Fr.of_below hb3) (fun k hk => ⟨(HO.out.lt k hk).2, id⟩))
          clear hb3
          go_wp2_with (first
            | (at_builtin
               refine wpList_app _ rfl _ _ 39 rfl tyStrsG w2.heap.size u8 _ _ rfl (HO3.out.alloc _) ⟨w3.heap.size, 0, none⟩ 1 1 [str p] rfl rfl (news_one ?_) ?_ (by decide) ?_ ?_ ?_
               · simp [go_sem]
               · intro u hu; simp at hu; subst hu; rfl
               · omega
               · simp; omega
               intro v5 w5 ho5 hg5 hloc5))
          go_roundw
          case rel =>
            refine ⟨j + 1, by omega, by go_num, ?_, ?_⟩
            · rw [HG.out]
              simp only [List.map_append, List.map_cons, List.map_nil, List.length_append, List.length_cons, List.length_nil]
              exact ho5
            · exact ((HB.out.trans (HB3.out.mono hszr)).alloc (by omega) _).grown hg5 (by simp; omega) (fun r hr => owned_from HO.out hr)
          case measure => simp [intOf]; omega
        | false =>
          have HG : Hid (globK pat ((sortK m).take (j + 1)) = globK pat ((sortK m).take j)) := Lib.hid (by rw [HTK.out, globK_snoc_f hmb])
          rw [hmb] at K1
          have hvv : matchV S pat p = errI (S 3) ∨ matchV S pat p = .nilIface := by unfold matchV; split <;> simp
          rcases hvv with hv | hv
          all_goals
            rw [hv] at K1
            have K := Lib.hid K1
            clear K1 hv hmb
            go_wp2_with fail
            refine K.out.mono ?_
            rintro e w3 ⟨rfl, hb3⟩
            have HB3 := Lib.hid hb3
            have HO3 := Lib.hid (ownsRow_fr (S := fun _ => False) HO.out (Fr.of_below hb3) (fun k hk => ⟨(HO.out.lt k hk).2, id⟩))
            clear hb3
            go_wp2
            go_roundw
            case rel => exact ⟨j + 1, by omega, by go_num, by rw [HG.out]; exact HO3.out, HB.out.trans (HB3.out.mono hszr)⟩
            case measure => simp [intOf]; omega
      · obtain rfl : j = m.length := by omega
        have hO := HO.out
        rw [List.take_of_length_le (by rw [sortK_len]; exact Nat.le_refl _)] at hO
        have HO2 := Lib.hid hO
        clear hO hown hbl
        go_wp2
        go_ret2
        exact ⟨_, rfl, ownsRow_base HO2.out hsz2, HB2.out.trans (HB.out.mono hsz2)⟩
end Go.Proofs.YtmkpeopebddnjaaGreatDoor
