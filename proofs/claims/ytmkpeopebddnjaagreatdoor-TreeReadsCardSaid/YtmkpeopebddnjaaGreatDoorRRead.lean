/-
  tree.Read at any text.
-/
import Derived.Test.YtmkpeopebddnjaaGreatDoorRPrs
namespace Go.Proofs.YtmkpeopebddnjaaGreatDoor
open Go Go.RowKit Go.Kf Go.Sort

theorem errI_code {S : Nat → Addr} {c : Nat} (h : c ≠ 0) : codeV S c = errI (S (c - 1)) := if_neg h

set_option maxRecDepth 100000 in
set_option maxHeartbeats 4000000 in
theorem read_any (s : List UInt8) (w : World) (S : Nat → Addr) (hl : s.length ≤ 3000) (hm : Ml w) (hE : TErr w S) (ht : Tab w) (hN : NErr w) :
    Calls Tryz.prog 25 #[str s] w fun e w' => Below w.heap.size w w' ∧ ∃ c M, Ans s c M ∧
      ((c ≠ 0 ∧ e = .returned (.tuple #[.pointer none, codeV S c])) ∨ (c = 0 ∧ ∃ tb mb m, e = .returned (.tuple #[.pointer (some ⟨tb, 0, none⟩), .nilIface]) ∧ TAt w' tb mb m ∧ Tw m M ∧ w.heap.size ≤ tb ∧ w.heap.size ≤ mb)) := by
  have HM := Lib.hid hm
  have HE := Lib.hid hE
  have HT := Lib.hid ht
  have HN := Lib.hid hN
  clear hm hE ht hN
  go_enter Tryz.func25, Tryz.ntmps25
  go_wp2_with fail
  refine (new_tree w).mono ?_
  rintro e w1 ⟨tb, mb, rfl, htb, hmb, hT1, hb1⟩
  have HT1 := Lib.hid hT1
  have HB1 := Lib.hid hb1
  have HTB := Lib.hid htb
  have HMB := Lib.hid hmb
  have hs1 := hb1.size
  clear hT1 hb1 htb hmb
  go_wp2_with fail
  go_loopw [0, 5] (fun sv lv wl => ∃ (P : List Ent) (t : List UInt8), sv = str t ∧ Rd s P t ∧ wl.ownsRow w1.heap.size 95 2 lv P.length (fileCells P) ∧ Below w1.heap.size w1 wl) (fun sv _ _ => strLen sv)
  case atStart => exact ⟨[], s, rfl, Rd.init s, by simpa [fileCells] using World.ownsRow_nil w1 _ _ _, Below.refl _ _⟩
  case round =>
    obtain ⟨P, t, rfl, hrd, hown, hbl⟩ := hrel
    have HRD := Lib.hid hrd
    have hPl := hrd.len
    have HO := Lib.hid hown
    have HB := Lib.hid hbl
    have hszr := hbl.size
    have HW : Hid (Below w.heap.size w wr) := Lib.hid (HB1.out.trans (hbl.mono hs1))
    clear hown hbl hrd
    by_cases hne : t ≠ []
    · have hs0 : (t == []) = false := by rw [beq_eq_false_iff_ne]; exact hne
      have HNE := Lib.hid hne
      have K1 := Lib.hid (file_any t wr (HN.out.below HW.out (Nat.le_refl _)) (tab_below HT.out HW.out (Nat.le_refl _)) (HM.out.below HW.out (Nat.le_refl _)) (by omega))
      clear hne
      go_wp2_with fail
      refine K1.out.mono ?_
      rintro e w4 ⟨hb4, ⟨p, b, t', hf, rfl⟩ | ⟨hno, rfl⟩⟩
      · have HB4 := Lib.hid hb4
        have hz4 := hb4.size
        have HF := Lib.hid hf
        have HO4 := Lib.hid (ownsRow_fr (S := fun _ => False) HO.out (Fr.of_below hb4) (fun r hr => ⟨(HO.out.lt r hr).2, id⟩))
        have HPOS : Hid (t'.length < t.length) := Lib.hid (by
          rw [hf.1, List.length_append]
          have := lineL_pos p b
          omega)
        have HSN : Hid (fileCells (P ++ [(p, b)]) = fileCells P ++ [str p, str b]) := Lib.hid (by simp [fileCells])
        clear hb4 hf
        go_wp2_with (first
          | (at_builtin
             refine wpList_appK _ rfl (.tmp 28) (.tmp 32) 91 rfl tyOnes w1.heap.size u5 _ _ rfl (HO4.out.alloc _) ⟨w4.heap.size, 0, none⟩ 1 1 [str p, str b] rfl rfl (news_block w4 [str p, str b] _) ?_ (by decide) ?_ ?_ ?_
             · intro u hu; simp at hu; rcases hu with rfl | rfl <;> rfl
             · omega
             · simp; omega
             intro v5 w5 ho5 hg5 hloc5))
        go_roundw
        case rel =>
          refine ⟨P ++ [(p, b)], t', rfl, HRD.out.step HF.out, ?_, ?_⟩
          · rw [HSN.out, List.length_append]
            exact ho5
          · exact ((HB.out.trans (HB4.out.mono hszr)).alloc (by omega) _).grown hg5 (by simp; omega) (fun r hr => owned_from HO.out hr)
        case measure =>
          have := HPOS.out
          simpa [strLen, ByteArray.size] using this
      · have HW4 := Lib.hid (HW.out.trans (hb4.mono HW.out.size))
        have HNO := Lib.hid hno
        have v0 := (HE.out.below HW4.out (Nat.le_refl _)).var 0 (by decide)
        simp only [sentG] at v0
        clear hb4 hno
        go_wp2_with fail
        go_quiet (fail)
        go_wp2
        go_ret2
        refine ⟨by first | exact HW4.out | exact below_drewN HW4.out _, 1, [], Or.inl ⟨HRD.out.fail HNE.out HNO.out, rfl⟩, Or.inl ⟨by decide, rfl⟩⟩
    · obtain rfl : t = [] := Classical.not_not.1 hne
      have HPRS := Lib.hid HRD.out.fin
      have HPT := Lib.hid HRD.out.path
      have hO := HO.out
      have hO2 := Lib.hid hO
      have hrd := ownsRow_readsK hO (by simp) fileRow_len
      have hlm : Hid (∀ r, u5.ownBlock = some r → w1.heap.size ≤ r ∧ r < wr.heap.size) := Lib.hid (fun r hr => ⟨owned_from hO hr, (hO.lt r hr).2⟩)
      obtain ⟨a, cap, rfl, -, -⟩ := id hrd
      rw [List.length_map] at hrd hlm ⊢
      have HR := Lib.hid hrd
      have hTr := HT1.out.of_fr (S := fun _ => False) (Fr.of_below HB.out) HT1.out.lt id id
      have HTr := Lib.hid hTr
      have HMZ := Lib.hid HT1.out.lt
      clear hO hrd hTr HO HRD hne
      go_wp2_with fail
      go_loopw [37] (fun iv wl => ∃ (j : Nat) (m M : List Ent), j ≤ P.length ∧ iv = .int .i64 j ∧ TAt wl tb mb m ∧ Tw m M ∧ putsR (P.drop j) M = putsR P [] ∧ Fr wr.heap.size (fun q => q = mb) wr wl) (fun iv _ => P.length - (intOf iv).toNat)
      case atStart => exact ⟨0, [], [], by omega, rfl, HTr.out, Tw.init, rfl, .refl _ _ _⟩
      case round =>
        obtain ⟨j, m, M, hj, rfl, hTj, htw, hpj, hFj⟩ := hrel
        have HTj := Lib.hid hTj
        have HTW := Lib.hid htw
        have HPj := Lib.hid hpj
        have HFj := Lib.hid hFj
        have hzj := hFj.size
        clear hTj hpj hFj htw
        have hrj := HR.out.fr2 HFj.out (fun r hr => ⟨(hlm.out r hr).2, fun e => by have := (hlm.out r hr).1; have := HMZ.out.2; omega⟩)
        have HRj := Lib.hid hrj
        have HWw : Hid (Below w.heap.size w wr) := Lib.hid (HW.out.trans ((HFj.out.mono (S' := fun q => q = mb) HW.out.size (fun _ _ h => h)).below (fun q hq e => by have := HMB.out; omega)))
        by_cases hlt : j < P.length
        · obtain ⟨b, o, hix, -, hce⟩ := hrj.at (P := Tryz.prog) Tryz.underlying91 (by kernel_rfl) j (by simpa using hlt)
          have e0 : wr.cell? ⟨b, o, none⟩ = some (str P[j].1) := hce 0 _ (by simp)
          have e1 : wr.cell? ⟨b, o + 1, none⟩ = some (str P[j].2) := hce 1 _ (by simp)
          have hx := HPT.out _ (List.getElem_mem hlt)
          have hA := (Below.refl wr.heap.size wr).alloc (Nat.le_refl _) (.cells #[str P[j].1, str P[j].2] 95)
          have HWA := Lib.hid (HWw.out.trans (hA.mono HWw.out.size))
          have K1 := put_tree tb mb m P[j].1 P[j].2 (wr.alloc (.cells #[str P[j].1, str P[j].2] 95)) S (HTj.out.below hA) (HM.out.below HWA.out (Nat.le_refl _)) (HE.out.below HWA.out (Nat.le_refl _)) (by omega)
            (by have := HTW.out.many; omega) (fun y hy => by have := HTW.out.keyLen hy; omega)
          rw [HTW.out.putC] at K1
          have hd : putsR (P.drop j) M = putsR (P[j] :: P.drop (j + 1)) M := by rw [List.drop_eq_getElem_cons hlt]
          have HFA : Hid (Fr wr.heap.size (fun q => q = mb) wr (wr.alloc (.cells #[str P[j].1, str P[j].2] 95))) := Lib.hid (Fr.of_below hA)
          by_cases hc0 : putC P[j].1 P[j].2 M = 0
          · have HP2 : Hid (putsR (P.drop (j + 1)) (rputM P[j].1 P[j].2 M) = putsR P []) := Lib.hid (by rw [← HPj.out, hd, putsR_ok hc0])
            have HT2 := Lib.hid (HTW.out.put (b := P[j].2) (putC_path hc0))
            rw [hc0, show codeV S 0 = .nilIface from rfl] at K1
            have K1 := Lib.hid K1
            clear hce hx hA hrj hd hc0
            generalize putM P[j].1 P[j].2 m = m2 at *
            generalize rputM P[j].1 P[j].2 M = M2 at *
            generalize P[j].1 = p at *
            generalize P[j].2 = c at *
            go_wp2_with fail
            refine K1.out.mono ?_
            rintro e w4 ⟨rfl, hT4, hF4⟩
            have HT4 := Lib.hid hT4
            have HF4 := Lib.hid (HFj.out.trans ((HFA.out.trans (hF4.mono (S' := fun q => q = mb) (by simp) (fun _ _ h => h))).mono (S' := fun q => q = mb) hzj (fun _ _ h => h)))
            clear hT4 hF4
            go_wp2
            go_roundw
            case rel => exact ⟨j + 1, m2, M2, by omega, by go_num, HT4.out, HT2.out, HP2.out, HF4.out⟩
            case measure => simp [intOf]; omega
          · have HANS : Hid (∃ c, putC P[j].1 P[j].2 M = c ∧ c ≠ 0 ∧ Ans s c []) := Lib.hid ⟨_, rfl, hc0, Or.inr ⟨P, HPRS.out, Or.inl (by
              rw [← HPj.out, hd, putsR_bad hc0]
              exact ⟨hc0, rfl⟩)⟩⟩
            obtain ⟨c0, hc, hcn, hans⟩ := HANS.out
            rw [hc, errI_code hcn] at K1
            have HAN := Lib.hid hans
            have HCN := Lib.hid hcn
            have K1 := Lib.hid K1
            clear hce hx hA hrj hd hc0 HANS hc hcn hans
            generalize putM P[j].1 P[j].2 m = m2 at *
            generalize P[j].1 = p at *
            generalize P[j].2 = c at *
            obtain ⟨q0, hq0⟩ : ∃ q, S (c0 - 1) = q := ⟨_, rfl⟩
            have HQ0 := Lib.hid hq0
            rw [hq0] at K1
            clear hq0
            go_wp2_with fail
            refine K1.out.mono ?_
            rintro e w4 ⟨rfl, hT4, hF4⟩
            have HF4 := Lib.hid (HWA.out.trans ((hF4.mono (S' := fun q => q = mb) HWA.out.size (fun _ _ h => h)).below (fun q hq e => by have := HMB.out; omega)))
            clear hT4 hF4
            go_wp2
            go_ret2
            refine ⟨HF4.out, c0, [], HAN.out, Or.inl ⟨HCN.out, ?_⟩⟩
            rw [errI_code HCN.out, HQ0.out]
            rfl
        · obtain rfl : j = P.length := by omega
          have hP := HPj.out
          rw [List.drop_length] at hP
          have HP : Hid ((putsR P []).1 = 0 ∧ (putsR P []).2 = M) := Lib.hid (by rw [← hP]; exact ⟨rfl, rfl⟩)
          clear hP hrj
          go_wp2_with fail
          go_loopw [53] (fun iv wl => ∃ j : Nat, j ≤ P.length ∧ iv = .int .i64 j ∧ Rises (P.take j) ∧ Below wr.heap.size wr wl) (fun iv _ => P.length - (intOf iv).toNat)
          case atStart => exact ⟨0, by omega, rfl, by simp [Rises, ksOf], Below.refl _ _⟩
          case round =>
            obtain ⟨j, hj, rfl, hri, hbj⟩ := hrel
            have HBj := Lib.hid hbj
            have HRI := Lib.hid hri
            have hrj2 := HRj.out.below0k hbj
            clear hbj hri
            have HWZ := Lib.hid (HWw.out.trans (HBj.out.mono HWw.out.size))
            by_cases hlt : j < P.length
            · obtain ⟨b, o, hix, -, hce⟩ := hrj2.at (P := Tryz.prog) Tryz.underlying91 (by kernel_rfl) j (by simpa using hlt)
              have e0 : wr.cell? ⟨b, o, none⟩ = some (str P[j].1) := hce 0 _ (by simp)
              have e1 : wr.cell? ⟨b, o + 1, none⟩ = some (str P[j].2) := hce 1 _ (by simp)
              have HFB := Lib.hid ((Below.refl wr.heap.size wr).alloc (Nat.le_refl _) (.cells #[str P[j].1, str P[j].2] 95))
              have hzz := HBj.out.size
              clear hce
              cases j with
              | zero =>
                have hix0 : ∀ w', (Instr.indexAt 91 (.slice a P.length cap) (.int .i64 0)).run Tryz.prog w' = .ok (.pointer (some ⟨b, o, none⟩)) w' := hix
                have HFC := Lib.hid (HBj.out.trans (HFB.out.mono hzz))
                have HR1 := Lib.hid (HRI.out.step hlt (fun i h => by omega))
                generalize P[0].1 = p at *
                generalize P[0].2 = c at *
                go_wp2_with fail
                go_region
                all_goals
                  go_wp2
                  go_roundw
                  case rel => exact ⟨1, by omega, rfl, HR1.out, by first | exact HFC.out | exact HFC.out.drew⟩
                  case measure => simp [intOf]; omega
              | succ i =>
                have hix1 : ∀ w', (Instr.indexAt 91 (.slice a P.length cap) (.int .i64 ((i : Int) + 1))).run Tryz.prog w' = .ok (.pointer (some ⟨b, o, none⟩)) w' := hix
                obtain ⟨b2, o2, hix2, -, hce2⟩ := hrj2.at (P := Tryz.prog) Tryz.underlying91 (by kernel_rfl) i (by simp; omega)
                have e2 : wr.cell? ⟨b2, o2, none⟩ = some (str P[i].1) := hce2 0 _ (by simp)
                have hsub : (i : Int) + 1 - 1 = (i : Int) := by omega
                have hw1 : IntKind.i64.wrap ((i : Int) + 1 - 1) = (i : Int) := by rw [hsub]; exact IntWalk.i64_in _ (by omega)
                have hw2 : IntKind.i64.wrap (i : Int) = (i : Int) := IntWalk.i64_in _ (by omega)
                have hpos : ((0 : Int) < (i : Int) + 1) = True := by simp <;> omega
                have HFC := Lib.hid (HBj.out.trans (HFB.out.mono hzz))
                have HWC := Lib.hid (HWZ.out.trans (HFB.out.mono HWZ.out.size))
                have hb2 : b2 ≠ wr.heap.size := by have := lt_of_cell e2; simp at this; omega
                have e2' : (wr.alloc (.cells #[str P[i + 1].1, str P[i + 1].2] 95)).cell? ⟨b2, o2, none⟩ = some (str P[i].1) := (HFB.out.cell (p := ⟨b2, o2, none⟩) (lt_of_cell e2)).trans e2
                have n0 := (cell_of_heap (heap_alloc_here wr (.cells #[str P[i + 1].1, str P[i + 1].2] 95)) 0).trans rfl
                by_cases hlt2 : P[i].1 < P[i + 1].1
                · have hle : (Op.bytesLess P[i + 1].1 P[i].1 || P[i + 1].1 == P[i].1) = false := by
                    rw [bytesLess_eq, Bool.or_eq_false_iff, decide_eq_false_iff_not, beq_eq_false_iff_ne]
                    exact ⟨fun h => List.lt_irrefl _ (List.lt_trans h hlt2), fun h => lt_ne hlt2 h.symm⟩
                  have hle1 := (Bool.or_eq_false_iff.1 hle).1
                  have hle2 := (Bool.or_eq_false_iff.1 hle).2
                  have HR1 := Lib.hid (HRI.out.step hlt (fun i' h => by
                    obtain rfl : i' = i := by omega
                    exact hlt2))
                  clear hce2 hrj2 hlt2 hle
                  generalize P[i + 1].1 = p at *
                  generalize P[i + 1].2 = c at *
                  generalize P[i].1 = q at *
                  go_wp2_with fail
                  go_region
                  all_goals
                    go_wp2
                    go_roundw
                    case rel => exact ⟨i + 1 + 1, by omega, by go_num, HR1.out, by first | exact HFC.out | exact HFC.out.drew⟩
                    case measure => simp [intOf]; omega
                · have HNR := Lib.hid (Rises.not hlt hlt2)
                  have v2 := (HE.out.below HWZ.out (Nat.le_refl _)).var 2 (by decide)
                  have v2' := (HE.out.below HWC.out (Nat.le_refl _)).var 2 (by decide)
                  simp only [sentG] at v2 v2'
                  have hor : (Op.bytesLess P[i + 1].1 P[i].1 = true) ∨ (Op.bytesLess P[i + 1].1 P[i].1 = false ∧ (P[i + 1].1 == P[i].1) = true) := by
                    rw [bytesLess_eq]
                    by_cases h : P[i + 1].1 < P[i].1
                    · left; simpa using h
                    · right
                      refine ⟨by simpa using h, ?_⟩
                      rw [beq_iff_eq]
                      rcases List.le_iff_lt_or_eq.1 (List.not_lt.1 hlt2) with h' | h'
                      · exact absurd h' h
                      · exact h'
                  clear hce2 hrj2 hlt2
                  generalize P[i + 1].1 = p at *
                  generalize P[i + 1].2 = c at *
                  generalize P[i].1 = q at *
                  rcases hor with hle1 | ⟨hle1, hle2⟩
                  all_goals
                    go_wp2_with fail
                    go_quiet (fail)
                    go_wp2_with fail
                    go_quiet (fail)
                    go_wp2
                    go_ret2
                    exact ⟨by first | exact HWC.out | exact below_drewN HWC.out _ | exact below_drewN (below_drewN HWC.out _) _, 3, [], Or.inr ⟨P, HPRS.out, Or.inr (Or.inl ⟨HP.out.1, HNR.out, rfl⟩)⟩, Or.inl ⟨by decide, rfl⟩⟩
            · obtain rfl : j = P.length := by omega
              have hri := HRI.out
              rw [List.take_length] at hri
              have HANS : Hid (Ans s 0 M) := Lib.hid (Or.inr ⟨P, HPRS.out, Or.inr (Or.inr ⟨HP.out.1, hri, rfl, by
                have := putsR_rises (M := []) hri HP.out.1
                rw [HP.out.2] at this
                exact this⟩)⟩)
              clear hri
              go_wp2
              go_ret2
              exact ⟨HWZ.out, 0, M, HANS.out, Or.inr ⟨rfl, tb, mb, _, rfl, HTj.out.below HBj.out, HTW.out, HTB.out, HMB.out⟩⟩
end Go.Proofs.YtmkpeopebddnjaaGreatDoor
