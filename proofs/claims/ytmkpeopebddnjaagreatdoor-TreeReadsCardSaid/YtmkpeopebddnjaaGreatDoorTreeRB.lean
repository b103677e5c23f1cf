/-
  tree.Read at a text that Text has written.
-/
import Derived.Test.YtmkpeopebddnjaaGreatDoorTreeRd
namespace Go.Proofs.YtmkpeopebddnjaaGreatDoor
open Go Go.RowKit Go.Kf Go.Sort

/-- What a tree's files are: rising, right, and none above another one. -/
structure Bk (L : List Ent) : Prop where
  sort : (ksOf L).Pairwise (· < ·)
  path : ∀ x ∈ L, isPathB x.1 = true ∧ x.1.length ≤ 100 ∧ x.2.length ≤ 2000
  many : L.length ≤ 60
  apart : ∀ x ∈ L, ∀ y ∈ L, aboveB x.1 y.1 = false
def strLen : Value → Nat
  | .string b => b.size
  | _ => 0
theorem tyOnes : SliceTyK Tryz.prog 91 95 (.agg #[str [], str []]) 2 32 := ⟨Tryz.underlying91, by kernel_rfl, rfl, by decide⟩
theorem linesL_drop {L : List Ent} {k : Nat} (h : k < L.length) : linesL (L.drop k) = lineL L[k].1 L[k].2 ++ linesL (L.drop (k + 1)) := by
  rw [List.drop_eq_getElem_cons h]
  simp only [linesL, List.map_cons, List.flatten_cons]
theorem lineL_pos (p b : List UInt8) : 1 ≤ (lineL p b).length := by simp [lineL]; omega
theorem Bk.put {L : List Ent} (h : Bk L) {j : Nat} (hj : j < L.length) {mj : List Ent} (hp : mj.Perm (L.take j)) : putC L[j].1 L[j].2 mj = 0 ∧ (putM L[j].1 L[j].2 mj).Perm (L.take (j + 1)) := by
  have hx := h.path _ (List.getElem_mem hj)
  have hmem : ∀ y ∈ mj, y ∈ L := fun y hy => List.mem_of_mem_take (hp.mem_iff.1 hy)
  have hc : clash L[j].1 mj = false := by
    unfold clash
    rw [List.any_eq_false]
    intro y hy
    rw [h.apart _ (List.getElem_mem hj) _ (hmem y hy), h.apart _ (hmem y hy) _ (List.getElem_mem hj)]
    decide
  have hlen : mj.length = j := by rw [hp.length_eq, List.length_take]; omega
  have e1 : putC L[j].1 L[j].2 mj = 0 := by
    unfold putC
    rw [if_neg (by rw [hx.1]; decide), if_neg (by omega), if_neg (by rw [hc]; decide), if_neg (by rintro ⟨-, h60⟩; have := h.many; omega)]
  refine ⟨e1, ?_⟩
  unfold putM
  rw [if_pos e1]
  have hnd : (ksOf L).Nodup := h.sort.imp lt_ne
  have hno : L[j].1 ∉ ksOf mj := by
    intro hm
    have hm2 : L[j].1 ∈ ksOf (L.take j) := (hp.map Prod.fst).mem_iff.1 hm
    rw [show ksOf (L.take j) = (ksOf L).take j by simp [List.map_take]] at hm2
    obtain ⟨i, hi, he⟩ := List.getElem_of_mem hm2
    rw [List.length_take] at hi
    rw [List.getElem_take] at he
    have hij : i < j := by omega
    have : (ksOf L)[j]'(by simpa using hj) = L[j].1 := by simp
    rw [← this] at he
    have := (List.pairwise_iff_getElem.1 h.sort) i j (by simp; omega) (by simpa using hj) hij
    rw [he] at this
    exact List.lt_irrefl _ this
  have hno2 : mlook L[j].1 mj = none := by
    cases hk : mlook L[j].1 mj with
    | none => rfl
    | some v =>
      exfalso
      have hnm : (ksOf mj).Nodup := (hp.map Prod.fst).nodup_iff.2 (by show (ksOf (L.take j)).Nodup; rw [show ksOf (L.take j) = (ksOf L).take j by simp [List.map_take]]; exact hnd.sublist (List.take_sublist _ _))
      exact hno (List.mem_map.2 ⟨_, (mlook_iff hnm).1 hk, rfl⟩)
  have h1 := mupd_perm (p := L[j].1) (b := L[j].2) mj
  rw [mdel_none hno2] at h1
  refine h1.trans ((hp.cons _).trans ?_)
  rw [List.take_succ_eq_append_getElem hj]
  exact (List.perm_append_singleton _ _).symm

theorem _root_.Go.Kf.ReadsK.fr2 {s : Nat} {w w' : World} {v : Value} {xs : List (List Value)} {B : Nat} {S : Nat → Prop} (h : ReadsK s w v xs) (hf : Fr B S w w') (hv : ∀ k, v.ownBlock = some k → k < B ∧ ¬ S k) : ReadsK s w' v xs := by
  obtain ⟨a, cap, rfl, hle, h⟩ := h
  refine ⟨a, cap, rfl, hle, fun i row hi => ?_⟩
  obtain ⟨b, o, rfl, hcell⟩ := h i row hi
  exact ⟨b, o, rfl, fun j x hj => (hf.cell (p := ⟨b, o + i * s + j, none⟩) (hv b rfl).1 (hv b rfl).2).trans (hcell j x hj)⟩
theorem _root_.Go.Kf.ReadsK.below0k {s : Nat} {w w' : World} {v : Value} {xs : List (List Value)} (h : ReadsK s w v xs) (hb : Below w.heap.size w w') : ReadsK s w' v xs := by
  obtain ⟨a, cap, rfl, hle, h⟩ := h
  refine ⟨a, cap, rfl, hle, fun i row hi => ?_⟩
  obtain ⟨b, o, rfl, hcell⟩ := h i row hi
  exact ⟨b, o, rfl, fun j x hj => (hb.cell (p := ⟨b, o + i * s + j, none⟩) (lt_of_cell (hcell j x hj))).trans (hcell j x hj)⟩

set_option maxRecDepth 100000 in
set_option maxHeartbeats 4000000 in
theorem read_back (L : List Ent) (w : World) (S : Nat → Addr) (hB : Bk L) (hm : Ml w) (hE : TErr w S) (ht : Tab w) :
    Calls Tryz.prog 25 #[str (linesL L)] w fun e w' =>
      ∃ tb mb m, e = .returned (.tuple #[.pointer (some ⟨tb, 0, none⟩), .nilIface]) ∧ TAt w' tb mb m ∧ m.Perm L ∧ w.heap.size ≤ tb ∧ w.heap.size ≤ mb ∧ Below w.heap.size w w' := by
  have HM := Lib.hid hm
  have HE := Lib.hid hE
  have HT := Lib.hid ht
  have HK := Lib.hid hB
  have hL60 := hB.many
  have hlen0 : (linesL L).length ≤ 12000 * 60 := Nat.le_trans (linesL_len (fun x hx => by have := hB.path x hx; omega)) (Nat.mul_le_mul_left _ hL60)
  have HLN : Hid (∀ k, (linesL (L.drop k)).length ≤ 12000 * 60) := Lib.hid (fun k => Nat.le_trans (linesL_len (fun x hx => by have := hB.path x (List.mem_of_mem_drop hx); omega)) (Nat.mul_le_mul_left _ (by rw [List.length_drop]; omega)))
  clear hm hE ht hB
  go_enter Tryz.func25, Tryz.ntmps25
  go_wp2_with fail
  refine (new_tree w).mono ?_
  rintro e w1 ⟨tb, mb, rfl, htb, hmb, hT1, hb1⟩
  have HT1 := Lib.hid hT1
  have HB1 := Lib.hid hb1
  have HTB := Lib.hid htb
  have HMB := Lib.hid hmb
  have hs1 := hb1.size
  clear hT1 hb1 htb hmb
  go_wp2_with fail
  go_loopw [0, 5] (fun sv lv wl => ∃ k : Nat, k ≤ L.length ∧ sv = str (linesL (L.drop k)) ∧ wl.ownsRow w1.heap.size 95 2 lv k (fileCells (L.take k)) ∧ Below w1.heap.size w1 wl) (fun sv _ _ => strLen sv)
  case atStart => exact ⟨0, by omega, rfl, by simpa [fileCells] using World.ownsRow_nil w1 _ _ _, Below.refl _ _⟩
  case round =>
    obtain ⟨k, hk, rfl, hown, hbl⟩ := hrel
    have HO := Lib.hid hown
    have HB := Lib.hid hbl
    have hszr := hbl.size
    have HW : Hid (Below w.heap.size w wr) := Lib.hid (HB1.out.trans (hbl.mono hs1))
    clear hown hbl
    by_cases hlt : k < L.length
    · have hx := HK.out.path _ (List.getElem_mem hlt)
      have hln := HLN.out (k + 1)
      have K1 := file_line L[k].1 L[k].2 (linesL (L.drop (k + 1))) wr hx.1 (by omega) hx.2.2 (by omega) (tab_below HT.out HW.out (Nat.le_refl _)) (HM.out.below HW.out (Nat.le_refl _))
      rw [← linesL_drop hlt] at K1
      have hpos : (linesL (L.drop (k + 1))).length < (linesL (L.drop k)).length := by
        rw [linesL_drop hlt, List.length_append]
        have := lineL_pos L[k].1 L[k].2
        omega
      have HPOS := Lib.hid hpos
      have hs0 : (linesL (L.drop k) == []) = false := by
        rw [beq_eq_false_iff_ne]
        intro e
        rw [e] at hpos
        simp at hpos
      have HSN : Hid (fileCells (L.take (k + 1)) = fileCells (L.take k) ++ [str L[k].1, str L[k].2]) := Lib.hid (by rw [List.take_succ_eq_append_getElem hlt]; simp only [fileCells, List.map_append, List.map_cons, List.map_nil, List.flatten_append, List.flatten_cons, List.flatten_nil, List.append_nil])
      obtain ⟨s0, hs⟩ : ∃ s, linesL (L.drop k) = s := ⟨_, rfl⟩
      obtain ⟨s1, hs'⟩ : ∃ s, linesL (L.drop (k + 1)) = s := ⟨_, rfl⟩
      have HS1 := Lib.hid hs'
      rw [hs, hs'] at K1 HPOS
      rw [hs] at hs0 ⊢
      obtain ⟨p, hp⟩ : ∃ p, L[k].1 = p := ⟨_, rfl⟩
      obtain ⟨c, hc⟩ : ∃ c, L[k].2 = c := ⟨_, rfl⟩
      rw [hp, hc] at K1 HSN
      have K1 := Lib.hid K1
      clear hx hln hpos hs hs' hp hc
      go_wp2_with fail
      refine K1.out.mono ?_
      rintro e w4 ⟨rfl, hb4⟩
      have HB4 := Lib.hid hb4
      have hz4 := hb4.size
      have HO4 := Lib.hid (ownsRow_fr (S := fun _ => False) HO.out (Fr.of_below hb4) (fun r hr => ⟨(HO.out.lt r hr).2, id⟩))
      clear hb4
      go_wp2_with (first
        | (at_builtin
           refine wpList_appK _ rfl (.tmp 28) (.tmp 32) 91 rfl tyOnes w1.heap.size u5 _ _ rfl (HO4.out.alloc _) ⟨w4.heap.size, 0, none⟩ 1 1 [str p, str c] rfl rfl (news_block w4 [str p, str c] _) ?_ (by decide) ?_ ?_ ?_
           · intro u hu; simp at hu; rcases hu with rfl | rfl <;> rfl
           · omega
           · simp; omega
           intro v5 w5 ho5 hg5 hloc5))
      go_roundw
      case rel =>
        refine ⟨k + 1, by omega, by rw [HS1.out], ?_, ?_⟩
        · rw [HSN.out]
          exact ho5
        · exact ((HB.out.trans (HB4.out.mono hszr)).alloc (by omega) _).grown hg5 (by simp; omega) (fun r hr => owned_from HO.out hr)
      case measure =>
        have := HPOS.out
        simpa [strLen, ByteArray.size] using this
    · obtain rfl : k = L.length := by omega
      have hO := HO.out
      rw [List.take_length] at hO
      rw [List.drop_length]
      have hO2 := Lib.hid hO
      have hrd := ownsRow_readsK hO (by simp) fileRow_len
      have hlm : Hid (∀ r, u5.ownBlock = some r → w1.heap.size ≤ r ∧ r < wr.heap.size) := Lib.hid (fun r hr => ⟨owned_from hO hr, (hO.lt r hr).2⟩)
      obtain ⟨a, cap, rfl, -, -⟩ := id hrd
      rw [List.length_map] at hrd hlm ⊢
      have HR := Lib.hid hrd
      have hTr := HT1.out.of_fr (S := fun _ => False) (Fr.of_below HB.out) HT1.out.lt id id
      have HTr := Lib.hid hTr
      have HMZ := Lib.hid HT1.out.lt
      have e0 : linesL ([] : List Ent) = [] := rfl
      rw [e0]
      clear hO hrd hTr HO
      go_wp2_with fail
      go_loopw [37] (fun iv wl => ∃ (j : Nat) (mj : List Ent), j ≤ L.length ∧ iv = .int .i64 j ∧ TAt wl tb mb mj ∧ mj.Perm (L.take j) ∧ Fr wr.heap.size (fun q => q = mb) wr wl) (fun iv _ => L.length - (intOf iv).toNat)
      case atStart => exact ⟨0, [], by omega, rfl, HTr.out, by simp, .refl _ _ _⟩
      case round =>
        obtain ⟨j, mj, hj, rfl, hTj, hpj, hFj⟩ := hrel
        have HTj := Lib.hid hTj
        have HPj := Lib.hid hpj
        have HFj := Lib.hid hFj
        have hzj := hFj.size
        clear hTj hpj hFj
        have hrj := HR.out.fr2 HFj.out (fun r hr => ⟨(hlm.out r hr).2, fun e => by have := (hlm.out r hr).1; have := HMZ.out.2; omega⟩)
        have HRj := Lib.hid hrj
        by_cases hlt : j < L.length
        · obtain ⟨b, o, hix, -, hce⟩ := hrj.at (P := Tryz.prog) Tryz.underlying91 (by kernel_rfl) j (by simpa using hlt)
          have e0 : wr.cell? ⟨b, o, none⟩ = some (str L[j].1) := hce 0 _ (by simp)
          have e1 : wr.cell? ⟨b, o + 1, none⟩ = some (str L[j].2) := hce 1 _ (by simp)
          have hx := HK.out.path _ (List.getElem_mem hlt)
          obtain ⟨hpc, hpp⟩ := HK.out.put hlt HPj.out
          have hWw : Below w.heap.size w wr := HW.out.trans ((HFj.out.mono (S' := fun q => q = mb) HW.out.size (fun _ _ h => h)).below (fun q hq e => by have := HMB.out; omega))
          have hA := (Below.refl wr.heap.size wr).alloc (Nat.le_refl _) (.cells #[str L[j].1, str L[j].2] 95)
          have K1 := put_tree tb mb mj L[j].1 L[j].2 (wr.alloc (.cells #[str L[j].1, str L[j].2] 95)) S (HTj.out.below hA) (HM.out.below (hWw.trans (hA.mono hWw.size)) (Nat.le_refl _)) (HE.out.below (hWw.trans (hA.mono hWw.size)) (Nat.le_refl _)) (by omega)
            (by rw [HPj.out.length_eq, List.length_take]; omega) (fun y hy => by have := HK.out.path y (List.mem_of_mem_take (HPj.out.mem_iff.1 hy)); omega)
          rw [hpc, show codeV S 0 = .nilIface from rfl] at K1
          have HPP := Lib.hid hpp
          have HFA : Hid (Fr wr.heap.size (fun q => q = mb) wr (wr.alloc (.cells #[str L[j].1, str L[j].2] 95))) := Lib.hid (Fr.of_below hA)
          have K1 := Lib.hid K1
          clear hce hx hpc hpp hWw hA hrj
          generalize putM L[j].1 L[j].2 mj = m2 at *
          generalize L[j].1 = p at *
          generalize L[j].2 = c at *
          go_wp2_with fail
          refine K1.out.mono ?_
          rintro e w4 ⟨rfl, hT4, hF4⟩
          have HT4 := Lib.hid hT4
          have HF4 := Lib.hid (HFj.out.trans ((HFA.out.trans (hF4.mono (S' := fun q => q = mb) (by simp) (fun _ _ h => h))).mono (S' := fun q => q = mb) hzj (fun _ _ h => h)))
          clear hT4 hF4
          go_wp2
          go_roundw
          case rel => exact ⟨j + 1, m2, by omega, by go_num, HT4.out, HPP.out, HF4.out⟩
          case measure => simp [intOf]; omega
        · obtain rfl : j = L.length := by omega
          have hP := HPj.out
          rw [List.take_length] at hP
          have HP := Lib.hid hP
          have HWw : Hid (Below w.heap.size w wr) := Lib.hid (HW.out.trans ((HFj.out.mono (S' := fun q => q = mb) HW.out.size (fun _ _ h => h)).below (fun q hq e => by have := HMB.out; omega)))
          clear hP hrj
          go_wp2_with fail
          go_loopw [53] (fun iv wl => ∃ j : Nat, j ≤ L.length ∧ iv = .int .i64 j ∧ Below wr.heap.size wr wl) (fun iv _ => L.length - (intOf iv).toNat)
          case atStart => exact ⟨0, by omega, rfl, Below.refl _ _⟩
          case round =>
            obtain ⟨j, hj, rfl, hbj⟩ := hrel
            have HBj := Lib.hid hbj
            have hrj2 := HRj.out.below0k hbj
            clear hbj
            by_cases hlt : j < L.length
            · obtain ⟨b, o, hix, -, hce⟩ := hrj2.at (P := Tryz.prog) Tryz.underlying91 (by kernel_rfl) j (by simpa using hlt)
              have e0 : wr.cell? ⟨b, o, none⟩ = some (str L[j].1) := hce 0 _ (by simp)
              have e1 : wr.cell? ⟨b, o + 1, none⟩ = some (str L[j].2) := hce 1 _ (by simp)
              have HFB := Lib.hid ((Below.refl wr.heap.size wr).alloc (Nat.le_refl _) (.cells #[str L[j].1, str L[j].2] 95))
              have hzz := HBj.out.size
              clear hce
              cases j with
              | zero =>
                have hix0 : ∀ w', (Instr.indexAt 91 (.slice a L.length cap) (.int .i64 0)).run Tryz.prog w' = .ok (.pointer (some ⟨b, o, none⟩)) w' := hix
                have HFC := Lib.hid (HBj.out.trans (HFB.out.mono hzz))
                generalize L[0].1 = p at *
                generalize L[0].2 = c at *
                go_wp2_with fail
                go_region
                all_goals
                  go_wp2
                  go_roundw
                  case rel => exact ⟨1, by omega, rfl, by first | exact HFC.out | exact HFC.out.drew⟩
                  case measure => simp [intOf]; omega
              | succ i =>
                have hix1 : ∀ w', (Instr.indexAt 91 (.slice a L.length cap) (.int .i64 ((i : Int) + 1))).run Tryz.prog w' = .ok (.pointer (some ⟨b, o, none⟩)) w' := hix
                obtain ⟨b2, o2, hix2, -, hce2⟩ := hrj2.at (P := Tryz.prog) Tryz.underlying91 (by kernel_rfl) i (by simp; omega)
                have e2 : wr.cell? ⟨b2, o2, none⟩ = some (str L[i].1) := hce2 0 _ (by simp)
                have hlt2 : L[i].1 < L[i + 1].1 := by
                  have := (List.pairwise_iff_getElem.1 HK.out.sort) i (i + 1) (by simp; omega) (by simpa using hlt) (by omega)
                  simpa using this
                have hle : (Op.bytesLess L[i + 1].1 L[i].1 || L[i + 1].1 == L[i].1) = false := by
                  rw [bytesLess_eq, Bool.or_eq_false_iff, decide_eq_false_iff_not, beq_eq_false_iff_ne]
                  exact ⟨fun h => List.lt_irrefl _ (List.lt_trans h hlt2), fun h => lt_ne hlt2 h.symm⟩
                have hle1 := (Bool.or_eq_false_iff.1 hle).1
                have hle2 := (Bool.or_eq_false_iff.1 hle).2
                have hsub : (i : Int) + 1 - 1 = (i : Int) := by omega
                have hw1 : IntKind.i64.wrap ((i : Int) + 1 - 1) = (i : Int) := by rw [hsub]; exact IntWalk.i64_in _ (by omega)
                have hw2 : IntKind.i64.wrap (i : Int) = (i : Int) := IntWalk.i64_in _ (by omega)
                have hpos : ((0 : Int) < (i : Int) + 1) = True := by simp <;> omega
                have HFC := Lib.hid (HBj.out.trans (HFB.out.mono hzz))
                have hb2 : b2 ≠ wr.heap.size := by have := lt_of_cell e2; simp at this; omega
                have e2' : (wr.alloc (.cells #[str L[i + 1].1, str L[i + 1].2] 95)).cell? ⟨b2, o2, none⟩ = some (str L[i].1) := (HFB.out.cell (p := ⟨b2, o2, none⟩) (lt_of_cell e2)).trans e2
                have n0 := (cell_of_heap (heap_alloc_here wr (.cells #[str L[i + 1].1, str L[i + 1].2] 95)) 0).trans rfl
                clear hce2 hrj2 hlt2 hle
                generalize L[i + 1].1 = p at *
                generalize L[i + 1].2 = c at *
                generalize L[i].1 = q at *
                go_wp2_with fail
                go_region
                all_goals
                  go_wp2
                  go_roundw
                  case rel => exact ⟨i + 1 + 1, by omega, by go_num, by first | exact HFC.out | exact HFC.out.drew⟩
                  case measure => simp [intOf]; omega
            · obtain rfl : j = L.length := by omega
              go_wp2
              go_ret2
              exact ⟨tb, mb, _, rfl, HTj.out.below HBj.out, HP.out, HTB.out, HMB.out, HWw.out.trans (HBj.out.mono HWw.out.size)⟩
end Go.Proofs.YtmkpeopebddnjaaGreatDoor
