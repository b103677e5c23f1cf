/-
  The walk of the law TreeBack.
-/
import Derived.Test.YtmkpeopebddnjaaGreatDoorTreeRB
import Derived.Test.YtmkpeopebddnjaaGreatDoorTreeS
namespace Go.Proofs.YtmkpeopebddnjaaGreatDoor
open Go Go.RowKit Go.Kf Go.Sort

abbrev Apart (L : List Ent) : Prop := ∀ x ∈ L, ∀ y ∈ L, aboveB x.1 y.1 = false
theorem aboveB_self (p : List UInt8) : aboveB p p = false := by
  rw [Bool.eq_false_iff]
  intro h
  have := List.IsPrefix.length_le (aboveB_iff.1 h)
  simp only [List.length_append, List.length_cons, List.length_nil] at this
  omega
theorem aboveB_not {a b : List UInt8} (h : aboveB a b = false) : (b.take (a.length + 1) == a ++ [47]) = false := by
  rw [beq_eq_false_iff_ne]
  intro e
  have : aboveB a b = true := by
    rw [aboveB_iff, List.prefix_iff_eq_take]
    simp only [List.length_append, List.length_cons, List.length_nil]
    exact e.symm
  rw [h] at this; cases this
theorem mem_rputM {p b : List UInt8} {L : List Ent} {x : Ent} (hd : (ksOf L).Nodup) (h : x ∈ rputM p b L) : (putC p b L = 0 ∧ x = (p, b)) ∨ x ∈ L := by
  unfold rputM at h
  by_cases hc : putC p b L = 0
  · rw [if_pos hc] at h
    by_cases hs : (mlook p L).isSome = true
    · rw [if_pos hs] at h
      rcases List.mem_cons.1 ((mupd_perm L).mem_iff.1 h) with h | h
      · exact Or.inl ⟨hc, h⟩
      · rw [mdel_filter hd] at h
        exact Or.inr (List.mem_filter.1 h).1
    · rw [if_neg hs] at h
      rcases List.mem_cons.1 ((insS_perm L).mem_iff.1 h) with h | h
      · exact Or.inl ⟨hc, h⟩
      · exact Or.inr h
  · rw [if_neg hc] at h
    exact Or.inr h
theorem clash_of_put {p b : List UInt8} {L : List Ent} (h : putC p b L = 0) : ∀ y ∈ L, aboveB p y.1 = false ∧ aboveB y.1 p = false := by
  have hc : clash p L = false := by
    unfold putC at h
    by_cases h1 : isPathB p = false
    · rw [if_pos h1] at h; cases h
    · rw [if_neg h1] at h
      by_cases h2 : 2000 < b.length
      · rw [if_pos h2] at h; cases h
      · rw [if_neg h2] at h
        by_cases h3 : clash p L = true
        · rw [if_pos h3] at h; cases h
        · simpa using h3
  intro y hy
  unfold clash at hc
  rw [List.any_eq_false] at hc
  have := hc y hy
  simpa using this
theorem Apart.put {p b : List UInt8} {L : List Ent} (h : Apart L) (hd : (ksOf L).Nodup) : Apart (rputM p b L) := by
  intro x hx y hy
  rcases mem_rputM hd hx with ⟨hc, rfl⟩ | hx
  · rcases mem_rputM hd hy with ⟨-, rfl⟩ | hy
    · exact aboveB_self p
    · exact (clash_of_put hc y hy).1
  · rcases mem_rputM hd hy with ⟨hc, rfl⟩ | hy
    · exact (clash_of_put hc x hx).2
    · exact h x hx y hy
theorem Apart.del {p : List UInt8} {L : List Ent} (h : Apart L) (hd : (ksOf L).Nodup) : Apart (mdel p L) := by
  rw [mdel_filter hd]
  exact fun x hx y hy => h x (List.mem_filter.1 hx).1 y (List.mem_filter.1 hy).1
theorem Tw.bk {m L : List Ent} (h : Tw m L) (ha : Apart L) : Bk L := ⟨h.sort, h.path, by rw [← h.len]; exact h.many, ha⟩

set_option maxRecDepth 100000 in
set_option maxHeartbeats 8000000 in
theorem treeBack_main (v : Value) (acts : List ActL) (w : World) (S : Nat → Addr) (hr : ReadsK 3 w v (acts.map actRow)) (hl : acts.length ≤ 80) (hm : Ml w) (hE : TErr w S) (ht : Tab w) :
    Calls Tryz.prog 4 #[v] w fun e w' => e = .returned (.bool true) ∧ Below w.heap.size w w' := by
  obtain ⟨a, cap, rfl, -, -⟩ := id hr
  simp only [List.length_map] at *
  have K0 := Lib.hid (treed_any w S hm hE ht)
  have HM := Lib.hid hm
  have HE := Lib.hid hE
  have HT := Lib.hid ht
  have HR := Lib.hid hr
  clear hm hE ht hr
  go_enter Tryz.func4, Tryz.ntmps4
  go_wp2_with fail
  refine K0.out.mono ?_
  rintro e w1 ⟨rfl, hb1⟩
  have HB1 := Lib.hid hb1
  clear hb1
  go_wp2_with fail
  refine (new_tree w1).mono ?_
  rintro e w2 ⟨tb, mb, rfl, htb, hmb, hT2, hb2⟩
  have hs1 := HB1.out.size
  have HF : Hid (w.heap.size ≤ tb ∧ w.heap.size ≤ mb) := Lib.hid ⟨by omega, by omega⟩
  have HT2 := Lib.hid hT2
  have HB2 := Lib.hid (HB1.out.trans (hb2.mono hs1))
  clear hT2 hb2 htb hmb hs1
  go_wp2_with fail
  go_loopw [5, 6] (fun nv iv wl => ∃ (z : Int) (i : Nat) (m L : List Ent), nv = .int .i64 z ∧ iv = .int .i64 i ∧ i ≤ acts.length ∧ Tw m L ∧ Apart L ∧ TAt wl tb mb m ∧ Below w.heap.size w wl) (fun _ iv _ => acts.length - (intOf iv).toNat)
  case atStart => exact ⟨0, 0, [], [], rfl, rfl, by omega, Tw.init, (fun x hx => by cases hx), HT2.out, HB2.out⟩
  case round =>
    obtain ⟨z, i, m, L, rfl, rfl, hi, htw, hap, hTm, hbl⟩ := hrel
    have HTW := Lib.hid htw
    have HAP := Lib.hid hap
    have HTm := Lib.hid hTm
    have HBl := Lib.hid hbl
    clear htw hap hTm hbl
    by_cases hlt : i < acts.length
    · obtain ⟨b, o, hix, -, hce⟩ := HR.out.at (P := Tryz.prog) Tryz.underlying22 (by kernel_rfl) i (by simpa using hlt)
      have hbw : b < w.heap.size := lt_of_cell (hce 0 _ (by simp [actRow]; rfl))
      obtain ⟨kd, p, c, hask⟩ : ∃ kd p c, acts[i] = (kd, p, c) := ⟨_, _, _, rfl⟩
      have k0 : wr.cell? ⟨b, o, none⟩ = some (str kd) := (HBl.out.cell (p := ⟨b, o, none⟩) hbw).trans (hce 0 _ (by simp [hask, actRow]))
      have k1 : wr.cell? ⟨b, o + 1, none⟩ = some (str p) := (HBl.out.cell (p := ⟨b, o + 1, none⟩) hbw).trans (hce 1 _ (by simp [hask, actRow]))
      have k2 : wr.cell? ⟨b, o + 2, none⟩ = some (str c) := (HBl.out.cell (p := ⟨b, o + 2, none⟩) hbw).trans (hce 2 _ (by simp [hask, actRow]))
      clear hce hask
      obtain ⟨z2, hz2⟩ : ∃ z2, IntKind.i64.wrap (z + (c.length : Int)) = z2 := ⟨_, rfl⟩
      have hz3 : RowKit.wrap64 (z + (c.length : Int)) = z2 := by rw [← IntWalk.i64_left]; exact hz2
      by_cases hbad2 : 100 < p.length
      · go_wp2_with fail
        go_ret
        exact ⟨rfl, HBl.out⟩
      by_cases hbad : 10000 < z2
      · have hwn2 : ((10000 : Int) < z2) = True := by simpa using hbad
        go_wp2_with fail
        go_ret
        exact ⟨rfl, HBl.out⟩
      have hg1 : p.length ≤ 100 := by omega
      clear hbad2
      by_cases hkr : kd = [114, 101, 109, 111, 118, 101]
      · have hd1 : (kd == [114, 101, 109, 111, 118, 101]) = true := by simpa using hkr
        have K1 := Lib.hid (remove_tree tb mb m p wr S HTm.out (HE.out.below HBl.out (Nat.le_refl _)))
        clear hkr
        go_wp2_with fail
        refine K1.out.mono ?_
        rintro e w3 ⟨rfl, hT3, hF3⟩
        have HT3 := Lib.hid hT3
        have HB3 : Hid (Below w.heap.size w w3) := Lib.hid (HBl.out.trans ((hF3.mono (S' := fun k => k = mb) HBl.out.size (fun _ _ h => h)).below (fun k hk e => by have := HF.out.2; omega)))
        have HTW3 := Lib.hid (HTW.out.del p)
        have HAP3 := Lib.hid (HAP.out.del (p := p) HTW.out.nodup)
        clear hT3 hF3
        go_wp2
        go_roundw
        case rel => exact ⟨z2, i + 1, _, _, rfl, by go_num, by omega, HTW3.out, HAP3.out, HT3.out, HB3.out⟩
        case measure => simp [intOf]; omega
      · have hd1 : (kd == [114, 101, 109, 111, 118, 101]) = false := by simpa using hkr
        have HAP3 := Lib.hid (HAP.out.put (p := p) (b := c) HTW.out.nodup)
        have HTW3 : Hid (Tw (putM p c m) (rputM p c L)) := Lib.hid (HTW.out.put hg1)
        clear hkr
        go_wp2_with fail
        go_region_held3 (fun w' => w'.cell? ⟨b, o, none⟩ = some (str kd) ∧ w'.cell? ⟨b, o + 1, none⟩ = some (str p) ∧ w'.cell? ⟨b, o + 2, none⟩ = some (str c))
          (first | exact KS3.out | exact ⟨k0, k1, k2⟩)
          (first | (go_at_call 12
                    refine (put_tree tb mb m p c _ S (by first | exact HTm.out | exact HTm.out.below (Below.refl _ _).drew) (by first | exact HM.out.below HBl.out (Nat.le_refl _) | exact HM.out.below HBl.out.drew (Nat.le_refl _)) (by first | exact HE.out.below HBl.out (Nat.le_refl _) | exact HE.out.below HBl.out.drew (Nat.le_refl _)) (by omega) (by have := HTW.out.many; omega) (fun y hy => by have := HTW.out.keyLen hy; omega)).mono ?_
                    rintro e w3 ⟨rfl, hT3, hF3⟩
                    have HT3 := Lib.hid hT3
                    have HB3 : Hid (Below w.heap.size w w3) := Lib.hid (by first | exact HBl.out.trans ((hF3.mono (S' := fun k => k = mb) HBl.out.size (fun _ _ h => h)).below (fun k hk e => by have := HF.out.2; omega)) | exact HBl.out.drew.trans ((hF3.mono (S' := fun k => k = mb) HBl.out.size (fun _ _ h => h)).below (fun k hk e => by have := HF.out.2; omega)))
                    have KS3 : Hid (w3.cell? ⟨b, o, none⟩ = some (str kd) ∧ w3.cell? ⟨b, o + 1, none⟩ = some (str p) ∧ w3.cell? ⟨b, o + 2, none⟩ = some (str c)) := Lib.hid (by
                      have hne : b ≠ mb := by have := HF.out.2; omega
                      exact ⟨(hF3.cell (p := ⟨b, o, none⟩) (lt_of_cell k0) hne).trans k0, (hF3.cell (p := ⟨b, o + 1, none⟩) (lt_of_cell k1) hne).trans k1, (hF3.cell (p := ⟨b, o + 2, none⟩) (lt_of_cell k2) hne).trans k2⟩)
                    clear hT3 hF3))
        all_goals
          go_wp2
          go_roundw
          case rel => exact ⟨z2, i + 1, _, _, rfl, by go_num, by omega, HTW3.out, HAP3.out, HT3.out, HB3.out⟩
          case measure => simp [intOf]; omega
    · obtain rfl : i = acts.length := by omega
      have KT := text_tree tb mb m wr HTm.out (tab_below HT.out HBl.out (Nat.le_refl _)) HTW.out.nodup' (by have := HTW.out.many; omega) (fun x hx => by have := HTW.out.keyLen hx; omega) (fun p => by have := HTW.out.getLen p; omega)
      rw [HTW.out.lines] at KT
      have KT := Lib.hid KT
      go_wp2_with fail
      refine KT.out.mono ?_
      rintro e w3 ⟨rfl, hb3⟩
      have HT3 := Lib.hid (HTm.out.below hb3)
      have HB3 := Lib.hid (HBl.out.trans (hb3.mono HBl.out.size))
      have KR := Lib.hid (read_back L w3 S (HTW.out.bk HAP.out) (HM.out.below HB3.out (Nat.le_refl _)) (HE.out.below HB3.out (Nat.le_refl _)) (tab_below HT.out HB3.out (Nat.le_refl _)))
      clear hb3 KT
      go_wp2_with fail
      refine KR.out.mono ?_
      rintro e w4 ⟨tb2, mb2, m2, rfl, hT4, hp4, htb2, hmb2, hb4⟩
      have HT4 := Lib.hid (HT3.out.below hb4)
      have HU4 := Lib.hid hT4
      have HB4 := Lib.hid (HB3.out.trans (hb4.mono HB3.out.size))
      have HTW2 : Hid (Tw m2 L) := Lib.hid ⟨hp4, HTW.out.sort, by rw [hp4.length_eq, ← HTW.out.len]; exact HTW.out.many, HTW.out.path⟩
      have K5 := text_tree tb2 mb2 m2 w4 HU4.out (tab_below HT.out HB4.out (Nat.le_refl _)) HTW2.out.nodup' (by have := HTW2.out.many; omega) (fun x hx => by have := HTW2.out.keyLen hx; omega) (fun p => by have := HTW2.out.getLen p; omega)
      rw [HTW2.out.lines] at K5
      have K5 := Lib.hid K5
      clear hb4 hT4 hp4 htb2 hmb2 KR
      obtain ⟨txt, htxt⟩ : ∃ t, linesL L = t := ⟨_, rfl⟩
      rw [htxt] at K5
      go_wp2_with fail
      refine K5.out.mono ?_
      rintro e w5 ⟨rfl, hb5⟩
      have HT5 := Lib.hid (HT4.out.below hb5)
      have HU5 := Lib.hid (HU4.out.below hb5)
      have HB5 := Lib.hid (HB4.out.trans (hb5.mono HB4.out.size))
      have K6 := text_tree tb mb m w5 HT5.out (tab_below HT.out HB5.out (Nat.le_refl _)) HTW.out.nodup' (by have := HTW.out.many; omega) (fun x hx => by have := HTW.out.keyLen hx; omega) (fun p => by have := HTW.out.getLen p; omega)
      rw [HTW.out.lines, htxt] at K6
      have K6 := Lib.hid K6
      clear hb5 K5
      go_wp2_with fail
      refine K6.out.mono ?_
      rintro e w6 ⟨rfl, hb6⟩
      have HT6 := Lib.hid (HT5.out.below hb6)
      have HU6 := Lib.hid (HU5.out.below hb6)
      have HB6 := Lib.hid (HB5.out.trans (hb6.mono HB5.out.size))
      have K7 := Lib.hid (paths_tree tb2 mb2 m2 w6 HU6.out HTW2.out.nodup' (by have := HTW2.out.many; omega) (fun x hx => by have := HTW2.out.keyLen hx; omega))
      clear hb6 K6
      go_wp2_with fail
      refine K7.out.mono ?_
      rintro e w7 ⟨v1, rfl, hr1, hb7⟩
      have HR1 := Lib.hid hr1
      have HT7 := Lib.hid (HT6.out.below hb7)
      have HB7 := Lib.hid (HB6.out.trans (hb7.mono HB6.out.size))
      have K8 := Lib.hid (paths_tree tb mb m w7 HT7.out HTW.out.nodup' (by have := HTW.out.many; omega) (fun x hx => by have := HTW.out.keyLen hx; omega))
      clear hb7 hr1 K7
      go_wp2_with fail
      refine K8.out.mono ?_
      rintro e w8 ⟨v2, rfl, hr2, hb8⟩
      have HT8 := Lib.hid (HT7.out.below hb8)
      have HB8 := Lib.hid (HB7.out.trans (hb8.mono HB7.out.size))
      have K9 := sameTexts0 v1 v2 (sortK m2) (sortK m) w8 (ownsRow_reads (ownsRow_fr (S := fun _ => False) HR1.out (Fr.of_below hb8) (fun k hk => ⟨(HR1.out.lt k hk).2, id⟩))) (ownsRow_reads hr2)
      have hbb : (sortK m2 == sortK m) = true := by rw [HTW.out.keys, HTW2.out.keys]; simp
      rw [hbb] at K9
      have K9 := Lib.hid K9
      clear hb8 hr2 K8 hbb
      go_wp2_with fail
      refine K9.out.mono ?_
      rintro e w9 ⟨rfl, hb9⟩
      have HT9 := Lib.hid (HT8.out.below hb9)
      have HB9 := Lib.hid (HB8.out.trans (hb9.mono HB8.out.size))
      have K10 := paths_tree tb mb m w9 HT9.out HTW.out.nodup' (by have := HTW.out.many; omega) (fun x hx => by have := HTW.out.keyLen hx; omega)
      rw [HTW.out.keys, HTW.out.len] at K10
      have K10 := Lib.hid K10
      clear hb9 K9
      go_wp2_with fail
      refine K10.out.mono ?_
      rintro e w10 ⟨v3, rfl, hr3, hb10⟩
      have HB10 := Lib.hid (HB9.out.trans (hb10.mono HB9.out.size))
      have hrd := ownsRow_reads hr3
      obtain ⟨a3, cap3, rfl, -, -⟩ := id hrd
      simp only [List.length_map] at hrd ⊢
      have HRD := Lib.hid hrd
      have hL60 : L.length ≤ 60 := by have := HTW.out.many; have := HTW.out.len; omega
      have hkn : (ksOf L).length = L.length := List.length_map _
      clear hb10 hr3 hrd K10
      go_wp2_with fail
      go_loopw [10] (fun iv wl => ∃ j : Nat, j ≤ L.length ∧ iv = .int .i64 j ∧ Below w10.heap.size w10 wl) (fun iv _ => L.length - (intOf iv).toNat)
      case atStart => exact ⟨0, by omega, rfl, Below.refl _ _⟩
      case round =>
        obtain ⟨j, hj, rfl, hbj⟩ := hrel
        have HBQ := Lib.hid hbj
        have hrj := HRD.out.below0 hbj
        clear hbj
        by_cases hlt : j < L.length
        · cases j with
          | zero =>
            clear hrj
            go_wp2_with fail
            go_quiet (fail)
            go_wp2_with fail
            go_loopw [11] (fun iv wl => ∃ k : Nat, k ≤ L.length ∧ iv = .int .i64 k ∧ Below w10.heap.size w10 wl) (fun iv _ => L.length - (intOf iv).toNat)
            case atStart => exact ⟨0, by omega, rfl, by first | exact HBQ.out | exact HBQ.out.drew | exact below_drewN HBQ.out _⟩
            case round =>
              obtain ⟨k, hk, rfl, hbk⟩ := hrel
              have HBK := Lib.hid hbk
              have hrk := HRD.out.below0 hbk
              clear hbk
              by_cases hltk : k < L.length
              · obtain ⟨bj, oj, hixj, hcj⟩ := hrk.at (P := Tryz.prog) Tryz.underlying39 (by kernel_rfl) 0 (by simpa using hlt)
                obtain ⟨bk, ok, hixk, hck⟩ := hrk.at (P := Tryz.prog) Tryz.underlying39 (by kernel_rfl) k (by simpa using hltk)
                have hixj0 : ∀ w', (Instr.indexAt 39 (.slice a3 L.length cap3) (.int .i64 0)).run Tryz.prog w' = .ok (.pointer (some ⟨bj, oj, none⟩)) w' := hixj
                simp only [List.getElem_map] at hcj hck
                have hab := HAP.out _ (List.getElem_mem hlt) _ (List.getElem_mem hltk)
                have hl1 := (HTW.out.path _ (List.getElem_mem hlt)).2.1
                have hl2 := (HTW.out.path _ (List.getElem_mem hltk)).2.1
                obtain ⟨x, hx⟩ : ∃ x, L[0].1 = x := ⟨_, rfl⟩
                obtain ⟨y, hy⟩ : ∃ y, L[k].1 = y := ⟨_, rfl⟩
                rw [hx] at hcj hab hl1
                rw [hy] at hck hab hl2
                have hne := aboveB_not hab
                have hse : (⟨x.toArray⟩ : ByteArray) ++ (⟨#[47]⟩ : ByteArray) = ⟨(x ++ [47]).toArray⟩ := by
                  rw [show (⟨#[47]⟩ : ByteArray) = ⟨([47] : List UInt8).toArray⟩ from rfl, str_app]
                have hex : (⟨y.toArray⟩ : ByteArray).extract 0 (x.length + 1) = ⟨(y.take (x.length + 1)).toArray⟩ := by rw [extract_list]; simp
                have hz1 : ¬ 9223372036854775807 < x.length + 1 := by omega
                obtain ⟨u1, hu1⟩ : ∃ u, x ++ [47] = u := ⟨_, rfl⟩
                obtain ⟨u2, hu2⟩ : ∃ u, y.take (x.length + 1) = u := ⟨_, rfl⟩
                rw [hu1] at hne hse
                rw [hu2] at hne hex
                clear hx hy hab hrk hu1 hu2
                by_cases hlen : x.length < y.length
                · have hlt3 : ((x.length : Int) < (y.length : Int)) = True := by simp; omega
                  have hw3 : IntKind.i64.wrap ((x.length : Int) + 1) = (x.length : Int) + 1 := IntWalk.i64_in _ (by omega)
                  go_wp2_with fail
                  go_quiet (fail)
                  go_wp2
                  go_roundw
                  case rel => exact ⟨k + 1, by omega, by go_num, by first | exact HBK.out | exact below_drewN HBK.out _⟩
                  case measure => simp [intOf]; omega
                · have hlt3 : ((x.length : Int) < (y.length : Int)) = False := by simp; omega
                  go_wp2_with fail
                  go_quiet (fail)
                  go_wp2
                  go_roundw
                  case rel => exact ⟨k + 1, by omega, by go_num, by first | exact HBK.out | exact below_drewN HBK.out _⟩
                  case measure => simp [intOf]; omega
              · clear hrk
                go_wp2
                go_roundw
                case rel => exact ⟨0 + 1, by omega, by first | rfl | go_num, HBK.out⟩
                case measure => simp [intOf] <;> omega
          | succ i =>
            obtain ⟨b1, o1, hix1, hc1⟩ := hrj.at (P := Tryz.prog) Tryz.underlying39 (by kernel_rfl) (i + 1) (by simpa using hlt)
            obtain ⟨b2, o2, hix2, hc2⟩ := hrj.at (P := Tryz.prog) Tryz.underlying39 (by kernel_rfl) i (by simp; omega)
            have hix1' : ∀ w', (Instr.indexAt 39 (.slice a3 L.length cap3) (.int .i64 ((i : Int) + 1))).run Tryz.prog w' = .ok (.pointer (some ⟨b1, o1, none⟩)) w' := hix1
            simp only [List.getElem_map] at hc1 hc2
            have hlt2 : L[i].1 < L[i + 1].1 := by
              have := (List.pairwise_iff_getElem.1 HTW.out.sort) i (i + 1) (by simp; omega) (by simpa using hlt) (by omega)
              simpa using this
            have hle1 : Op.bytesLess L[i + 1].1 L[i].1 = false := by
              rw [bytesLess_eq, decide_eq_false_iff_not]
              exact fun h => List.lt_irrefl _ (List.lt_trans h hlt2)
            have hle2 : (L[i + 1].1 == L[i].1) = false := by
              rw [beq_eq_false_iff_ne]
              exact fun h => lt_ne hlt2 h.symm
            have hsub : (i : Int) + 1 - 1 = (i : Int) := by omega
            have hw1 : IntKind.i64.wrap ((i : Int) + 1 - 1) = (i : Int) := by rw [hsub]; exact IntWalk.i64_in _ (by omega)
            have hw2 : IntKind.i64.wrap (i : Int) = (i : Int) := IntWalk.i64_in _ (by omega)
            have hpos : ((0 : Int) < (i : Int) + 1) = True := by simp <;> omega
            obtain ⟨x1, hx1⟩ : ∃ x, L[i + 1].1 = x := ⟨_, rfl⟩
            obtain ⟨x2, hx2⟩ : ∃ x, L[i].1 = x := ⟨_, rfl⟩
            rw [hx1] at hc1 hle1 hle2
            rw [hx2] at hc2 hle1 hle2
            clear hlt2 hrj hx1 hx2
            go_wp2_with fail
            go_quiet (fail)
            clear hle1 hle2 hc1 hc2 hix1 hix2 hix1'
            go_wp2_with fail
            go_loopw [11] (fun iv wl => ∃ k : Nat, k ≤ L.length ∧ iv = .int .i64 k ∧ Below w10.heap.size w10 wl) (fun iv _ => L.length - (intOf iv).toNat)
            case atStart => exact ⟨0, by omega, rfl, by first | exact HBQ.out | exact HBQ.out.drew | exact below_drewN HBQ.out _⟩
            case round =>
              obtain ⟨k, hk, rfl, hbk⟩ := hrel
              have HBK := Lib.hid hbk
              have hrk := HRD.out.below0 hbk
              clear hbk
              by_cases hltk : k < L.length
              · obtain ⟨bj, oj, hixj, hcj⟩ := hrk.at (P := Tryz.prog) Tryz.underlying39 (by kernel_rfl) (i + 1) (by simpa using hlt)
                obtain ⟨bk, ok, hixk, hck⟩ := hrk.at (P := Tryz.prog) Tryz.underlying39 (by kernel_rfl) k (by simpa using hltk)
                have hixj1 : ∀ w', (Instr.indexAt 39 (.slice a3 L.length cap3) (.int .i64 ((i : Int) + 1))).run Tryz.prog w' = .ok (.pointer (some ⟨bj, oj, none⟩)) w' := hixj
                simp only [List.getElem_map] at hcj hck
                have hab := HAP.out _ (List.getElem_mem hlt) _ (List.getElem_mem hltk)
                have hl1 := (HTW.out.path _ (List.getElem_mem hlt)).2.1
                have hl2 := (HTW.out.path _ (List.getElem_mem hltk)).2.1
                obtain ⟨x, hx⟩ : ∃ x, L[(i + 1)].1 = x := ⟨_, rfl⟩
                obtain ⟨y, hy⟩ : ∃ y, L[k].1 = y := ⟨_, rfl⟩
                rw [hx] at hcj hab hl1
                rw [hy] at hck hab hl2
                have hne := aboveB_not hab
                have hse : (⟨x.toArray⟩ : ByteArray) ++ (⟨#[47]⟩ : ByteArray) = ⟨(x ++ [47]).toArray⟩ := by
                  rw [show (⟨#[47]⟩ : ByteArray) = ⟨([47] : List UInt8).toArray⟩ from rfl, str_app]
                have hex : (⟨y.toArray⟩ : ByteArray).extract 0 (x.length + 1) = ⟨(y.take (x.length + 1)).toArray⟩ := by rw [extract_list]; simp
                have hz1 : ¬ 9223372036854775807 < x.length + 1 := by omega
                obtain ⟨u1, hu1⟩ : ∃ u, x ++ [47] = u := ⟨_, rfl⟩
                obtain ⟨u2, hu2⟩ : ∃ u, y.take (x.length + 1) = u := ⟨_, rfl⟩
                rw [hu1] at hne hse
                rw [hu2] at hne hex
                clear hx hy hab hrk hu1 hu2
                by_cases hlen : x.length < y.length
                · have hlt3 : ((x.length : Int) < (y.length : Int)) = True := by simp; omega
                  have hw3 : IntKind.i64.wrap ((x.length : Int) + 1) = (x.length : Int) + 1 := IntWalk.i64_in _ (by omega)
                  go_wp2_with fail
                  go_quiet (fail)
                  go_wp2
                  go_roundw
                  case rel => exact ⟨k + 1, by omega, by go_num, by first | exact HBK.out | exact below_drewN HBK.out _⟩
                  case measure => simp [intOf]; omega
                · have hlt3 : ((x.length : Int) < (y.length : Int)) = False := by simp; omega
                  go_wp2_with fail
                  go_quiet (fail)
                  go_wp2
                  go_roundw
                  case rel => exact ⟨k + 1, by omega, by go_num, by first | exact HBK.out | exact below_drewN HBK.out _⟩
                  case measure => simp [intOf]; omega
              · clear hrk
                go_wp2
                go_roundw
                case rel => exact ⟨(i + 1) + 1, by omega, by first | rfl | go_num, HBK.out⟩
                case measure => simp [intOf] <;> omega
        · obtain rfl : j = L.length := by omega
          have hl6 : ((L.length : Int) ≤ 60) = True := by simp; omega
          clear hrj
          go_wp2
          go_ret
          exact ⟨rfl, HB10.out.trans (HBQ.out.mono HB10.out.size)⟩
end Go.Proofs.YtmkpeopebddnjaaGreatDoor
