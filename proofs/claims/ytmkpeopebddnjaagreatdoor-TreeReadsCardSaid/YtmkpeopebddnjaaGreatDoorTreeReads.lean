/-
  The walk of the law TreeReads, at every text.
-/
import Derived.Test.YtmkpeopebddnjaaGreatDoorRTreeOf
namespace Go.Proofs.YtmkpeopebddnjaaGreatDoor
open Go Go.RowKit Go.Kf Go.Sort

set_option maxRecDepth 100000 in
set_option maxHeartbeats 2000000 in
theorem treeReads_all (s : List UInt8) (w : World) (S : Nat → Addr) (hm : Ml w) (hS : ErrW w S) (hN : NErr w) (ht : Tab w) :
    Calls Tryz.prog 7 #[str s] w fun e w' => e = .returned (.bool true) ∧ Below w.heap.size w w' := by
  have K0 := Lib.hid (treed_any w S hm (tErr_of_errW hS) ht)
  have HM := Lib.hid hm
  have HS := Lib.hid hS
  have HT := Lib.hid ht
  have HN := Lib.hid hN
  clear hm hS ht hN
  by_cases hl : s.length ≤ 3000
  · have hd : ((3000 : Int) < (s.length : Int)) = False := eq_false (by omega)
    go_enter Tryz.func7, Tryz.ntmps7
    go_wp2_with fail
    refine K0.out.mono ?_
    rintro e w1 ⟨rfl, hb1⟩
    have HB1 := Lib.hid hb1
    clear hb1
    have K1 := Lib.hid (read_any s w1 S hl (HM.out.below HB1.out (Nat.le_refl _)) (tErr_of_errW (HS.out.below HB1.out (Nat.le_refl _))) (tab_below HT.out HB1.out (Nat.le_refl _)) (HN.out.below HB1.out (Nat.le_refl _)))
    go_wp2_with fail
    refine K1.out.mono ?_
    rintro e w2 ⟨hb2, c, M, hans, ⟨hc, rfl⟩ | ⟨rfl, tb, mb, m, rfl, hT, htw, htb, hmb⟩⟩
    · have HB2 := Lib.hid (HB1.out.trans (hb2.mono HB1.out.size))
      have HAN := Lib.hid hans
      have HC := Lib.hid hc
      have K2 := Lib.hid (treeOf_any s w2 hl)
      obtain ⟨cv, hcv⟩ : ∃ v, codeV S c = v := ⟨_, rfl⟩
      have HCV := Lib.hid hcv
      rw [hcv]
      clear hb2 hans hc hcv
      go_wp2_with fail
      refine K2.out.mono ?_
      rintro e w3 ⟨hb3, c', M', hans', ⟨hc', rfl⟩ | ⟨rfl, B, rb, lv, rfl, hR, m', htw'⟩⟩
      · obtain rfl := HAN.out.code hans'
        have HB3 := Lib.hid (HB2.out.trans (hb3.mono HB2.out.size))
        have K3 := coded_c c (by have := HAN.out.le; omega) (HS.out.below HB3.out (Nat.le_refl _))
        rw [HCV.out] at K3
        have K3 := Lib.hid K3
        have hq : ((0 : Int) < (c : Int)) = True := eq_true (by omega)
        have hq2 : (0 < c) = True := eq_true (by omega)
        clear hb3 hans' hc'
        go_wp2_with fail
        refine K3.out.mono ?_
        rintro e w4 ⟨rfl, hb4⟩
        have HB4 := Lib.hid (HB3.out.trans (hb4.mono HB3.out.size))
        clear hb4
        go_wp2
        go_ret
        exact ⟨rfl, HB4.out⟩
      · exact absurd (HAN.out.code hans') HC.out
    · have HB2 := Lib.hid (HB1.out.trans (hb2.mono HB1.out.size))
      have HAN := Lib.hid hans
      have HTt := Lib.hid hT
      have HTW := Lib.hid htw
      have K2 := Lib.hid (treeOf_any s w2 hl)
      clear hb2 hans hT htw htb hmb
      go_wp2_with fail
      refine K2.out.mono ?_
      rintro e w3 ⟨hb3, c', M', hans', ⟨hc', rfl⟩ | ⟨rfl, B, rb, lv, rfl, hR, m', htw'⟩⟩
      · exact absurd (hans'.code HAN.out) hc'
      · have hMM : M = M' := by
          obtain h1 := HAN.out
          rcases h1 with ⟨-, h⟩ | ⟨L, h1, h2⟩
          · cases h
          · rcases hans' with ⟨-, h⟩ | ⟨L', h3, h4⟩
            · cases h
            · obtain rfl := h1.one h3
              rcases h2 with ⟨a, b⟩ | ⟨a, b, d⟩ | ⟨a, b, d, rfl⟩
              · exact absurd b.symm a
              · cases d
              · rcases h4 with ⟨a', b'⟩ | ⟨a', b', d'⟩ | ⟨a', b', d', rfl⟩
                · exact absurd b'.symm a'
                · cases d'
                · rfl
        subst hMM
        have HB3 := Lib.hid (HB2.out.trans (hb3.mono HB2.out.size))
        have HT3 := Lib.hid (HTt.out.below hb3)
        have HR3 := Lib.hid hR
        have K3 := coded_c 0 (by decide) (HS.out.below HB3.out (Nat.le_refl _))
        rw [show codeV S 0 = .nilIface from rfl] at K3
        have K3 := Lib.hid K3
        have hz : HAN.out.zero = HAN.out.zero := rfl
        have HSL := Lib.hid HAN.out.zero
        have hml : M.length ≤ 60 := by have := HTW.out.many; have := HTW.out.len; omega
        clear hb3 hans' hR hz
        go_wp2_with fail
        refine K3.out.mono ?_
        rintro e w4 ⟨rfl, hb4⟩
        have HB4 := Lib.hid (HB3.out.trans (hb4.mono HB3.out.size))
        have HT4 := Lib.hid (HT3.out.below hb4)
        have HR4 := Lib.hid (HR3.out.below hb4)
        have K4 := text_tree tb mb m w4 HT4.out (tab_below HT.out HB4.out (Nat.le_refl _)) HTW.out.nodup' (by have := HTW.out.many; omega) (fun x hx => by have := HTW.out.keyLen hx; omega) (fun p => by have := HTW.out.getLen p; omega)
        rw [HTW.out.lines, ← HSL.out] at K4
        have K4 := Lib.hid K4
        clear hb4
        go_wp2_with fail
        refine K4.out.mono ?_
        rintro e w5 ⟨rfl, hb5⟩
        have HB5 := Lib.hid (HB4.out.trans (hb5.mono HB4.out.size))
        have HT5 := Lib.hid (HT4.out.below hb5)
        have HR5 := Lib.hid (HR4.out.below hb5)
        have K5 := rtext_any B rb lv M w5 HR5.out (by omega) (fun x hx => by have := HTW.out.path x hx; omega)
        rw [← HSL.out] at K5
        have K5 := Lib.hid K5
        clear hb5
        go_wp2_with fail
        refine K5.out.mono ?_
        rintro e w6 ⟨rfl, hb6⟩
        have HB6 := Lib.hid (HB5.out.trans (hb6.mono HB5.out.size))
        have HT6 := Lib.hid (HT5.out.below hb6)
        have K6 := text_tree tb mb m w6 HT6.out (tab_below HT.out HB6.out (Nat.le_refl _)) HTW.out.nodup' (by have := HTW.out.many; omega) (fun x hx => by have := HTW.out.keyLen hx; omega) (fun p => by have := HTW.out.getLen p; omega)
        rw [HTW.out.lines, ← HSL.out] at K6
        have K6 := Lib.hid K6
        have hss : (s == s) = true := beq_self_eq_true s
        clear hb6
        go_wp2_with fail
        refine K6.out.mono ?_
        rintro e w7 ⟨rfl, hb7⟩
        have HB7 := Lib.hid (HB6.out.trans (hb7.mono HB6.out.size))
        clear hb7
        go_wp2
        go_ret
        exact ⟨rfl, HB7.out⟩
  · have hd : ((3000 : Int) < (s.length : Int)) = True := eq_true (by omega)
    go_enter Tryz.func7, Tryz.ntmps7
    go_wp2_with fail
    refine K0.out.mono ?_
    rintro e w1 ⟨rfl, hb1⟩
    go_wp2
    go_ret
    exact ⟨rfl, hb1⟩
end Go.Proofs.YtmkpeopebddnjaaGreatDoor
