/-
  The walk of the law YardFresh. (A draft: the statement only.) Lists of files as an argument.
-/
import Derived.Test.YtgjialbmlhbngaaGreatDoorYdC
import Derived.Test.YtgjialbmlhbngaaGreatDoorYdD
import Derived.Test.YtgjialbmlhbngaaGreatDoorBdF
import Derived.Test.YtgjialbmlhbngaaGreatDoorRbE
import Derived.Test.YtgjialbmlhbngaaGreatDoorPkI
import Derived.Test.YtgjialbmlhbngaaGreatDoorPkQ
import Derived.Deep.RegionHeld3
import Derived.Test.YtgjialbmlhbngaaGreatDoorPkU

namespace Go.Proofs.YtgjialbmlhbngaaGreatDoor
open Go Go.RowKit Go.Kf Go.Sort Go.Proofs

/-- Lists of files, each read where it lies. -/
def EditsAt (w : World) (v : Value) (E : List (List Ent × Value)) : Prop := Reads w v (E.map Prod.snd) ∧ ∀ x ∈ E, ReadsK 2 w x.2 (x.1.map fileRow)
theorem ownsRow_spot {w : World} {B : Nat} {e : TypeId} {z : Nat} {v : Value} {n : Nat} {xs : List Value} (h : w.ownsRow B e z v n xs) : ∀ ad n c, v = .slice (some ad) n c → ad.spot = none := by
  intro ad k c hv
  rcases h.2 with ⟨h1, -⟩ | ⟨g, cap, cur, h1, -⟩
  · rw [h1] at hv; cases hv
  · rw [h1] at hv; cases hv; rfl
/-- The yard takes rules of its own. -/
theorem yrules_own {S : Nat → Addr} {B B' : Nat} {Y : YPl} {vl lv v : Value} {R R' : List RV} {m mo : List Ent} {c : CS} (w : World) (h : YAt B Y vl lv R m mo c w) (ho : OwnAt B' w v R') (hlow : Y.yb < B') (hm : Ml w) (hE : KErr w S) (hN : NErr w) (ht : Tab w)
    (hb : ∀ x ∈ R', x.1.out.length ≤ 1000000 ∧ x.1.word.length ≤ 100000 ∧ (∀ s ∈ x.1.ins, s.length ≤ 1000000) ∧ x.1.ins.length ≤ 1000) (hn : R'.length ≤ 1000) :
    Calls Tryz.prog 14 #[ptrV Y.yb, v] w (YRulesAns S B Y vl lv R m mo c R' w) :=
  yrules_any w h R' v (fun wl hf => (own_rulesT ⟨_, own_fr ho hf (fun q hq => ⟨(rown_lt ho hq).2, fun e => by have := (rown_lt ho hq).1; omega⟩)⟩).1) (own_rulesT ⟨_, ho⟩).2 (ownsRow_spot ho.1) hm hE hN ht hb hn
/-- What stands between two steps of the law. -/
structure FSt (B : Nat) (w1 : World) (Y : YPl) (vl : Value) (R : List RV) (m mo : List Ent) (c : CS) (lv : Value) (w : World) : Prop where
  yard : YAt B Y vl lv R m mo c w
  good : Good m
  outs : OutsIn (R.map Prod.fst) mo
  cok : COk (some c)
  room : (R.map Prod.fst).length ≤ c.many
  low : Below w1.heap.size w1 w
section
variable {B : Nat} {w1 w w' : World} {Y : YPl} {vl lv : Value} {R : List RV} {m mo : List Ent} {c : CS}
theorem FSt.below (h : FSt B w1 Y vl R m mo c lv w) (hb : Below w.heap.size w w') : FSt B w1 Y vl R m mo c lv w' := ⟨h.yard.below hb, h.good, h.outs, h.cok, h.room, h.low.trans (hb.mono h.low.size)⟩
theorem FSt.drew (h : FSt B w1 Y vl R m mo c lv w) : FSt B w1 Y vl R m mo c lv w.drew := h.below (Below.refl _ _).drew
theorem FSt.tstep (h : FSt w1.heap.size w1 Y vl R m mo c lv w) {m' : List Ent} (hT : TAt w' Y.tb Y.mb m') (hf : Fr w.heap.size (fun k => k = Y.mb) w w') (hg : Good m') : FSt w1.heap.size w1 Y vl R m' mo c lv w' :=
  ⟨h.yard.tstep hT hf, hg, h.outs, h.cok, h.room, h.low.trans ((hf.mono (S' := fun k => k = Y.mb) h.low.size (fun _ _ h => h)).below (fun k hk e => by have := h.yard.low 1 k (Or.inr e); omega))⟩
end
theorem AllMade.fst {vl lv : Value} {w1 w w' : World} {Y : YPl} {R : List RV} {m mo : List Ent} {c : CS} {n : Nat → Nat} {o js : List Nat} {c' : CS} {st' : Nat → St} {lv' : Value} {mo' : List Ent} (h : AllMade w1.heap.size Y vl lv R m c w w' n o js c' st' lv' mo') (hf : FSt w1.heap.size w1 Y vl R m mo c lv w) : FSt w1.heap.size w1 Y vl R m mo' c' lv' w' :=
  ⟨h.yard, hf.good, h.fresh.outs, h.cok, h.room hf.room, hf.low.trans ((h.low.mono hf.low.size (fun _ _ h => h)).below (fun k hk e => by obtain ⟨i, e⟩ := e; have := hf.yard.low i k e; omega))⟩
/-- The second yard while the tree is copied into it. -/
structure ZSt (W : World) (Z : YPl) (vl lv : Value) (R : List RV) (cz : CS) (wq : World) (v : Value) (m mz : List Ent) (ks : List (List UInt8)) (w : World) : Prop where
  yard : YAt W.heap.size Z vl lv R mz [] cz w
  cop : Cop m mz ks
  row : w.ownsRow wq.heap.size 9 1 v m.length ((sortK m).map str)
  low : Below W.heap.size W w
section
variable {W wq w w' : World} {Z : YPl} {vl lv v : Value} {R : List RV} {cz : CS} {m mz : List Ent} {ks : List (List UInt8)}
theorem ZSt.below (h : ZSt W Z vl lv R cz wq v m mz ks w) (hb : Below w.heap.size w w') : ZSt W Z vl lv R cz wq v m mz ks w' := ⟨h.yard.below hb, h.cop, row_below h.row hb, h.low.trans (hb.mono h.low.size)⟩
theorem ZSt.drew (h : ZSt W Z vl lv R cz wq v m mz ks w) : ZSt W Z vl lv R cz wq v m mz ks w.drew := h.below (Below.refl _ _).drew
theorem ZSt.step (h : ZSt W Z vl lv R cz wq v m mz ks w) (hz : Z.mb < wq.heap.size) {mz' : List Ent} {ks' : List (List UInt8)} (hT : TAt w' Z.tb Z.mb mz') (hf : Fr w.heap.size (fun k => k = Z.mb) w w') (hc : Cop m mz' ks') : ZSt W Z vl lv R cz wq v m mz' ks' w' :=
  ⟨h.yard.tstep hT hf, hc, ownsRow_fr h.row hf (fun k hk => ⟨(h.row.lt k hk).2, fun e => by have := (h.row.lt k hk).1; omega⟩), h.low.trans ((hf.mono (S' := fun k => k = Z.mb) h.low.size (fun _ _ h => h)).below (fun k hk e => by have := h.yard.low 1 k (Or.inr e); omega))⟩
end
theorem at_fixed {P : Program} {T : TypeId} {sv iv : Value} {b o b' o' : Nat} (w : World) (h : ∀ w', (Instr.indexAt T sv iv).run P w' = .ok (.pointer (some ⟨b, o, none⟩)) w') (h' : ∀ w', (Instr.indexAt T sv iv).run P w' = .ok (.pointer (some ⟨b', o', none⟩)) w') : b = b' ∧ o = o' := by
  have := (h w).symm.trans (h' w)
  simpa using this
set_option maxRecDepth 100000 in
set_option maxHeartbeats 8000000 in
theorem yardFresh_all (R : List RV) (v : Value) (E : List (List Ent × Value)) (ve : Value) (w : World) (S : Nat → Addr) (hr : ReadsK 4 w v (R.map rvRow)) (hi : ∀ x ∈ R, Reads w x.2 (x.1.ins.map str) ∧ NilOr x.2) (hed : EditsAt w ve E) (hm : Ml w) (hE : BErr w S) (hN : NErr w) (ht : Tab w) :
    Calls Tryz.prog 3 #[v, ve] w fun e w' => e = .returned (.bool true) ∧ Below w.heap.size w w' := by
  have hrow : ∀ r ∈ R.map rvRow, r ≠ [] := fun r hr => by obtain ⟨x, -, rfl⟩ := List.mem_map.1 hr; simp [rvRow]
  have hrowf : ∀ (fs : List Ent), ∀ r ∈ fs.map fileRow, r ≠ [] := fun fs r hr => by obtain ⟨x, -, rfl⟩ := List.mem_map.1 hr; simp [fileRow]
  obtain ⟨a, c, hv, hle, -⟩ := id hr
  rw [List.length_map] at hv hle
  subst hv
  obtain ⟨ae, ce, hve, hlee, -⟩ := id hed.1
  rw [List.length_map] at hve hlee
  subst hve
  have KW := Lib.hid (yarded_any w S hm hE hN ht)
  have KL := Lib.hid (fun w1 (hb : Below w.heap.size w w1) => longRules_any R (.slice a R.length c) 12 w1 (readsK_below0 hr hrow hb) (fun x hx => (hi x hx).1.below0 hb) (by decide))
  have KO := Lib.hid (fun w1 (hb : Below w.heap.size w w1) (hs : ∀ x ∈ R, ShortR x.1) (hn : R.length ≤ 1000) => ownRules_any R (.slice a R.length c) w1 (readsK_below0 hr hrow hb) (fun x hx => ⟨(hi x hx).1.below0 hb, (hi x hx).2, by have := (hs x hx).2.2.2.1; omega⟩) hn)
  have HE := Lib.hid ((⟨hm, hE, hN, ht⟩ : Ml w ∧ BErr w S ∧ NErr w ∧ Tab w))
  go_enter Tryz.func3, Tryz.ntmps3
  go_wp2_with fail
  refine KW.out.mono ?_
  rintro e w1 ⟨rfl, hb1⟩
  have HB1 := Lib.hid hb1
  clear hb1
  go_wp2_with fail
  refine (KL.out w1 HB1.out).mono ?_
  rintro e w2 ⟨rfl, rfl | ⟨rfl, hn, hs⟩⟩
  · go_wp2
    go_ret
    exact ⟨rfl, HB1.out⟩
  by_cases h6 : E.length ≤ 6
  case neg =>
    have hc6 : ((6 : Int) < (E.length : Int)) = True := eq_true (by omega)
    go_wp2
    go_ret
    exact ⟨rfl, HB1.out⟩
  have hc6 : ((6 : Int) < (E.length : Int)) = False := eq_false (by omega)
  have KN := Lib.hid (ynew_any 100 w1 (by omega) (by omega))
  have HLW := Lib.hid (fun (wl : World) (hb : Below w1.heap.size w1 wl) => HB1.out.trans (hb.mono HB1.out.size))
  go_wp2_with fail
  refine KN.out.mono ?_
  rintro e w2 ⟨Y, rfl, hY2, hb2⟩
  have HY2 := Lib.hid hY2
  have HL2 := Lib.hid hb2
  have hn1 : R.length ≤ 1000 := by omega
  have KO2 := Lib.hid (KO.out w2 (HLW.out w2 hb2) hs hn1)
  clear hY2 hb2 KN
  go_wp2_with fail
  refine KO2.out.mono ?_
  rintro e w3 ⟨v3, R3, rfl, he3, ho3, hb3⟩
  have HY3 := Lib.hid (HY2.out.below hb3)
  have HL3 := Lib.hid (HL2.out.trans (hb3.mono HL2.out.size))
  have HO3 := Lib.hid ho3
  clear ho3 hb3 KO2
  have hn3 : R3.length = R.length := by have := congrArg List.length he3; simpa using this
  have HB3 := Lib.hid (HLW.out w3 HL3.out)
  have KR := Lib.hid (yrules_own (S := S) w3 HY3.out HO3.out (HY2.out.lt 0 Y.yb rfl) (HE.out.1.below HB3.out (Nat.le_refl _)) (HE.out.2.1.below HB3.out).k (HE.out.2.2.1.below HB3.out (Nat.le_refl _)) (tab_below HE.out.2.2.2 HB3.out (Nat.le_refl _)) (short_bounds (short_other hs he3)) (by omega))
  go_wp2_with fail
  refine KR.out.mono ?_
  rintro e w4 hans
  unfold YRulesAns at hans
  rw [he3] at hans
  rcases hans with ⟨T, x, rfl, -, -, hb4⟩ | ⟨rfl, hright, hord, vl4, R4, he4, hY4, -, hf4⟩
  · have hb := HB3.out.trans (hb4.mono HB3.out.size)
    clear hb4
    go_wp2
    go_ret
    exact ⟨rfl, hb⟩
  have HL4 : Hid (Below w1.heap.size w1 w4) := Lib.hid (HL3.out.trans ((hf4.mono (S' := fun k => k = Y.yb) HL3.out.size (fun _ _ h => h)).below (fun k hk e => by have := HY2.out.low 0 Y.yb rfl; omega)))
  have HY4 := Lib.hid hY4
  have HRT : Hid (RightS (R.map Prod.fst) ∧ ∃ o, orderB (edgesB (R.map Prod.fst)) (fun _ => true) (R.map Prod.fst).length = some o) := Lib.hid ⟨hright, hord⟩
  have HS := Lib.hid hs
  have h12 : R.length ≤ 12 := by have := hright.1; rw [List.length_map] at this; omega
  have HN12 := Lib.hid h12
  have HE4 := Lib.hid he4
  have HRC := Lib.hid (fun wl (hb : Below w1.heap.size w1 wl) => readsK_below0 hr hrow (HLW.out wl hb))
  have HN3 := Lib.hid hn3
  have HE3 := Lib.hid he3
  clear hright hord hY4 hf4 KR hs hn he4 hn3 he3
  obtain ⟨CB, hCB⟩ : ∃ CB : Nat → Nat → Prop, CB = fun i k => ((R.map Prod.fst).getD i noR).out.length + 1 < ((R.map Prod.fst).getD k noR).out.length ∧ ((R.map Prod.fst).getD k noR).out.take (((R.map Prod.fst).getD i noR).out.length + 1) = ((R.map Prod.fst).getD i noR).out ++ [47] := ⟨_, rfl⟩
  have HCB := Lib.hid hCB
  clear hCB
  go_wp2_with fail
  go_loop [8] (fun iv => ∃ i : Nat, i ≤ R.length ∧ iv = .int .i64 i ∧ ∀ i' k', i' < i → k' < R.length → ¬ CB i' k') (fun iv => R.length - (intOf iv).toNat)
  case atStart => exact ⟨0, by omega, rfl, fun _ _ h => absurd h (Nat.not_lt_zero _)⟩
  case round =>
    obtain ⟨i, hile, rfl, hall⟩ := hrel
    have HAL := Lib.hid hall
    clear hall
    by_cases hi : i < R.length
    · have hlc : ((i : Int) < (R.length : Int)) = True := eq_true (by omega)
      go_wp2
      go_loop [9] (fun kv => ∃ k : Nat, k ≤ R.length ∧ kv = .int .i64 k ∧ ∀ k', k' < k → ¬ CB i k') (fun kv => R.length - (intOf kv).toNat)
      case atStart => exact ⟨0, by omega, rfl, fun _ h => absurd h (Nat.not_lt_zero _)⟩
      case round =>
        obtain ⟨k, hkle, rfl, hall2⟩ := hrel
        have HAK := Lib.hid hall2
        clear hall2
        by_cases hk : k < R.length
        · have hlk : ((k : Int) < (R.length : Int)) = True := eq_true (by omega)
          obtain ⟨bi, oi, hixi, -, hcei⟩ := (HRC.out w4 HL4.out).at (P := Tryz.prog) Tryz.underlying22 (by kernel_rfl) i (by simpa using hi)
          obtain ⟨bk, ok, hixk, -, hcek⟩ := (HRC.out w4 HL4.out).at (P := Tryz.prog) Tryz.underlying22 (by kernel_rfl) k (by simpa using hk)
          simp only [List.getElem_map] at hcei hcek
          have hi0 := hcei 0 _ rfl
          have hk0 := hcek 0 _ rfl
          simp only [Nat.add_zero] at hi0 hk0
          have HC : Hid (CB i k ↔ (R[i].1.out.length + 1 < R[k].1.out.length ∧ R[k].1.out.take (R[i].1.out.length + 1) = R[i].1.out ++ [47])) := Lib.hid (by
            simp only [HCB.out]
            rw [getD_at (l := R.map Prod.fst) (i := i) (by simpa using hi), getD_at (l := R.map Prod.fst) (i := k) (by simpa using hk), List.getElem_map, List.getElem_map])
          clear hcei hcek
          have hxl : R[i].1.out.length ≤ 100 := (HS.out _ (List.getElem_mem hi)).1
          generalize R[i].1.out = x at *
          generalize R[k].1.out = y at *
          obtain ⟨xs, hxs⟩ : ∃ xs, x ++ [47] = xs := ⟨_, rfl⟩
          have hxn : x.length + 1 = xs.length := by rw [← hxs]; simp
          obtain ⟨ys, hys⟩ : ∃ ys, y.take xs.length = ys := ⟨_, rfl⟩
          have HC2 : Hid (CB i k ↔ (xs.length < y.length ∧ ys = xs)) := Lib.hid (by rw [HC.out, hxn, hxs, hys])
          have e1 : (⟨x.toArray⟩ : ByteArray) ++ (⟨#[47]⟩ : ByteArray) = ⟨xs.toArray⟩ := by rw [← hxs, show (⟨#[47]⟩ : ByteArray) = ⟨([47] : List UInt8).toArray⟩ from rfl, str_app]
          have hex : (⟨y.toArray⟩ : ByteArray).extract 0 xs.length = ⟨ys.toArray⟩ := by rw [← hys]; exact extract_list y 0 xs.length
          have hxb : ¬ 9223372036854775807 < x.length + 1 := by omega
          have HXN := Lib.hid hxn
          have hxb2 : xs.length ≤ 101 := by omega
          clear HC hxn hxs hys
          by_cases hA : xs.length < y.length
          · have hA2 : ((xs.length : Int) < (y.length : Int)) = True := eq_true (by omega)
            by_cases hB : ys = xs
            · have hB2 : (ys == xs) = true := by simpa using hB
              go_wp2
              go_ret
              exact ⟨rfl, HLW.out _ HL4.out⟩
            · have hB2 : (ys == xs) = false := by simpa using hB
              have HNC : Hid (¬ CB i k) := Lib.hid (fun h => hB (HC2.out.1 h).2)
              go_wp2
              go_round
              case rel =>
                refine ⟨k + 1, by omega, by go_num, fun k' hk' => ?_⟩
                by_cases e : k' = k
                · subst e; exact HNC.out
                · exact HAK.out k' (by omega)
              case measure => simp [intOf]; omega
          · have hA2 : ((xs.length : Int) < (y.length : Int)) = False := eq_false (by omega)
            have HNC : Hid (¬ CB i k) := Lib.hid (fun h => hA (HC2.out.1 h).1)
            go_wp2
            go_round
            case rel =>
              refine ⟨k + 1, by omega, by go_num, fun k' hk' => ?_⟩
              by_cases e : k' = k
              · subst e; exact HNC.out
              · exact HAK.out k' (by omega)
            case measure => simp [intOf]; omega
        · obtain rfl : k = R.length := by omega
          have hlk : ((R.length : Int) < (R.length : Int)) = False := eq_false (by omega)
          go_wp2
          go_round
          case rel =>
            refine ⟨i + 1, by omega, by go_num, fun i' k' hi' hk' => ?_⟩
            by_cases e : i' = i
            · subst e; exact HAK.out k' hk'
            · exact HAL.out i' k' (by omega) hk'
          case measure => simp [intOf]; omega
    · obtain rfl : i = R.length := by omega
      have hlc : ((R.length : Int) < (R.length : Int)) = False := eq_false (by omega)
      have HLV : Hid (Level (R.map Prod.fst)) := Lib.hid (level_of HRT.out.1 (fun i k hi hk h => HAL.out i k (by simpa using hi) (by simpa using hk) (by rw [HCB.out]; exact h)))
      have HED := Lib.hid (fun wl (hb : Below w1.heap.size w1 wl) => (⟨hed.1.below0 (HLW.out wl hb), fun x hx => readsK_below0 (hed.2 x hx) (hrowf x.1) (HLW.out wl hb)⟩ : Reads wl (.slice ae E.length ce) (E.map Prod.snd) ∧ ∀ x ∈ E, ReadsK 2 wl x.2 (x.1.map fileRow)))
      have HV := Lib.hid (fun wl (hb : Below w1.heap.size w1 wl) (m : List Ent) (hg : Good m) => ((once_env HS.out hg.byt HE.out).below (HLW.out wl hb) : BEnv S (R.map Prod.fst) m wl))
      have KTR := Lib.hid (fun (m mo : List Ent) (c : CS) (lv : Value) wl (h : FSt w1.heap.size w1 Y vl4 R4 m mo c lv wl) => (ytree_any wl h.yard).mono (fun e w' (h' : _ ∧ _) => (⟨h'.1, h'.2 ▸ h⟩ : e = .returned (ptrV Y.tb) ∧ FSt w1.heap.size w1 Y vl4 R4 m mo c lv w')))
      have KRM := Lib.hid (fun (m mo : List Ent) (c : CS) (lv : Value) (p : List UInt8) wl (h : FSt w1.heap.size w1 Y vl4 R4 m mo c lv wl) => (remove_tree Y.tb Y.mb m p wl S h.yard.tree (HV.out wl h.low m h.good).err.t).mono (fun e w' (h' : _ ∧ _ ∧ _) => (⟨h'.1, h.tstep h'.2.1 h'.2.2 (h.good.del p)⟩ : e = .returned (codeV S (removeC p m)) ∧ FSt w1.heap.size w1 Y vl4 R4 (mdel p m) mo c lv w')))
      have KPT := Lib.hid (fun (m mo : List Ent) (c : CS) (lv : Value) (p b : List UInt8) (hp : p.length ≤ 1000000) wl (h : FSt w1.heap.size w1 Y vl4 R4 m mo c lv wl) => (put_tree Y.tb Y.mb m p b wl S h.yard.tree (HV.out wl h.low m h.good).ml (HV.out wl h.low m h.good).err.t hp (by have := h.good.len; omega) (fun y hy => by have := h.good.klen y hy; omega)).mono (fun e w' (h' : _ ∧ _ ∧ _) => (⟨h'.1, h.tstep h'.2.1 h'.2.2 (h.good.put p b)⟩ : e = .returned (codeV S (putC p b m)) ∧ FSt w1.heap.size w1 Y vl4 R4 (putM p b m) mo c lv w')))
      have HL := Lib.hid hlee
      have HF0 : Hid (FSt w1.heap.size w1 Y vl4 R4 [] [] ⟨100, [], []⟩ (.slice none 0 0) w4) := Lib.hid ⟨HY4.out, Good.nil, OutsIn.nil _, fun c0 h => by cases h; exact ⟨CSt.zero (by decide) (by decide), CInv.zero _⟩, by rw [HE4.out, List.length_map]; have := HN12.out; show R.length ≤ 100; omega, HL4.out⟩
      clear HAL HCB HY2 HY3 HL2 HL3 HO3 HB3 hed hi hr hm hE hN ht hrow hrowf hle HRC hlc
      go_wp2_with fail
      go_loopw [11] (fun iv wl => ∃ (i : Nat) (m mo : List Ent) (c : CS) (lv : Value), i ≤ E.length ∧ iv = .int .i64 i ∧ FSt w1.heap.size w1 Y vl4 R4 m mo c lv wl) (fun iv _ => E.length - (intOf iv).toNat)
      case atStart => exact ⟨0, [], [], _, _, by omega, rfl, HF0.out⟩
      case round =>
        obtain ⟨i, m, mo, c, lv, hile, rfl, hst⟩ := hrel
        have HST := Lib.hid hst
        clear hst
        by_cases hi : i < E.length
        · have hlc : ((i : Int) < (E.length : Int)) = True := eq_true (by omega)
          obtain ⟨be, oe, hixe, hcee⟩ := (HED.out wr HST.out.low).1.at (P := Tryz.prog) Tryz.underlying23 (by kernel_rfl) i (by simpa using hi)
          simp only [List.getElem_map] at hcee
          have hfr := (HED.out wr HST.out.low).2 _ (List.getElem_mem hi)
          obtain ⟨af, cf, hfv, hlf, -⟩ := id hfr
          rw [List.length_map] at hfv hlf
          have HFS := Lib.hid (fun wl (hb : Below w1.heap.size w1 wl) => (by
            obtain ⟨b2, o2, hix2, hce2⟩ := (HED.out wl hb).1.at (P := Tryz.prog) Tryz.underlying23 (by kernel_rfl) i (by simpa using hi)
            obtain ⟨rfl, rfl⟩ := at_fixed wr hixe hix2
            simp only [List.getElem_map] at hce2
            exact ⟨hfv ▸ hce2, hfv ▸ (HED.out wl hb).2 _ (List.getElem_mem hi)⟩ : wl.cell? ⟨be, oe, none⟩ = some (.slice af E[i].1.length cf) ∧ ReadsK 2 wl (.slice af E[i].1.length cf) (E[i].1.map fileRow)))
          rw [hfv] at hcee hfr
          have KLF := Lib.hid (longFiles2_any (.slice af E[i].1.length cf) E[i].1 wr hfr)
          clear hfv hfr
          generalize E[i].1 = fs at *
          go_wp2_with fail
          refine KLF.out.mono ?_
          rintro e w5 ⟨rfl, rfl | ⟨rfl, hff⟩⟩
          · go_wp2
            go_ret
            exact ⟨rfl, HLW.out _ HST.out.low⟩
          have HFF := Lib.hid hff
          clear hff hcee KLF
          go_wp2_with fail
          go_loopw [12] (fun kv wl => ∃ (k : Nat) (m2 : List Ent), k ≤ fs.length ∧ kv = .int .i64 k ∧ FSt w1.heap.size w1 Y vl4 R4 m2 mo c lv wl) (fun kv _ => fs.length - (intOf kv).toNat)
          case atStart => exact ⟨0, m, by omega, rfl, HST.out⟩
          case round =>
            obtain ⟨k, m2, hkle, rfl, hst2⟩ := hrel
            have HS2 := Lib.hid hst2
            obtain ⟨hce, hrd⟩ := HFS.out wr hst2.low
            clear hst2
            by_cases hk : k < fs.length
            · have hlk : ((k : Int) < (fs.length : Int)) = True := eq_true (by omega)
              obtain ⟨bf, of, hixf, -, hcf⟩ := hrd.at (P := Tryz.prog) Tryz.underlying37 (by kernel_rfl) k (by simpa using hk)
              simp only [List.getElem_map] at hcf
              have h0 := hcf 0 _ rfl
              have h1 := hcf 1 _ rfl
              simp only [Nat.add_zero] at h0
              have hpl : fs[k].1.length ≤ 1000000 := by have := (HFF.out.2 _ (List.getElem_mem hk)).1; omega
              have HCE := Lib.hid (fun wl (hb : Below w1.heap.size w1 wl) => (by
                obtain ⟨h1, h2⟩ := HFS.out wl hb
                obtain ⟨b2, o2, hix2, -, hce2⟩ := h2.at (P := Tryz.prog) Tryz.underlying37 (by kernel_rfl) k (by simpa using hk)
                obtain ⟨rfl, rfl⟩ := at_fixed wr hixf hix2
                simp only [List.getElem_map] at hce2
                have h3 := hce2 0 _ rfl
                have h4 := hce2 1 _ rfl
                simp only [Nat.add_zero] at h3
                exact ⟨h1, h3, h4⟩ : wl.cell? ⟨be, oe, none⟩ = some (.slice af fs.length cf) ∧ wl.cell? ⟨bf, of, none⟩ = some (str fs[k].1) ∧ wl.cell? ⟨bf, of + 1, none⟩ = some (str fs[k].2)))
              clear hcf hrd
              generalize fs[k] = x at *
              obtain ⟨p, b⟩ := x
              simp only at h0 h1 hpl HCE
              have KTA := Lib.hid (KTR.out m2 mo c lv)
              have KRA := Lib.hid (KRM.out m2 mo c lv p)
              have KPA := Lib.hid (KPT.out m2 mo c lv p b hpl)
              by_cases hb0 : b = []
              · subst hb0
                go_wp2_with fail
                go_region_held3 (fun w' => w'.cell? ⟨be, oe, none⟩ = some (.slice af fs.length cf) ∧ w'.cell? ⟨bf, of, none⟩ = some (str p))
                  (first | exact (fun h => ⟨h.1, h.2.1⟩) (HCE.out _ h8.low) | exact (fun h => ⟨h.1, h.2.1⟩) (HCE.out _ h6.low) | exact (fun h => ⟨h.1, h.2.1⟩) (HCE.out _ HS2.out.low.drew) | exact (fun h => ⟨h.1, h.2.1⟩) (HCE.out _ HS2.out.low))
                  (first
                    | (go_at_call 17
                       refine (KTA.out _ ?_).mono ?_
                       · first | exact HS2.out | exact HS2.out.drew
                       rintro e w6 ⟨rfl, h6⟩)
                    | (go_at_call 18
                       refine (KRA.out _ ?_).mono ?_
                       · first | exact h6 | exact h6.drew
                       rintro e w8 ⟨rfl, h8⟩))
                have HS8 := Lib.hid h8
                clear h8 h6 h0 h1 hce
                go_wp2
                go_roundw
                case rel => exact ⟨k + 1, _, by omega, by go_num, HS8.out⟩
                case measure => simp [intOf]; omega
              · have hb1 : (b == []) = false := by simpa using hb0
                go_wp2_with fail
                go_region_held3 (fun w' => w'.cell? ⟨be, oe, none⟩ = some (.slice af fs.length cf) ∧ w'.cell? ⟨bf, of, none⟩ = some (str p) ∧ w'.cell? ⟨bf, of + 1, none⟩ = some (str b))
                  (first | exact HCE.out _ h8.low | exact HCE.out _ h6.low | exact HCE.out _ HS2.out.low.drew | exact HCE.out _ HS2.out.low)
                  (first
                    | (go_at_call 17
                       refine (KTA.out _ ?_).mono ?_
                       · first | exact HS2.out | exact HS2.out.drew
                       rintro e w6 ⟨rfl, h6⟩)
                    | (go_at_call 19
                       refine (KPA.out _ ?_).mono ?_
                       · first | exact h6 | exact h6.drew
                       rintro e w8 ⟨rfl, h8⟩))
                have HS8 := Lib.hid h8
                clear h8 h6 h0 h1 hce
                go_wp2
                go_roundw
                case rel => exact ⟨k + 1, _, by omega, by go_num, HS8.out⟩
                case measure => simp [intOf]; omega
            · obtain rfl : k = fs.length := by omega
              have hlk : ((fs.length : Int) < (fs.length : Int)) = False := eq_false (by omega)
              have HR4 : Hid (RightS (R4.map Prod.fst) ∧ ∃ o, orderB (edgesB (R4.map Prod.fst)) (fun _ => true) (R4.map Prod.fst).length = some o) := Lib.hid (by rw [HE4.out]; exact HRT.out)
              have HA4 : Hid ((R4.map Prod.fst).length ≤ 12 ∧ Level (R4.map Prod.fst)) := Lib.hid (by rw [HE4.out]; exact ⟨by rw [List.length_map]; exact HN12.out, HLV.out⟩)
              have HVY := Lib.hid (fun wl (hb : Below w1.heap.size w1 wl) => (by rw [HE4.out]; exact HV.out wl hb m2 HS2.out.good : BEnv S (R4.map Prod.fst) m2 wl))
              have KM := Lib.hid (make_all (S := S) w1 wr rfl HS2.out.yard HS2.out.cok (HVY.out w1 (Below.refl _ _)) HS2.out.low HR4.out.1 HR4.out.2 HA4.out.1 HA4.out.2 HS2.out.outs)
              go_wp2_with fail
              refine KM.out.mono ?_
              clear hce hrd hixe HFS HFF
              rintro e w6 ⟨n, o, js, c6, st6, lv6, mo6, rfl, h6⟩
              have H6 := Lib.hid h6
              have HF6 := Lib.hid (h6.fst HS2.out)
              obtain ⟨n0, hn0⟩ : ∃ x, n 0 = x := ⟨_, rfl⟩
              obtain ⟨n1, hn1⟩ : ∃ x, n 1 = x := ⟨_, rfl⟩
              obtain ⟨n2, hn2⟩ : ∃ x, n 2 = x := ⟨_, rfl⟩
              obtain ⟨n3, hn3⟩ : ∃ x, n 3 = x := ⟨_, rfl⟩
              have hn12 := h6.few
              rw [hn0, hn1] at hn12
              rw [hn0, hn1, hn2, hn3]
              have hR4n : R4.length ≤ 12 := by have := HA4.out.1; rw [List.length_map] at this; exact this
              have hb01 : n0 ≤ 12 ∧ n1 ≤ 12 := ⟨by omega, by omega⟩
              have HNN := Lib.hid ((⟨hn0, hn1, hn2, hn3⟩ : n 0 = n0 ∧ n 1 = n1 ∧ n 2 = n2 ∧ n 3 = n3))
              obtain ⟨W7, hW7⟩ : ∃ W, w6.alloc (.cells #[.int .i64 (n0 : Int), .int .i64 (n1 : Int), .int .i64 (n2 : Int), .int .i64 (n3 : Int)] 45) = W := ⟨_, rfl⟩
              have hA7 : Below w6.heap.size w6 W7 := hW7 ▸ (Below.refl _ w6).alloc (Nat.le_refl _) _
              have hg7 : W7.heap[w6.heap.size]? = some (.cells #[.int .i64 (n0 : Int), .int .i64 (n1 : Int), .int .i64 (n2 : Int), .int .i64 (n3 : Int)] 45 (0, 0)) := hW7 ▸ heap_alloc_here w6 _
              have HG7 := Lib.hid hg7
              have HW7 := Lib.hid hW7
              have HF7 := Lib.hid (HF6.out.below hA7)
              have KS := Lib.hid (ystale_any (S := S) w1 W7 HF7.out.yard (HVY.out w1 (Below.refl _ _)) HF7.out.low HR4.out.1 HR4.out.2)
              rw [h6.fresh.stale, show sortB [] = [] by decide +kernel] at KS
              clear h6 hn0 hn1 hn2 hn3 hn12 hR4n hA7 hg7 hW7 KM
              go_wp2_with fail
              try rw [HW7.out]
              refine KS.out.mono ?_
              rintro e w8 ⟨u, rfl, hown, hb8⟩
              obtain ⟨au, cu, hu, -, -⟩ := id (ownsRow_reads hown)
              rw [List.length_map] at hu
              subst hu
              have HF8 := Lib.hid (HF7.out.below hb8)
              have HG8 := Lib.hid ((hb8.block _ (lt_of_heap HG7.out)).trans HG7.out)
              have KM2 := Lib.hid (make_all (S := S) w1 w8 rfl HF8.out.yard HF8.out.cok (HVY.out w1 (Below.refl _ _)) HF8.out.low HR4.out.1 HR4.out.2 HA4.out.1 HA4.out.2 HF8.out.outs)
              clear hown hb8 KS
              go_wp2_with fail
              refine KM2.out.mono ?_
              rintro e w9 ⟨p, o9, js9, c9, st9, lv9, mo9, rfl, h9⟩
              obtain ⟨e0, e1, e2, e3⟩ := H6.out.again HS2.out.cok HS2.out.room h9
              rw [HNN.out.1] at e1
              rw [HNN.out.2.1] at e1
              rw [HNN.out.2.2.1] at e2
              rw [HNN.out.2.2.2] at e3
              rw [e0, e1, e2, e3, show countV 0 (n0 + n1) n2 n3 = .agg #[.int .i64 0, .int .i64 ((n0 : Int) + (n1 : Int)), .int .i64 (n2 : Int), .int .i64 (n3 : Int)] by simp [countV]]
              have H9 := Lib.hid h9
              have HF9 := Lib.hid (h9.fst HF8.out)
              have hg9 : w9.heap[w6.heap.size]? = some (.cells #[.int .i64 (n0 : Int), .int .i64 (n1 : Int), .int .i64 (n2 : Int), .int .i64 (n3 : Int)] 45 (0, 0)) := (h9.low.block _ (lt_of_heap HG8.out) (fun ⟨i, hi⟩ => by have := HF6.out.yard.lt i _ hi; omega)).trans HG8.out
              obtain ⟨W10, hW10⟩ : ∃ W, w9.alloc (.cells #[.int .i64 0, .int .i64 ((n0 : Int) + (n1 : Int)), .int .i64 (n2 : Int), .int .i64 (n3 : Int)] 45) = W := ⟨_, rfl⟩
              have hA10 : Below w9.heap.size w9 W10 := hW10 ▸ (Below.refl _ w9).alloc (Nat.le_refl _) _
              have hg10 : W10.heap[w9.heap.size]? = some (.cells #[.int .i64 0, .int .i64 ((n0 : Int) + (n1 : Int)), .int .i64 (n2 : Int), .int .i64 (n3 : Int)] 45 (0, 0)) := hW10 ▸ heap_alloc_here w9 _
              have hg19 := (hA10.block _ (lt_of_heap hg9)).trans hg9
              have a0 : W10.cell? ⟨w6.heap.size, 0, none⟩ = some (.int .i64 (n0 : Int)) := (cell_of_heap hg19 0).trans rfl
              have a1 : W10.cell? ⟨w6.heap.size, 1, none⟩ = some (.int .i64 (n1 : Int)) := (cell_of_heap hg19 1).trans rfl
              have a2 : W10.cell? ⟨w6.heap.size, 2, none⟩ = some (.int .i64 (n2 : Int)) := (cell_of_heap hg19 2).trans rfl
              have a3 : W10.cell? ⟨w6.heap.size, 3, none⟩ = some (.int .i64 (n3 : Int)) := (cell_of_heap hg19 3).trans rfl
              have b0 : W10.cell? ⟨w9.heap.size, 0, none⟩ = some (.int .i64 0) := (cell_of_heap hg10 0).trans rfl
              have b1 : W10.cell? ⟨w9.heap.size, 1, none⟩ = some (.int .i64 ((n0 : Int) + (n1 : Int))) := (cell_of_heap hg10 1).trans rfl
              have b2 : W10.cell? ⟨w9.heap.size, 2, none⟩ = some (.int .i64 (n2 : Int)) := (cell_of_heap hg10 2).trans rfl
              have b3 : W10.cell? ⟨w9.heap.size, 3, none⟩ = some (.int .i64 (n3 : Int)) := (cell_of_heap hg10 3).trans rfl
              have HF10 := Lib.hid (HF9.out.below hA10)
              have HW10 := Lib.hid hW10
              have KZ := Lib.hid (ynew_any 1 W10 (by omega) (by omega))
              rw [← HW10.out] at a0 a1 a2 a3 b0 b1 b2 b3
              clear h9 e0 e1 e2 e3 hg9 hA10 hg10 hg19 hW10 KM2 HG7 HG8
              go_wp2_with fail
              try rw [HW10.out]
              refine KZ.out.mono ?_
              rintro e w11 ⟨Z, rfl, hz11, hb11⟩
              clear a0 a1 a2 a3 b0 b1 b2 b3 KZ
              have HZ11 := Lib.hid hz11
              have HF11 := Lib.hid (HF10.out.below hb11)
              have HL11 := Lib.hid hb11
              have KO11 := Lib.hid (KO.out w11 (HLW.out w11 HF11.out.low) HS.out hn1)
              clear hz11 hb11
              go_wp2_with fail
              refine KO11.out.mono ?_
              rintro e w12 ⟨v12, R12, rfl, he12, ho12, hb12⟩
              have HZ12 := Lib.hid (HZ11.out.below hb12)
              have HL12 := Lib.hid (HL11.out.trans (hb12.mono HL11.out.size))
              have HB12 := Lib.hid (HLW.out w12 (HF11.out.low.trans (hb12.mono HF11.out.low.size)))
              have hn12 : R12.length = R.length := by have := congrArg List.length he12; simpa using this
              have KR12 := Lib.hid (yrules_own (S := S) w12 HZ12.out ho12 (HZ11.out.lt 0 Z.yb rfl) (HE.out.1.below HB12.out (Nat.le_refl _)) (HE.out.2.1.below HB12.out).k (HE.out.2.2.1.below HB12.out (Nat.le_refl _)) (tab_below HE.out.2.2.2 HB12.out (Nat.le_refl _)) (short_bounds (short_other HS.out he12)) (by omega))
              have HE12 := Lib.hid he12
              clear he12 ho12 hb12 KO11 hn12
              go_wp2_with fail
              refine KR12.out.mono ?_
              rintro e w13 hans
              unfold YRulesAns at hans
              rw [HE12.out] at hans
              rcases hans with ⟨T, x, -, hbad | ⟨-, hno, -⟩, -⟩ | ⟨rfl, -, -, vlz, Rz, hez, hYz, -, hfz⟩
              · exact absurd HRT.out.1 hbad.wrong
              · obtain ⟨o', ho'⟩ := HRT.out.2
                rw [hno] at ho'
                cases ho'
              have HZ13 := Lib.hid hYz
              have HEZ := Lib.hid hez
              have HL13 : Hid (Below W10.heap.size W10 w13) := Lib.hid (HL12.out.trans ((hfz.mono (S' := fun k => k = Z.yb) HL12.out.size (fun _ _ h => h)).below (fun k hk e => by have := HZ11.out.low 0 Z.yb rfl; omega)))
              have HF13 := Lib.hid (HF10.out.below HL13.out)
              have KT13 := Lib.hid (ytree_any w13 HF13.out.yard)
              have KP13 := Lib.hid (paths_tree Y.tb Y.mb m2 w13 HF13.out.yard.tree HF13.out.good.nd (by have := HF13.out.good.len; omega) (fun y hy => by have := HF13.out.good.klen y hy; omega))
              clear hYz hez hfz KR12 HZ11 HZ12 HL11 HL12
              go_wp2_with fail
              refine KT13.out.mono ?_
              rintro e w14 ⟨rfl, e14⟩
              have e15 := e14.symm
              subst e15
              clear e14
              go_wp2_with fail
              refine KP13.out.mono ?_
              rintro e w15 ⟨vp, rfl, hown, hb15⟩
              obtain ⟨ap, cp, hp, -, -⟩ := id (ownsRow_reads hown)
              rw [List.length_map, sortK_len] at hp
              subst hp
              have HKL : Hid ((sortK m2).length = m2.length) := Lib.hid (sortK_len m2)
              have hm60 : m2.length ≤ 60 := HS2.out.good.len
              have hzmb : Z.mb < w13.heap.size := HZ13.out.lt 1 _ (Or.inr rfl)
              have HZS : Hid (ZSt W10 Z vlz (.slice none 0 0) Rz ⟨1, [], []⟩ w13 (.slice ap m2.length cp) m2 [] [] w15) := Lib.hid ⟨HZ13.out.below hb15, Cop.nil m2, hown, HL13.out.trans (hb15.mono HL13.out.size)⟩
              have HZB := Lib.hid hzmb
              clear hown hb15 KT13 KP13 hzmb
              go_wp2_with fail
              go_loopw [18] (fun kv wl => ∃ (k : Nat) (mz : List Ent), k ≤ m2.length ∧ kv = .int .i64 k ∧ ZSt W10 Z vlz (.slice none 0 0) Rz ⟨1, [], []⟩ w13 (.slice ap m2.length cp) m2 mz ((sortK m2).take k) wl) (fun kv _ => m2.length - (intOf kv).toNat)
              case atStart => exact ⟨0, [], by omega, rfl, HZS.out⟩
              case round =>
                obtain ⟨k, mz, hkle, rfl, hzs⟩ := hrel
                have HZR := Lib.hid hzs
                clear hzs
                by_cases hk : k < m2.length
                · have hlk : ((k : Int) < (m2.length : Int)) = True := eq_true (by omega)
                  have hks : k < (sortK m2).length := by rw [HKL.out]; exact hk
                  obtain ⟨bp, op, hixp, hcep⟩ := (ownsRow_reads HZR.out.row).at (P := Tryz.prog) Tryz.underlying33 (by kernel_rfl) k (by rw [List.length_map]; exact hks)
                  simp only [List.getElem_map] at hcep
                  have hpm : (sortK m2)[k] ∈ m2.map Prod.fst := (sortK_perm m2).mem_iff.1 (List.getElem_mem hks)
                  have hpl : (sortK m2)[k].length ≤ 1000000 := by
                    obtain ⟨y, hy, e⟩ := List.mem_map.1 hpm
                    have := HS2.out.good.klen y hy
                    rw [e] at this
                    omega
                  obtain ⟨hput, hcop⟩ := HZR.out.cop.step HS2.out.good (fun q hq => (sortK_perm m2).mem_iff.1 (List.mem_of_mem_take hq)) hpm
                  have HCP := Lib.hid (by rw [List.take_succ_eq_append_getElem hks]; exact hcop : Cop m2 (putM (sortK m2)[k] (mget m2 (sortK m2)[k]) mz) ((sortK m2).take (k + 1)))
                  have HCE := Lib.hid (fun wl mz ks (h : ZSt W10 Z vlz (.slice none 0 0) Rz ⟨1, [], []⟩ w13 (.slice ap m2.length cp) m2 mz ks wl) => (by
                    obtain ⟨b2, o2, hix2, hce2⟩ := (ownsRow_reads h.row).at (P := Tryz.prog) Tryz.underlying33 (by kernel_rfl) k (by rw [List.length_map]; exact hks)
                    obtain ⟨rfl, rfl⟩ := at_fixed wr hixp hix2
                    simpa only [List.getElem_map] using hce2 : wl.cell? ⟨bp, op, none⟩ = some (str (sortK m2)[k])))
                  have KTY := Lib.hid (fun wl (h : ZSt W10 Z vlz (.slice none 0 0) Rz ⟨1, [], []⟩ w13 (.slice ap m2.length cp) m2 mz ((sortK m2).take k) wl) => (ytree_any wl (HF10.out.below h.low).yard).mono (fun e w' (h' : _ ∧ _) => (⟨h'.1, h'.2 ▸ h⟩ : e = .returned (ptrV Y.tb) ∧ ZSt W10 Z vlz (.slice none 0 0) Rz ⟨1, [], []⟩ w13 (.slice ap m2.length cp) m2 mz ((sortK m2).take k) w')))
                  have KTZ := Lib.hid (fun wl (h : ZSt W10 Z vlz (.slice none 0 0) Rz ⟨1, [], []⟩ w13 (.slice ap m2.length cp) m2 mz ((sortK m2).take k) wl) => (ytree_any wl h.yard).mono (fun e w' (h' : _ ∧ _) => (⟨h'.1, h'.2 ▸ h⟩ : e = .returned (ptrV Z.tb) ∧ ZSt W10 Z vlz (.slice none 0 0) Rz ⟨1, [], []⟩ w13 (.slice ap m2.length cp) m2 mz ((sortK m2).take k) w')))
                  have KGY := Lib.hid (fun wl (h : ZSt W10 Z vlz (.slice none 0 0) Rz ⟨1, [], []⟩ w13 (.slice ap m2.length cp) m2 mz ((sortK m2).take k) wl) => (get_tree Y.tb Y.mb m2 (sortK m2)[k] wl (HF10.out.below h.low).yard.tree).mono (fun e w' (h' : _ ∧ _) => (⟨h'.1, h'.2 ▸ h⟩ : e = .returned (.tuple #[str (mget m2 (sortK m2)[k]), .bool (mlook (sortK m2)[k] m2).isSome]) ∧ ZSt W10 Z vlz (.slice none 0 0) Rz ⟨1, [], []⟩ w13 (.slice ap m2.length cp) m2 mz ((sortK m2).take k) w')))
                  have hmz : mz.length ≤ 1000 ∧ ∀ y ∈ mz, y.1.length ≤ 1000000 := by
                    have hs := nodup_subL (mz.map Prod.fst) (m2.map Prod.fst) HZR.out.cop.nd (fun x hx => (sortK_perm m2).mem_iff.1 (List.mem_of_mem_take ((HZR.out.cop.keys x).1 hx)))
                    rw [List.length_map, List.length_map] at hs
                    refine ⟨by omega, fun y hy => ?_⟩
                    have hx := (sortK_perm m2).mem_iff.1 (List.mem_of_mem_take ((HZR.out.cop.keys y.1).1 (List.mem_map.2 ⟨y, hy, rfl⟩)))
                    obtain ⟨z, hz, e⟩ := List.mem_map.1 hx
                    have := HS2.out.good.klen z hz
                    rw [e] at this
                    omega
                  have KPZ := Lib.hid (fun wl (h : ZSt W10 Z vlz (.slice none 0 0) Rz ⟨1, [], []⟩ w13 (.slice ap m2.length cp) m2 mz ((sortK m2).take k) wl) => (put_tree Z.tb Z.mb mz (sortK m2)[k] (mget m2 (sortK m2)[k]) wl S h.yard.tree (HV.out wl (HF10.out.below h.low).low m2 HS2.out.good).ml (HV.out wl (HF10.out.below h.low).low m2 HS2.out.good).err.t hpl hmz.1 hmz.2).mono (fun e w' (h' : _ ∧ _ ∧ _) => (⟨by rw [h'.1, hput]; rfl, h.step HZB.out h'.2.1 h'.2.2 HCP.out⟩ : e = .returned .nilIface ∧ ZSt W10 Z vlz (.slice none 0 0) Rz ⟨1, [], []⟩ w13 (.slice ap m2.length cp) m2 (putM (sortK m2)[k] (mget m2 (sortK m2)[k]) mz) ((sortK m2).take (k + 1)) w')))
                  clear hput hcop hpm hmz hpl
                  generalize mget m2 (sortK m2)[k] = bs at *
                  generalize (mlook (sortK m2)[k] m2).isSome = is at *
                  generalize (sortK m2)[k] = p at *
                  clear hks
                  go_wp2_with fail
                  go_region_held3 (fun w' => w'.cell? ⟨bp, op, none⟩ = some (str p))
                    (first | exact HCE.out _ _ _ h18 | exact HCE.out _ _ _ h16 | exact HCE.out _ _ _ HZR.out.drew | exact HCE.out _ _ _ HZR.out)
                    (first
                      | (go_at_call 17
                         refine (KTY.out _ ?_).mono ?_
                         · first | exact HZR.out | exact HZR.out.drew
                         rintro e w16 ⟨rfl, h16⟩)
                      | (go_at_call 23
                         refine (KGY.out _ ?_).mono ?_
                         · first | exact h16 | exact h16.drew
                         rintro e w18 ⟨rfl, h18⟩))
                  have HZ18 := Lib.hid h18
                  have hce18 := HCE.out _ _ _ h18
                  clear h16 h18 hcep
                  go_wp2_with fail
                  go_region_held3 (fun w' => w'.cell? ⟨bp, op, none⟩ = some (str p))
                    (first | exact HCE.out _ _ _ h22 | exact HCE.out _ _ _ h20 | exact HCE.out _ _ _ HZ18.out.drew | exact HCE.out _ _ _ HZ18.out)
                    (first
                      | (go_at_call 17
                         refine (KTZ.out _ ?_).mono ?_
                         · first | exact HZ18.out | exact HZ18.out.drew
                         rintro e w20 ⟨rfl, h20⟩)
                      | (go_at_call 19
                         refine (KPZ.out _ ?_).mono ?_
                         · first | exact h20 | exact h20.drew
                         rintro e w22 ⟨rfl, h22⟩))
                  have HZ22 := Lib.hid h22
                  clear h20 h22 hce18
                  go_wp2
                  go_roundw
                  case rel => exact ⟨k + 1, _, by omega, by go_num, HZ22.out⟩
                  case measure => simp [intOf]; omega
                · obtain rfl : k = m2.length := by omega
                  have hlk : ((m2.length : Int) < (m2.length : Int)) = False := eq_false (by omega)
                  have hall : (sortK m2).take m2.length = sortK m2 := List.take_of_length_le (by rw [HKL.out]; exact Nat.le_refl _)
                  have hcd := HZR.out.cop
                  rw [hall] at hcd
                  have hdn := hcd.done
                  have hTe : (fun p => mlook p mz) = (fun p => mlook p m2) := funext hdn
                  have HV10 := HV.out W10 HF10.out.low m2 HS2.out.good
                  have KMZ := Lib.hid (make_all (S := S) W10 wr rfl HZR.out.yard (fun c0 h => by cases h; exact ⟨CSt.zero (by decide) (by decide), CInv.zero _⟩) (by rw [HEZ.out]; exact ⟨HV10.ml, HV10.err, HV10.num, HV10.tab, HV10.short, fun p b hp => HV10.files p b ((hdn p).symm.trans hp)⟩) HZR.out.low (by rw [HEZ.out]; exact HRT.out.1) (by rw [HEZ.out]; exact HRT.out.2) (by rw [HEZ.out, List.length_map]; exact HN12.out) (by rw [HEZ.out]; exact HLV.out) (OutsIn.nil _))
                  have HTE := Lib.hid hTe
                  clear hall hcd hdn hTe HV10
                  go_wp2_with fail
                  refine KMZ.out.mono ?_
                  rintro e w24 ⟨nz, oz, jsz, cz2, stz, lvz2, moz, rfl, hz24⟩
                  have hfz := hz24.fresh
                  rw [HTE.out, HEZ.out] at hfz
                  have hf9 := H9.out.fresh
                  rw [HE4.out] at hf9
                  have hsame : linesM moz (sortK moz) = linesM mo9 (sortK mo9) := text_same hfz.outs.nd hf9.outs.nd (hfz.same hf9)
                  have hsz := hfz.short HRT.out.1 HS2.out.good.byt
                  have hs9 := hf9.short HRT.out.1 HS2.out.good.byt
                  have hl24 : Below W10.heap.size W10 w24 := HZR.out.low.trans ((hz24.low.mono HZR.out.low.size (fun _ _ h => h)).below (fun k hk e => by obtain ⟨i, e⟩ := e; have := HZR.out.yard.low i k e; omega))
                  have HF24 := Lib.hid (HF10.out.below hl24)
                  have hlr : (R.map Prod.fst).length ≤ 12 := by rw [List.length_map]; exact HN12.out
                  have KOZ := Lib.hid (yout_any w24 hz24.yard)
                  have KTX := Lib.hid (text_tree Z.ob Z.om moz w24 hz24.yard.out (HV.out w24 HF24.out.low m2 HS2.out.good).tab hfz.outs.nd (by have := hfz.outs.len; omega) (fun x hx => by have := hsz.1 x hx; omega) (fun p => by have := hsz.2 p; omega))
                  have KOY := Lib.hid (fun wl (hb : Below w24.heap.size w24 wl) => yout_any wl (HF24.out.below hb).yard)
                  have KTT := Lib.hid (fun wl (hb : Below w24.heap.size w24 wl) => text_tree Y.ob Y.om mo9 wl (HF24.out.below hb).yard.out (HV.out wl (HF24.out.below hb).low m2 HS2.out.good).tab hf9.outs.nd (by have := hf9.outs.len; omega) (fun x hx => by have := hs9.1 x hx; omega) (fun p => by have := hs9.2 p; omega))
                  rw [← hsame] at KTT
                  generalize linesM moz (sortK moz) = tx at *
                  clear hz24 hfz hf9 hsame hsz hs9 hl24 hlr KMZ
                  go_wp2_with fail
                  refine KOZ.out.mono ?_
                  rintro e w25 ⟨rfl, e25⟩
                  have e26 := e25.symm
                  subst e26
                  clear e25
                  go_wp2_with fail
                  refine KTX.out.mono ?_
                  rintro e w27 ⟨rfl, hb27⟩
                  have HB27 := Lib.hid hb27
                  clear hb27
                  go_wp2_with fail
                  refine (KOY.out w27 HB27.out).mono ?_
                  rintro e w28 ⟨rfl, e28⟩
                  have e29 := e28.symm
                  subst e29
                  clear e28
                  go_wp2_with fail
                  refine (KTT.out w27 HB27.out).mono ?_
                  rintro e w30 ⟨rfl, hb30⟩
                  have HF30 := Lib.hid ((HF24.out.below HB27.out).below hb30)
                  clear hb30
                  go_wp2
                  go_roundw
                  case rel => exact ⟨i + 1, _, _, _, _, by omega, by go_num, HF30.out⟩
                  case measure => simp [intOf]; omega
        · obtain rfl : i = E.length := by omega
          have hlc : ((E.length : Int) < (E.length : Int)) = False := eq_false (by omega)
          go_wp2
          go_ret
          exact ⟨rfl, HLW.out _ HST.out.low⟩
end Go.Proofs.YtgjialbmlhbngaaGreatDoor

namespace Go.Proofs.YtgjialbmlhbngaaGreatDoor
open Go Go.ChangeShapes Go.WideShapes Go.ChangeAt Go.RowKit Go.Kf

/-- A list of files that came in. -/
abbrev InF (W : World) : Type := {x : List Ent × Value // ReadsK 2 W x.2 (x.1.map fileRow)}
instance (W : World) : Inhabited (InF W) := ⟨⟨([], .slice none 0 0), ⟨none, 0, rfl, by simp, fun i u hi => (by simp at hi)⟩⟩⟩
theorem editOpen {H : Type} (enc : TypeId × Value → H) (W : World) (m : Nat) (cs : List Value) (y : DataW H × List MemPlace) (h : DataW.trod enc Tryz.prog W 0 (fun _ => true) true m 37 cs = some y) : ∃ z : InF W, cs = [z.1.2] := by
  have hc : ∃ v, cs = [v] := by
    rcases Deep.open_slice Tryz.underlying37 h with ⟨h0, -⟩ | ⟨a, len, cap, m, n, D, Pl, h0, -⟩
    · exact ⟨_, h0⟩
    · exact ⟨_, h0⟩
  obtain ⟨v, rfl⟩ := hc
  obtain ⟨fs, hr⟩ := files_open h
  exact ⟨⟨(fs, v), hr⟩, rfl⟩
theorem edits_open {H : Type} {enc : TypeId × Value → H} {W : World} {v : Value} {fuel : Nat} {x : DataW H × List MemPlace} (h : DataW.trod enc Tryz.prog W 0 (fun _ => true) true fuel 23 [v] = some x) :
    ∃ E : List (List Ent × Value), EditsAt W v E := by
  obtain ⟨zs, hr⟩ := readsK_open (α := InF W) (s := 1) Tryz.underlying23 (by kernel_rfl) (by decide) h (fun z => [z.1.2]) (editOpen enc W)
  refine ⟨zs.map Subtype.val, ?_, fun y hy => ?_⟩
  · obtain ⟨a, cap, e, hle, hc⟩ := hr
    refine ⟨a, cap, by simpa using e, by simpa using hle, fun i u hi => ?_⟩
    rw [List.map_map, List.getElem?_map, Option.map_eq_some_iff] at hi
    obtain ⟨z, hz, rfl⟩ := hi
    obtain ⟨b, o, h1, h2⟩ := hc i [z.1.2] (by rw [List.getElem?_map, hz]; rfl)
    refine ⟨b, o, h1, ?_⟩
    have := h2 0 z.1.2 rfl
    rwa [Nat.mul_one, Nat.add_zero] at this
  · obtain ⟨z, -, rfl⟩ := List.mem_map.1 hy
    exact z.2
end Go.Proofs.YtgjialbmlhbngaaGreatDoor
