/-
  The walk of the reference's MatchOf.
-/
import Derived.Test.YtmkpeopebddnjaaGreatDoorStarOf
import Derived.Test.YtmkpeopebddnjaaGreatDoorFits
import Derived.Test.YtmkpeopebddnjaaGreatDoorRefP
import Derived.BigRegion
namespace Go.Proofs.YtmkpeopebddnjaaGreatDoor
open Go Go.RowKit Go.Kf

abbrev fitRow := rowOf (fun c : List UInt8 => decide (c = [42, 42])) starB
abbrev fitPart := partOf (fun c : List UInt8 => decide (c = [42, 42])) starB
abbrev fitG := glob (fun c : List UInt8 => decide (c = [42, 42])) starB

theorem _root_.Go.Kf.Reads.keep {w w' : World} {v : Value} {xs : List Value} (h : Reads w v xs) (hb : Below w.heap.size w w') : Reads w' v xs :=
  h.frame fun _ _ _ hu => (hb.cell (lt_of_cell hu)).trans hu

/-- The number of the error that MatchOf answers. -/
def matchN (p s : List UInt8) : Nat := if noMatch p s = true then 4 else 0

set_option maxRecDepth 100000 in
set_option maxHeartbeats 4000000 in
theorem matchOf_any (p s : List UInt8) (w : World) (hp : p.length ≤ 1000) (hs : s.length ≤ 1000) :
    Calls Tryz.prog 17 #[str p, str s] w fun e w' => e = .returned (.tuple #[.bool (matchB p s), .int .i64 (matchN p s : Int)]) ∧ Below w.heap.size w w' := by
  have HP := Lib.hid (partsOf_any p true w (by omega))
  have hlp := partsL_len p true
  have hls := partsL_len s false
  have mp := Lib.hid (partsL_mem p true)
  have ms := Lib.hid (partsL_mem s false)
  have hmB : Hid (matchB p s = (!decide (partsL p true = [] ∨ partsL s false = []) && fitsB (partsL p true) (partsL s false)) ∧ matchN p s = if (partsL p true = [] ∨ partsL s false = []) then 4 else 0) := Lib.hid (by
    unfold matchB matchN noMatch
    refine ⟨rfl, ?_⟩
    by_cases h : partsL p true = [] ∨ partsL s false = [] <;> simp [h])
  generalize matchB p s = mb at *
  generalize matchN p s = mn at *
  go_enter Tryz.func17, Tryz.ntmps17
  go_wp2_with fail
  refine HP.out.mono ?_
  rintro e w1 ⟨vp, rfl, ⟨ap, np, cp, rfl⟩, hrp, hb1⟩
  have HL := Lib.hid (partsOf_any s false w1 (by omega))
  have HRP := Lib.hid hrp
  clear hrp
  go_wp2_with fail
  refine HL.out.mono ?_
  rintro e w2 ⟨vl, rfl, ⟨al, nl, cl, rfl⟩, hrl, hb2⟩
  have hrp := HRP.out.keep hb2
  have b2 := hb1.trans (hb2.mono hb1.size)
  obtain rfl := hrp.len
  obtain rfl := hrl.len
  have hl1 : (((partsL p true).map str).length) = (partsL p true).length := List.length_map _
  have hl2 : (((partsL s false).map str).length) = (partsL s false).length := List.length_map _
  rw [hl1] at hrp ⊢
  rw [hl2] at hrl ⊢
  have RP := Lib.hid hrp
  have RL := Lib.hid hrl
  clear hl1 hl2 hrp hrl HRP hb2 HP HL
  generalize partsL p true = P at *
  generalize partsL s false = L at *
  by_cases hP : P = []
  · subst hP
    have e1 : mb = false := by rw [hmB.out.1]; simp
    have e2 : mn = 4 := by rw [hmB.out.2]; simp
    subst e1; subst e2
    go_wp2
    go_ret2
    exact ⟨rfl, b2⟩
  by_cases hL : L = []
  · subst hL
    have e1 : mb = false := by rw [hmB.out.1]; simp
    have e2 : mn = 4 := by rw [hmB.out.2]; simp
    subst e1; subst e2
    have hP' : P.length ≠ 0 := by simpa using hP
    go_wp2
    go_ret2
    exact ⟨rfl, b2⟩
  have hmB1 : Hid (mb = fitsB P L ∧ mn = 0) := Lib.hid (by rw [hmB.out.1, hmB.out.2]; simp [hP, hL])
  have hP' : P.length ≠ 0 := by simpa using hP
  have hL' : L.length ≠ 0 := by simpa using hL
  have hPpos : 0 < P.length := by omega
  have hLpos : 0 < L.length := by omega
  have dP : ((P.length : Int) == 0) = false := by simp; omega
  have dL : ((L.length : Int) == 0) = false := by simp; omega
  clear hmB hP hL hP' hL'
  have HMK := Lib.hid (make_bools L.length (by omega))
  have hi0 : ∀ g w', (Instr.indexAt 80 (.slice (some ⟨g, 0, none⟩) (L.length + 1) (L.length + 1)) (.int .i64 0)).run Tryz.prog w' = .ok (.pointer (some ⟨g, 0, none⟩)) w' := fun g w' => bool_at0 g _ _ (by omega) w'
  have hn0 := BRow.new 4 w2 (L.length + 1)
  have b0 : Below w2.heap.size w2 (w2.alloc (.cells ((List.replicate (L.length + 1) false).map Value.bool).toArray 4)) := (Below.refl _ _).alloc (Nat.le_refl _) _
  have hq0 := hi0 w2.heap.size
  have hc0 := hn0.cell (k := 0) (b := false) (by simp)
  have hf0 := hn0.frozen 0
  have hmk0 := HMK.out w2
  generalize hw3 : w2.alloc (.cells ((List.replicate (L.length + 1) false).map Value.bool).toArray 4) = w3 at *
  go_wp2
  have bS : Below w2.heap.size w2 (w3.setCell ⟨w2.heap.size, 0, none⟩ (.bool true)) := b0.setCell (p := ⟨w2.heap.size, 0, none⟩) (Nat.le_refl _) _
  have rS : BRow 4 (w3.setCell ⟨w2.heap.size, 0, none⟩ (.bool true)) w2.heap.size (fitRow P L 0) := by
    rw [show fitRow P L 0 = (List.replicate (L.length + 1) false).set 0 true from rowOf_zero P L]
    exact hn0.set 0 true
  have HB := Lib.hid bS
  have HR := Lib.hid rS
  clear hn0 b0 hq0 hc0 hf0 hmk0 hw3 bS rS
  go_loopw [8, 9] (fun fit i wl => ∃ g k : Nat, fit = .slice (some ⟨g, 0, none⟩) (L.length + 1) (L.length + 1) ∧ i = .int .i64 k ∧ k ≤ P.length ∧ BRow 4 wl g (fitRow P L k) ∧ w2.heap.size ≤ g ∧ Below w2.heap.size w2 wl) (fun _ i _ => P.length - (intOf i).toNat)
  case atStart => exact ⟨w2.heap.size, 0, rfl, rfl, by omega, HR.out, Nat.le_refl _, HB.out⟩
  case round =>
    obtain ⟨g, i, rfl, rfl, hi, hrow, hg, hb⟩ := hrel
    clear HB HR
    by_cases hlt : i < P.length
    · have hglt := hrow.lt
      have hrow2 := Lib.hid (hrow.alloc (.cells ((List.replicate (L.length + 1) false).map Value.bool).toArray 4))
      have hb3 := Lib.hid (hb.alloc hb.size (.cells ((List.replicate (L.length + 1) false).map Value.bool).toArray 4))
      have hnew := Lib.hid (BRow.new 4 wr (L.length + 1))
      have hmk0 := HMK.out wr
      obtain ⟨g2, hg2⟩ : ∃ g2, wr.heap.size = g2 := ⟨_, rfl⟩
      have hzb := hb.size
      generalize hw2 : wr.alloc (.cells ((List.replicate (L.length + 1) false).map Value.bool).toArray 4) = w4 at *
      rw [hg2] at hnew hmk0 hglt hzb
      clear hw2 hrow hb
      go_wp2
      clear hmk0 hg2
      go_loopw [11] (fun j wl => ∃ k : Nat, j = .int .i64 k ∧ k ≤ L.length + 1 ∧ BRow 4 wl g (fitRow P L i) ∧ BRow 4 wl g2 (fitPart P L (i + 1) k) ∧ Below w2.heap.size w2 wl) (fun j _ => L.length + 1 - (intOf j).toNat)
      case atStart => exact ⟨0, rfl, by omega, hrow2.out, by rw [show fitPart P L (i + 1) 0 = _ from partOf_zero P L (i + 1)]; exact hnew.out, hb3.out⟩
      case round =>
        obtain ⟨k, rfl, hk, hr1, hr2, hb⟩ := hrel
        clear hrow2 hnew hb3
        by_cases hkl : k < L.length + 1
        · obtain ⟨bp, op, hixp, hcp2⟩ := RP.out.at (P := Tryz.prog) Tryz.underlying39 (by kernel_rfl) i (by simpa using hlt)
          simp only [List.getElem_map] at hcp2
          have hbp : bp < w2.heap.size := lt_of_cell hcp2
          have hcp := (hb.cell hbp).trans hcp2
          clear hcp2
          obtain ⟨x, hx⟩ : ∃ x, P[i] = x := ⟨_, rfl⟩
          rw [hx] at hcp
          have hxm : x.length ≤ 1000 := by have := mp.out x (hx ▸ List.getElem_mem hlt); omega
          have fin : ∀ (wq : World), Below wr.heap.size wr wq → ∀ (b : Bool), fitG (P.take (i + 1)) (L.take k) = b → BRow 4 (wq.setCell ⟨g2, k, none⟩ (.bool b)) g (fitRow P L i) ∧ BRow 4 (wq.setCell ⟨g2, k, none⟩ (.bool b)) g2 (fitPart P L (i + 1) (k + 1)) ∧ Below w2.heap.size w2 (wq.setCell ⟨g2, k, none⟩ (.bool b)) := by
            intro wq hq b hbv
            have q1 := hr1.below hq hr1.lt
            have q2 := hr2.below hq hr2.lt
            have qb := hb.trans (hq.mono hb.size)
            refine ⟨q1.other _ (by simp; omega), ?_, qb.setCell (p := ⟨g2, k, none⟩) (by simp; omega) _⟩
            have := q2.set k b
            rw [← hbv, show (fitPart P L (i + 1) k).set k (fitG (P.take (i + 1)) (L.take k)) = fitPart P L (i + 1) (k + 1) from partOf_step P L (i + 1) (by omega)] at this
            rw [← hbv]; exact this
          have FIN := Lib.hid fin
          have f2 := hr2.frozen k
          have s2 := hr2.cell (k := k) (b := false) (by
            unfold fitPart partOf
            rw [List.getElem?_append_right (by rw [List.length_take, rowOf_len]; omega), List.length_take, rowOf_len]
            have : k - min k (L.length + 1) = 0 := by omega
            rw [this, List.getElem?_replicate, if_pos (by omega)])
          clear fin
          have BR := Lib.hid (Below.refl wr.heap.size wr)
          cases k with
          | zero =>
            have c1 : wr.cell? ⟨g, 0, none⟩ = some (.bool (fitG (P.take i) (L.take 0))) := hr1.cell (k := 0) (rowOf_at P L i (by omega))
            obtain ⟨b1, hb1⟩ : ∃ b, fitG (P.take i) (L.take 0) = b := ⟨_, rfl⟩
            rw [hb1] at c1
            by_cases hc : x = [42, 42]
            · have hd : (x == [42, 42]) = true := by simpa using hc
              have hv : fitG (P.take (i + 1)) (L.take 0) = b1 := by rw [← hb1]; exact step_star0 hlt (by rw [hx]; simpa using hc)
              have FI := Lib.hid (FIN.out _ BR.out _ hv)
              clear FIN hv hb1 hc hx hr1 hr2
              cases b1
              all_goals
                go_wp2
                go_roundw
                case rel => exact ⟨1, rfl, by omega, FI.out⟩
                case measure => simp [intOf] <;> omega
            · have hd : (x == [42, 42]) = false := by simpa using hc
              have hv : fitG (P.take (i + 1)) (L.take 0) = false := step_one0 hlt (by rw [hx]; simpa using hc)
              have FI := Lib.hid (FIN.out _ (BR.out.drew) _ hv)
              clear FIN hv hb1 hc hx hr1 hr2
              go_wp2
              go_region
              all_goals
                go_wp2
                go_roundw
                case rel => exact ⟨1, rfl, by omega, FI.out⟩
                case measure => simp [intOf] <;> omega
          | succ j =>
            have hjs : j < L.length := by omega
            have c1 : wr.cell? ⟨g, j + 1, none⟩ = some (.bool (fitG (P.take i) (L.take (j + 1)))) := hr1.cell (rowOf_at P L i (by omega))
            have c3 : wr.cell? ⟨g, j, none⟩ = some (.bool (fitG (P.take i) (L.take j))) := hr1.cell (rowOf_at P L i (by omega))
            have c2 : wr.cell? ⟨g2, j, none⟩ = some (.bool (fitG (P.take (i + 1)) (L.take j))) := hr2.cell (partOf_at P L (i + 1) (by omega) (by omega))
            obtain ⟨b1, hb1⟩ : ∃ b, fitG (P.take i) (L.take (j + 1)) = b := ⟨_, rfl⟩
            obtain ⟨b2, hb2⟩ : ∃ b, fitG (P.take (i + 1)) (L.take j) = b := ⟨_, rfl⟩
            obtain ⟨b3, hb3⟩ : ∃ b, fitG (P.take i) (L.take j) = b := ⟨_, rfl⟩
            rw [hb1] at c1
            rw [hb2] at c2
            rw [hb3] at c3
            have hsub : (j : Int) + 1 - 1 = (j : Int) := by omega
            have hw1 : IntKind.i64.wrap ((j : Int) + 1 - 1) = (j : Int) := by rw [hsub]; exact IntWalk.i64_in _ (by omega)
            have hw2 : IntKind.i64.wrap (j : Int) = (j : Int) := IntWalk.i64_in _ (by omega)
            have x1 := bool_at1 g (L.length + 1) (L.length + 1) j (by omega)
            have x2 := bool_at1 g2 (L.length + 1) (L.length + 1) j (by omega)
            have x3 := bool_at Tryz.underlying80 bool_size g (L.length + 1) (L.length + 1) j (by omega)
            have x4 := bool_at Tryz.underlying80 bool_size g2 (L.length + 1) (L.length + 1) j (by omega)
            have hpos : ((0 : Int) < (j : Int) + 1) = True := by simp <;> omega
            by_cases hc : x = [42, 42]
            · have hd : (x == [42, 42]) = true := by simpa using hc
              have hv : fitG (P.take (i + 1)) (L.take (j + 1)) = (b1 || b2) := by rw [← hb1, ← hb2]; exact step_star hlt (by rw [hx]; simpa using hc) hjs
              have FI := Lib.hid (FIN.out _ BR.out _ hv)
              clear FIN hv hb1 hb2 hb3 hc hx hr1 hr2 c3
              cases b1 <;> cases b2
              all_goals
                go_wp2
                go_roundw
                case rel => exact ⟨j + 1 + 1, by go_num, by omega, FI.out⟩
                case measure => simp [intOf] <;> omega
            · have hd : (x == [42, 42]) = false := by simpa using hc
              obtain ⟨bl, ol, hixl, hcl2⟩ := RL.out.at (P := Tryz.prog) Tryz.underlying39 (by kernel_rfl) j (by simpa using hjs)
              simp only [List.getElem_map] at hcl2
              have hbl : bl < w2.heap.size := lt_of_cell hcl2
              have hcl := (hb.cell hbl).trans hcl2
              clear hcl2
              obtain ⟨y, hy⟩ : ∃ y, L[j] = y := ⟨_, rfl⟩
              rw [hy] at hcl
              have hym : y.length ≤ 1000 := by have := ms.out y (hy ▸ List.getElem_mem hjs); omega
              have hv : fitG (P.take (i + 1)) (L.take (j + 1)) = (b3 && starB x y) := by rw [← hb3, ← hy, ← hx]; exact step_one hlt (by rw [hx]; simpa using hc) hjs
              have HR2 := Lib.hid hr2
              clear c1 c2 hb1 hb2 hb3 hc hx hr1 hr2 hy
              cases b3 with
              | false =>
                have FI := Lib.hid (FIN.out _ (BR.out.drew) _ hv)
                clear FIN hv
                go_wp2
                go_region
                all_goals
                  go_wp2
                  go_roundw
                  case rel => exact ⟨j + 1 + 1, by go_num, by omega, FI.out⟩
                  case measure => simp [intOf] <;> omega
              | true =>
                obtain ⟨q, hq⟩ : ∃ q, starB x y = q := ⟨_, rfl⟩
                rw [hq] at hv
                have HC : Hid (∀ w', Calls Tryz.prog 44 #[str x, str y] w' fun e w'' => e = .returned (.bool q) ∧ Below w'.heap.size w' w'') := Lib.hid (fun w' => by rw [← hq]; exact starOf_any x y w' hxm hym)
                have HV := Lib.hid hv
                clear hv hq
                have KS : Hid (∀ wq, Below wr.heap.size wr wq → wq.cell? ⟨g, j, none⟩ = some (.bool true) ∧ wq.cell? ⟨bp, op, none⟩ = some (str x) ∧ wq.cell? ⟨bl, ol, none⟩ = some (str y)) := Lib.hid (fun wq hq =>
                  ⟨(hq.cell (p := ⟨g, j, none⟩) (lt_of_cell c3)).trans c3, (hq.cell (p := ⟨bp, op, none⟩) (lt_of_cell hcp)).trans hcp, (hq.cell (p := ⟨bl, ol, none⟩) (lt_of_cell hcl)).trans hcl⟩)
                have KT : Hid (∀ wq (b : Value), Below wr.heap.size wr wq → (wq.setCell ⟨g2, j + 1, none⟩ b).cell? ⟨g, j, none⟩ = some (.bool true) ∧ (wq.setCell ⟨g2, j + 1, none⟩ b).cell? ⟨bp, op, none⟩ = some (str x) ∧ (wq.setCell ⟨g2, j + 1, none⟩ b).cell? ⟨bl, ol, none⟩ = some (str y)) := Lib.hid (fun wq b hq => by
                  have he : ∀ (p : Addr), p.block ≠ g2 → (wq.setCell ⟨g2, j + 1, none⟩ b).cell? p = wq.cell? p := fun p hp => World.cell?_of_block (w := wq) (Below.heap_setCell wq ⟨g2, j + 1, none⟩ b p.block hp)
                  obtain ⟨k1, k2, k3⟩ := KS.out wq hq
                  exact ⟨(he ⟨g, j, none⟩ (by simp; omega)).trans k1, (he ⟨bp, op, none⟩ (by simp; omega)).trans k2, (he ⟨bl, ol, none⟩ (by simp; omega)).trans k3⟩)
                go_wp2_with fail
                go_region_held3 (fun w' => w'.cell? ⟨g, j, none⟩ = some (.bool true) ∧ w'.cell? ⟨bp, op, none⟩ = some (str x) ∧ w'.cell? ⟨bl, ol, none⟩ = some (str y))
                  (first | exact KT.out _ _ HQ.out | exact KS.out _ HQ.out | exact KS.out _ BR.out.drew)
                  (first | (go_at_call 44
                            refine (HC.out _).mono ?_
                            rintro e w5 ⟨rfl, hb5⟩
                            have HQ : Hid (Below wr.heap.size wr w5) := Lib.hid (by first | exact hb5 | exact BR.out.drew.trans hb5)
                            have f5 := (HR2.out.below HQ.out HR2.out.lt).frozen (j + 1)
                            have s5 : w5.cell? ⟨g2, j + 1, none⟩ = some (.bool false) := (HQ.out.cell (p := ⟨g2, j + 1, none⟩) HR2.out.lt).trans s2
                            clear hb5))
                all_goals
                  go_wp2
                  go_roundw
                  case rel => exact ⟨j + 1 + 1, by go_num, by omega, FIN.out _ (by first | exact HQ.out | exact HQ.out.drew) _ HV.out⟩
                  case measure => simp [intOf] <;> omega
        · obtain rfl : k = L.length + 1 := by omega
          have R2 := Lib.hid hr2
          have e : fitPart P L (i + 1) (L.length + 1) = fitRow P L (i + 1) := partOf_full P L (i + 1)
          rw [e] at R2
          clear hr1 hr2 e
          go_wp2
          go_roundw
          case rel => exact ⟨g2, i + 1, rfl, by go_num, by omega, R2.out, by omega, hb⟩
          case measure => simp [intOf] <;> omega
    · obtain rfl : i = P.length := by omega
      have c : wr.cell? ⟨g, L.length, none⟩ = some (.bool (fitsB P L)) := hrow.cell (rowOf_last P L)
      have x := bool_at Tryz.underlying80 bool_size g (L.length + 1) (L.length + 1) L.length (by omega)
      obtain ⟨e1, e2⟩ := hmB1.out
      subst e2
      rw [← e1] at c
      have HV := Lib.hid (b2.trans (hb.mono b2.size))
      clear hrow e1 hmB1
      go_wp2
      go_ret2
      exact ⟨rfl, HV.out⟩
end Go.Proofs.YtmkpeopebddnjaaGreatDoor
