/-
  The walk of the reference's starOf.
-/
import Derived.Test.YtmkpeopebddnjaaGreatDoorBoolRow
import Derived.BigRegion
namespace Go.Proofs.YtmkpeopebddnjaaGreatDoor
open Go Go.RowKit Go.Kf

theorem bool_size : (Tryz.prog.info? 4).map (·.size) = some 1 := by kernel_rfl
theorem bool_info : (Tryz.prog.info? 4).map (fun i => (i.zero, i.size, i.bytes)) = some (some (.bool false), 1, 1) := by kernel_rfl
theorem make_bools (n : Nat) (hn : n ≤ 1000000) (w : World) :
    (Instr.makeSlice 80 (.int .i64 ((n : Int) + 1)) (.int .i64 ((n : Int) + 1))).run Tryz.prog w = .ok (.slice (some ⟨w.heap.size, 0, none⟩) (n + 1) (n + 1)) (w.alloc (.cells ((List.replicate (n + 1) false).map Value.bool).toArray 4)) := by
  obtain ⟨i0, hi, hz0, hz1, hz2⟩ := info_parts bool_info
  have h := run_make (P := Tryz.prog) w 80 4 i0 (.bool false) Tryz.underlying80 hi hz0 .i64 .i64 ((n : Int) + 1) ((n : Int) + 1) (by omega) (by omega) (by rw [hz2]; omega) (by omega)
  rw [h, hz1]
  have e : ((n : Int) + 1).toNat = n + 1 := by omega
  rw [e, Nat.mul_one]
  have e2 : (Value.bool false).cells = #[.bool false] := rfl
  rw [e2, made_bools]

/-- An address in a row of bools, where the number is one more. -/
theorem bool_at1 (g n cap j : Nat) (hj : j + 1 < n) (w' : World) :
    (Instr.indexAt 80 (.slice (some ⟨g, 0, none⟩) n cap) (.int .i64 ((j : Int) + 1))).run Tryz.prog w' = .ok (.pointer (some ⟨g, j + 1, none⟩)) w' :=
  bool_at Tryz.underlying80 bool_size g n cap (j + 1) hj w'
theorem bool_at0 (g n cap : Nat) (hj : 0 < n) (w' : World) :
    (Instr.indexAt 80 (.slice (some ⟨g, 0, none⟩) n cap) (.int .i64 0)).run Tryz.prog w' = .ok (.pointer (some ⟨g, 0, none⟩)) w' :=
  bool_at Tryz.underlying80 bool_size g n cap 0 hj w'

abbrev starRow := rowOf (fun c : UInt8 => decide (c = 42)) (fun c d : UInt8 => d == c)
abbrev starPart := partOf (fun c : UInt8 => decide (c = 42)) (fun c d : UInt8 => d == c)
abbrev starG := glob (fun c : UInt8 => decide (c = 42)) (fun c d : UInt8 => d == c)

set_option maxRecDepth 100000 in
set_option maxHeartbeats 4000000 in
theorem starOf_any (p s : List UInt8) (w : World) (hp : p.length ≤ 1000) (hs : s.length ≤ 1000) :
    Calls Tryz.prog 44 #[str p, str s] w fun e w' => e = .returned (.bool (starB p s)) ∧ Below w.heap.size w w' := by
  have HMK := Lib.hid (make_bools s.length (by omega))
  have hi0 : ∀ g w', (Instr.indexAt 80 (.slice (some ⟨g, 0, none⟩) (s.length + 1) (s.length + 1)) (.int .i64 0)).run Tryz.prog w' = .ok (.pointer (some ⟨g, 0, none⟩)) w' := fun g w' => bool_at0 g _ _ (by omega) w'
  go_enter Tryz.func44, Tryz.ntmps44
  have hn0 := BRow.new 4 w (s.length + 1)
  have b0 : Below w.heap.size w (w.alloc (.cells ((List.replicate (s.length + 1) false).map Value.bool).toArray 4)) := (Below.refl _ _).alloc (Nat.le_refl _) _
  have hq0 := hi0 w.heap.size
  have hc0 := hn0.cell (k := 0) (b := false) (by simp)
  have hf0 := hn0.frozen 0
  generalize hw1 : w.alloc (.cells ((List.replicate (s.length + 1) false).map Value.bool).toArray 4) = w1 at *
  have hmk0 := HMK.out w
  rw [hw1] at hmk0
  go_wp2
  have bS : Below w.heap.size w (w1.setCell ⟨w.heap.size, 0, none⟩ (.bool true)) := b0.setCell (p := ⟨w.heap.size, 0, none⟩) (Nat.le_refl _) _
  have rS : BRow 4 (w1.setCell ⟨w.heap.size, 0, none⟩ (.bool true)) w.heap.size (starRow p s 0) := by
    rw [show starRow p s 0 = (List.replicate (s.length + 1) false).set 0 true from rowOf_zero p s]
    exact hn0.set 0 true
  have HB := Lib.hid bS
  have HR := Lib.hid rS
  clear hn0 b0 hq0 hc0 hf0 hmk0 hw1 bS rS
  go_loopw [5, 6] (fun fit i wl => ∃ g k : Nat, fit = .slice (some ⟨g, 0, none⟩) (s.length + 1) (s.length + 1) ∧ i = .int .i64 k ∧ k ≤ p.length ∧ BRow 4 wl g (starRow p s k) ∧ w.heap.size ≤ g ∧ Below w.heap.size w wl) (fun _ i _ => p.length - (intOf i).toNat)
  case atStart => exact ⟨w.heap.size, 0, rfl, rfl, by omega, HR.out, Nat.le_refl _, HB.out⟩
  case round =>
    obtain ⟨g, i, rfl, rfl, hi, hrow, hg, hb⟩ := hrel
    clear HB HR
    by_cases hlt : i < p.length
    · have hglt := hrow.lt
      have hrow2 := Lib.hid (hrow.alloc (.cells ((List.replicate (s.length + 1) false).map Value.bool).toArray 4))
      have hb2 := Lib.hid (hb.alloc hb.size (.cells ((List.replicate (s.length + 1) false).map Value.bool).toArray 4))
      have hnew := Lib.hid (BRow.new 4 wr (s.length + 1))
      have hmk0 := HMK.out wr
      obtain ⟨g2, hg2⟩ : ∃ g2, wr.heap.size = g2 := ⟨_, rfl⟩
      have hzb := hb.size
      generalize hw2 : wr.alloc (.cells ((List.replicate (s.length + 1) false).map Value.bool).toArray 4) = w2 at *
      rw [hg2] at hnew hmk0 hglt hzb
      clear hw2 hrow hb
      go_wp2
      clear hmk0 hg2
      go_loopw [8] (fun j wl => ∃ k : Nat, j = .int .i64 k ∧ k ≤ s.length + 1 ∧ BRow 4 wl g (starRow p s i) ∧ BRow 4 wl g2 (starPart p s (i + 1) k) ∧ Below w.heap.size w wl) (fun j _ => s.length + 1 - (intOf j).toNat)
      case atStart => exact ⟨0, rfl, by omega, hrow2.out, by rw [show starPart p s (i + 1) 0 = _ from partOf_zero p s (i + 1)]; exact hnew.out, hb2.out⟩
      case round =>
        obtain ⟨k, rfl, hk, hr1, hr2, hb⟩ := hrel
        clear hrow2 hnew hb2
        by_cases hkl : k < s.length + 1
        · obtain ⟨x, hx⟩ : ∃ x, p[i] = x := ⟨_, rfl⟩
          have hidx : ∀ h, (⟨p.toArray⟩ : ByteArray)[i]'h = x := fun _ => hx
          have fin : ∀ (b : Bool), starG (p.take (i + 1)) (s.take k) = b → BRow 4 (wr.setCell ⟨g2, k, none⟩ (.bool b)) g (starRow p s i) ∧ BRow 4 (wr.setCell ⟨g2, k, none⟩ (.bool b)) g2 (starPart p s (i + 1) (k + 1)) ∧ Below w.heap.size w (wr.setCell ⟨g2, k, none⟩ (.bool b)) := by
            intro b hbv
            refine ⟨hr1.other _ (by simp; omega), ?_, hb.setCell (p := ⟨g2, k, none⟩) (by simp; omega) _⟩
            have := hr2.set k b
            rw [← hbv, show (starPart p s (i + 1) k).set k (starG (p.take (i + 1)) (s.take k)) = starPart p s (i + 1) (k + 1) from partOf_step p s (i + 1) (by omega)] at this
            rw [← hbv]; exact this
          have FIN := Lib.hid fin
          have f2 := hr2.frozen k
          have s2 := hr2.cell (k := k) (b := false) (by
            unfold starPart partOf
            rw [List.getElem?_append_right (by rw [List.length_take, rowOf_len]; omega), List.length_take, rowOf_len]
            have : k - min k (s.length + 1) = 0 := by omega
            rw [this, List.getElem?_replicate, if_pos (by omega)])
          clear fin
          cases k with
          | zero =>
            have c1 : wr.cell? ⟨g, 0, none⟩ = some (.bool (starG (p.take i) (s.take 0))) := hr1.cell (k := 0) (rowOf_at p s i (by omega))
            obtain ⟨b1, hb1⟩ : ∃ b, starG (p.take i) (s.take 0) = b := ⟨_, rfl⟩
            rw [hb1] at c1
            by_cases hc : x = 42
            · have hd : ((x.toNat : Int) == 42) = true := by rw [hc]; rfl
              have hv : starG (p.take (i + 1)) (s.take 0) = b1 := by rw [← hb1]; exact step_star0 hlt (by rw [hx]; simpa using hc)
              have FI := Lib.hid (FIN.out _ hv)
              clear FIN hv hb1 hc hx hr1 hr2
              cases b1
              all_goals
                go_wp2
                go_roundw
                case rel => exact ⟨1, rfl, by omega, FI.out⟩
                case measure => simp [intOf] <;> omega
            · have hd : ((x.toNat : Int) == 42) = false := by
                have := Kf.u8_eq x 42
                rw [show ((42 : UInt8).toNat : Int) = 42 from rfl] at this
                rw [this]; simpa using hc
              have hv : starG (p.take (i + 1)) (s.take 0) = false := step_one0 hlt (by rw [hx]; simpa using hc)
              have FI := Lib.hid (FIN.out _ hv)
              clear FIN hv hb1 hc hx hr1 hr2
              go_wp2
              go_region
              all_goals
                go_wp2
                go_roundw
                case rel => exact ⟨1, rfl, by omega, FI.out.1, FI.out.2.1, FI.out.2.2.drew⟩
                case measure => simp [intOf] <;> omega
          | succ j =>
            have hjs : j < s.length := by omega
            have c1 : wr.cell? ⟨g, j + 1, none⟩ = some (.bool (starG (p.take i) (s.take (j + 1)))) := hr1.cell (rowOf_at p s i (by omega))
            have c3 : wr.cell? ⟨g, j, none⟩ = some (.bool (starG (p.take i) (s.take j))) := hr1.cell (rowOf_at p s i (by omega))
            have c2 : wr.cell? ⟨g2, j, none⟩ = some (.bool (starG (p.take (i + 1)) (s.take j))) := hr2.cell (partOf_at p s (i + 1) (by omega) (by omega))
            obtain ⟨b1, hb1⟩ : ∃ b, starG (p.take i) (s.take (j + 1)) = b := ⟨_, rfl⟩
            obtain ⟨b2, hb2⟩ : ∃ b, starG (p.take (i + 1)) (s.take j) = b := ⟨_, rfl⟩
            obtain ⟨b3, hb3⟩ : ∃ b, starG (p.take i) (s.take j) = b := ⟨_, rfl⟩
            rw [hb1] at c1
            rw [hb2] at c2
            rw [hb3] at c3
            have hsub : (j : Int) + 1 - 1 = (j : Int) := by omega
            have x1 := bool_at1 g (s.length + 1) (s.length + 1) j (by omega)
            have x2 := bool_at1 g2 (s.length + 1) (s.length + 1) j (by omega)
            have x3 := bool_at Tryz.underlying80 bool_size g (s.length + 1) (s.length + 1) j (by omega)
            have x4 := bool_at Tryz.underlying80 bool_size g2 (s.length + 1) (s.length + 1) j (by omega)
            have hpos : ((0 : Int) < (j : Int) + 1) = True := by simp <;> omega
            by_cases hc : x = 42
            · have hd : ((x.toNat : Int) == 42) = true := by rw [hc]; rfl
              have hv : starG (p.take (i + 1)) (s.take (j + 1)) = (b1 || b2) := by rw [← hb1, ← hb2]; exact step_star hlt (by rw [hx]; simpa using hc) hjs
              have FI := Lib.hid (FIN.out _ hv)
              clear FIN hv hb1 hb2 hb3 hc hx hr1 hr2 c3
              cases b1 <;> cases b2
              all_goals
                go_wp2
                go_roundw
                case rel => exact ⟨j + 1 + 1, by go_num, by omega, FI.out⟩
                case measure => simp [intOf] <;> omega
            · have hd : ((x.toNat : Int) == 42) = false := by
                have := Kf.u8_eq x 42
                rw [show ((42 : UInt8).toNat : Int) = 42 from rfl] at this
                rw [this]; simpa using hc
              obtain ⟨y, hy⟩ : ∃ y, s[j] = y := ⟨_, rfl⟩
              have hidy : ∀ h, (⟨s.toArray⟩ : ByteArray)[j]'h = y := fun _ => hy
              have hv : starG (p.take (i + 1)) (s.take (j + 1)) = (b3 && (y == x)) := by rw [← hb3, ← hy, ← hx]; exact step_one hlt (by rw [hx]; simpa using hc) hjs
              clear c1 c2 hb1 hb2 hb3 hc hx hr1 hr2 hy
              cases b3 with
              | false =>
                have FI := Lib.hid (FIN.out _ hv)
                clear FIN hv hidy
                go_wp2
                go_region
                all_goals
                  go_wp2
                  go_roundw
                  case rel => exact ⟨j + 1 + 1, by go_num, by omega, FI.out.1, FI.out.2.1, FI.out.2.2.drew⟩
                  case measure => simp [intOf] <;> omega
              | true =>
                obtain ⟨q, hq⟩ : ∃ q, ((y.toNat : Int) == (x.toNat : Int)) = q := ⟨_, rfl⟩
                have hq2 : (y == x) = q := by rw [← hq, Kf.u8_eq]
                rw [hq2] at hv
                have FI := Lib.hid (FIN.out _ hv)
                clear FIN hv hq2
                cases q
                all_goals
                  go_wp2
                  go_region
                  all_goals
                    go_wp2
                    go_roundw
                    case rel => exact ⟨j + 1 + 1, by go_num, by omega, FI.out.1, FI.out.2.1, FI.out.2.2.drew⟩
                    case measure => simp [intOf] <;> omega
        · obtain rfl : k = s.length + 1 := by omega
          have R2 := Lib.hid hr2
          have e : starPart p s (i + 1) (s.length + 1) = starRow p s (i + 1) := partOf_full p s (i + 1)
          rw [e] at R2
          clear hr1 hr2 e
          go_wp2
          go_roundw
          case rel => exact ⟨g2, i + 1, rfl, by go_num, by omega, R2.out, by omega, hb⟩
          case measure => simp [intOf] <;> omega
    · obtain rfl : i = p.length := by omega
      have c : wr.cell? ⟨g, s.length, none⟩ = some (.bool (starB p s)) := hrow.cell (rowOf_last p s)
      have x := bool_at Tryz.underlying80 bool_size g (s.length + 1) (s.length + 1) s.length (by omega)
      obtain ⟨b, hbv⟩ : ∃ b, starB p s = b := ⟨_, rfl⟩
      rw [hbv] at c
      have HV := Lib.hid hbv
      clear hrow hbv
      go_wp2
      go_ret
      rw [HV.out]
      exact ⟨rfl, hb⟩
end Go.Proofs.YtmkpeopebddnjaaGreatDoor
