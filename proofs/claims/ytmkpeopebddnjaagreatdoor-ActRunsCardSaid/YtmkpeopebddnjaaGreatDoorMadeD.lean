/-
  The reference's acts: what is made by count and swap.
-/
import Derived.Test.YtmkpeopebddnjaaGreatDoorMadeC
namespace Go.Proofs.YtmkpeopebddnjaaGreatDoor
open Go Go.RowKit Go.Kf Go.Sort Go.Proofs

set_option maxRecDepth 100000 in
set_option maxHeartbeats 1000000 in
theorem mcount_any (word : List UInt8) (v : Value) (ins : List (List UInt8)) (w : World) (hr : Reads w v (ins.map str)) (h8 : ins.length ≤ 8) (hx : ∀ s ∈ ins, s.length ≤ 10000) :
    Calls Tryz.prog 54 #[str [99, 111, 117, 110, 116], str word, v] w fun e w' => e = .returned (str (countB ins)) ∧ Below w.heap.size w w' := by
  have hle := hr.le
  obtain ⟨a, cap, rfl, -, -⟩ := id hr
  simp only [List.length_map] at *
  have HR := Lib.hid hr
  have HX := Lib.hid hx
  have HA : Hid (∀ k, (allB (ins.take k)).length ≤ 10001 * 8) := Lib.hid (fun k => by
    have h1 := allB_len (ins := ins.take k) (fun s hs => hx s (List.mem_of_mem_take hs))
    have h2 : (ins.take k).length ≤ 8 := by rw [List.length_take]; omega
    omega)
  have HSU : Hid (∀ k, ((ins.take k).map List.length).sum ≤ 10000 * 8) := Lib.hid (fun k => by
    have h1 := sum_lens (ins := ins.take k) (fun s hs => hx s (List.mem_of_mem_take hs))
    have h2 : (ins.take k).length ≤ 8 := by rw [List.length_take]; omega
    omega)
  clear hr hx
  go_enter Tryz.func54, Tryz.ntmps54
  go_wp2_with fail
  go_loopw [19, 20, 21] (fun nv sv iv wl => ∃ i : Nat, i ≤ ins.length ∧ iv = .int .i64 i ∧ nv = .int .i64 (allB (ins.take i)).length ∧ sv = .int .i64 ((ins.take i).map List.length).sum ∧ Below w.heap.size w wl) (fun _ _ iv _ => ins.length - (intOf iv).toNat)
  case atStart => exact ⟨0, by omega, rfl, rfl, rfl, Below.refl _ _⟩
  case round =>
    obtain ⟨i, hi, rfl, rfl, rfl, hbi⟩ := hrel
    have HBi := Lib.hid hbi
    clear hbi
    by_cases hlt : i < ins.length
    · obtain ⟨b, o, hix, hce⟩ := (HR.out.below0 HBi.out).at (P := Tryz.prog) Tryz.underlying39 (by kernel_rfl) i (by simpa using hlt)
      simp only [List.getElem_map] at hce
      have hlc : ((i : Int) < (ins.length : Int)) = True := eq_true (by omega)
      have hN1 : (allB (ins.take (i + 1))).length = (allB (ins.take i)).length + (linesB ins[i]).length := by
        rw [List.take_succ_eq_append_getElem hlt, allB_snoc, List.length_append]
      have HN1 := Lib.hid hN1
      have HN2 := Lib.hid (sum_take hlt)
      have ha := HA.out (i + 1)
      have hs1 := HSU.out (i + 1)
      rw [hN1] at ha
      rw [sum_take hlt] at hs1
      have hsl := HX.out ins[i] (List.getElem_mem _)
      have KL := Lib.hid (fun w1 => linesOf_any ins[i] w1 (by omega))
      clear hN1
      generalize ins[i] = s at *
      generalize (allB (ins.take i)).length = n at *
      generalize ((ins.take i).map List.length).sum = m at *
      generalize linesB s = L at *
      have hw1 : IntKind.i64.wrap ((n : Int) + (L.length : Int)) = (n : Int) + (L.length : Int) := IntWalk.i64_in _ (by omega)
      have hw2 : IntKind.i64.wrap ((m : Int) + (s.length : Int)) = (m : Int) + (s.length : Int) := IntWalk.i64_in _ (by omega)
      go_wp2_with fail
      refine (KL.out _).mono ?_
      rintro e w2 ⟨vl, rfl, hol, hb2⟩
      have hrl := ownsRow_reads hol
      obtain ⟨al, cl, rfl, -, -⟩ := id hrl
      have hce2 := (hb2.cell (p := ⟨b, o, none⟩) (lt_of_cell hce)).trans hce
      have HB2 := Lib.hid (HBi.out.trans (hb2.mono HBi.out.size))
      clear hol hrl hb2 hce
      simp only [List.length_map] at *
      go_wp2
      go_roundw
      case rel => exact ⟨i + 1, by omega, by go_num, by rw [HN1.out]; go_num, by rw [HN2.out]; go_num, HB2.out⟩
      case measure => simp [intOf]; omega
    · obtain rfl : i = ins.length := by omega
      have hlc : ((ins.length : Int) < (ins.length : Int)) = False := eq_false (by omega)
      have ha := HA.out ins.length
      have hs1 := HSU.out ins.length
      rw [List.take_length] at *
      have KN := Lib.hid (fun w1 => decimal_any (allB ins).length w1 (by omega))
      have KM := Lib.hid (fun w1 => decimal_any (ins.map List.length).sum w1 (by omega))
      have hd1 := digits_le6 (allB ins).length (by omega)
      have hd2 := digits_le6 (ins.map List.length).sum (by omega)
      have HC : Hid (countB ins = ((Lib.decDigits (allB ins).length ++ [32]) ++ Lib.decDigits (ins.map List.length).sum) ++ [10]) := Lib.hid rfl
      generalize Lib.decDigits (allB ins).length = d1 at *
      generalize Lib.decDigits (ins.map List.length).sum = d2 at *
      generalize (allB ins).length = n at *
      generalize (ins.map List.length).sum = m at *
      have hz1 : ¬ 9223372036854775807 < d1.length + 1 := by omega
      have hz2 : ¬ 9223372036854775807 < d1.length + 1 + d2.length := by omega
      have hz3 : ¬ 9223372036854775807 < d1.length + 1 + d2.length + 1 := by omega
      go_wp2_with fail
      refine (KN.out _).mono ?_
      rintro e w2 ⟨rfl, hb2⟩
      have HB2 := Lib.hid (HBi.out.trans (hb2.mono HBi.out.size))
      clear hb2
      go_wp2_with fail
      refine (KM.out _).mono ?_
      rintro e w3 ⟨rfl, hb3⟩
      have HB3 := Lib.hid (HB2.out.trans (hb3.mono HB2.out.size))
      clear hb3
      go_wp2
      go_ret
      exact ⟨by rw [HC.out]; simp [str_app], HB3.out⟩

theorem spl_pair {a r : List UInt8} (ha : (61 : UInt8) ∉ a) (hr : (61 : UInt8) ∉ r) : spl 61 (a ++ 61 :: r) = [a, r] := by
  rw [spl_hit ha, spl_miss hr]

set_option maxRecDepth 100000 in
set_option maxHeartbeats 2000000 in
theorem mswap_any (a r s : List UInt8) (v : Value) (w : World) (hr : Reads w v ([s].map str)) (ha : a ≠ []) (hna : (61 : UInt8) ∉ a) (hnr : (61 : UInt8) ∉ r) (hlw : (a ++ 61 :: r).length ≤ 100) (hl : s.length ≤ 10000) :
    Calls Tryz.prog 54 #[str [115, 119, 97, 112], str (a ++ 61 :: r), v] w fun e w' => e = .returned (str (swapG a r s)) ∧ Below w.heap.size w w' := by
  have hle := hr.le
  obtain ⟨ad, cap, rfl, -, -⟩ := id hr
  simp only [List.length_map, List.length_cons, List.length_nil] at *
  obtain ⟨b0, o0, hix0, hce0⟩ := hr.at (P := Tryz.prog) Tryz.underlying39 (by kernel_rfl) 0 (by simp)
  have hce1 : w.cell? ⟨b0, o0, none⟩ = some (str s) := hce0
  have hix1 : ∀ w', (Instr.indexAt 39 (.slice ad 1 cap) (.int .i64 0)).run Tryz.prog w' = .ok (.pointer (some ⟨b0, o0, none⟩)) w' := hix0
  have KC := cut_any (a ++ 61 :: r) 61 w (by omega)
  rw [spl_pair hna hnr] at KC
  have K1 : Hid (Calls Tryz.prog 29 #[str (a ++ 61 :: r), .int .u8 61] w fun e w' => ∃ v', e = .returned v' ∧ w'.ownsRow w.heap.size 9 1 v' 2 [str a, str r] ∧ Below w.heap.size w w') := Lib.hid KC
  have hal : 1 ≤ a.length := List.length_pos_iff.2 ha
  have hrl : a.length ≤ 100 ∧ r.length ≤ 100 := by rw [List.length_append, List.length_cons] at hlw; omega
  have HSL : Hid ((swapG a r s).length ≤ 10000 * 101) := Lib.hid (Nat.le_trans (swapG_len ha s.length s (Nat.le_refl _)) (Nat.mul_le_mul hl (by omega)))
  have HA := Lib.hid ha
  have HCE := Lib.hid hce1
  obtain ⟨word, hword⟩ : ∃ word, a ++ 61 :: r = word := ⟨_, rfl⟩
  rw [hword] at K1 ⊢
  clear hr hix0 hce0 KC hna hnr hlw hword ha
  go_enter Tryz.func54, Tryz.ntmps54
  go_wp2_with fail
  refine K1.out.mono ?_
  rintro e w1 ⟨vl, rfl, hol, hb1⟩
  have hrl2 := ownsRow_reads hol
  obtain ⟨al, cl, rfl, -, -⟩ := id hrl2
  have hcs := (hb1.cell (p := ⟨b0, o0, none⟩) (lt_of_cell hce1)).trans hce1
  have HB1 := Lib.hid hb1
  obtain ⟨ba, oa, hixa, hca⟩ := hrl2.at (P := Tryz.prog) Tryz.underlying39 (by kernel_rfl) 0 (by simp)
  obtain ⟨br, or, hixr, hcr⟩ := hrl2.at (P := Tryz.prog) Tryz.underlying39 (by kernel_rfl) 1 (by simp)
  have hca1 : w1.cell? ⟨ba, oa, none⟩ = some (str a) := hca
  have hcr1 : w1.cell? ⟨br, or, none⟩ = some (str r) := hcr
  have hixa1 : ∀ w', (Instr.indexAt 39 (.slice al 2 cl) (.int .i64 0)).run Tryz.prog w' = .ok (.pointer (some ⟨ba, oa, none⟩)) w' := hixa
  have hixr1 : ∀ w', (Instr.indexAt 39 (.slice al 2 cl) (.int .i64 1)).run Tryz.prog w' = .ok (.pointer (some ⟨br, or, none⟩)) w' := hixr
  have HCS := Lib.hid hcs
  have HCA := Lib.hid hca1
  have HCR := Lib.hid hcr1
  clear hol hb1 hrl2 hca hcr hixa hixr hce1 hcs hca1 hcr1
  simp only [List.length_cons, List.length_nil] at *
  go_wp2_with fail
  go_loopw [7, 23] (fun ov iv wl => ∃ (i : Nat) (out : List UInt8), i ≤ s.length ∧ iv = .int .i64 i ∧ ov = str out ∧ out ++ swapG a r (s.drop i) = swapG a r s ∧ Below w1.heap.size w1 wl) (fun _ iv _ => s.length - (intOf iv).toNat)
  case atStart => exact ⟨0, [], by omega, rfl, rfl, by simp, Below.refl _ _⟩
  case round =>
    obtain ⟨i, out, hi, rfl, rfl, heq, hbi⟩ := hrel
    have HEQ := Lib.hid heq
    have HBi := Lib.hid hbi
    have hcs := (hbi.cell (p := ⟨b0, o0, none⟩) (lt_of_cell HCS.out)).trans HCS.out
    have hca := (hbi.cell (p := ⟨ba, oa, none⟩) (lt_of_cell HCA.out)).trans HCA.out
    have hcr := (hbi.cell (p := ⟨br, or, none⟩) (lt_of_cell HCR.out)).trans HCR.out
    have hol : out.length ≤ 10000 * 101 := by
      have := congrArg List.length heq
      rw [List.length_append] at this
      have h2 := HSL.out
      omega
    clear heq hbi
    by_cases hlt : i < s.length
    · have hlc : ((i : Int) < (s.length : Int)) = True := eq_true (by omega)
      have KH : ∀ w2, Calls Tryz.prog 85 #[str s, .int .i64 (i : Int), str a] w2 fun e w' => e = .returned (.bool (hasB s i a)) ∧ w' = w2 := fun w2 => (has_any s a i w2 hi (by omega) (by omega)).mono fun _ _ ⟨h1, h2⟩ => ⟨h1, h2.symm⟩
      cases hh : hasB s i a with
      | true =>
        rw [hh] at KH
        have hroom := hasB_room hh hi
        have HNX : Hid (out ++ r ++ swapG a r (s.drop (i + a.length)) = swapG a r s) := Lib.hid (by
          have h1 := HEQ.out
          rw [swapG_hit HA.out hh, List.drop_drop] at h1
          rw [List.append_assoc]
          exact h1)
        have KH1 := Lib.hid KH
        have hz1 : ¬ 9223372036854775807 < out.length + r.length := by omega
        have hw1 : IntKind.i64.wrap ((i : Int) + (a.length : Int)) = (i : Int) + (a.length : Int) := IntWalk.i64_in _ (by omega)
        clear KH hh
        go_wp2_with fail
        go_quiet ((go_at_call 85; exact Calls.quiet_of_same (KH1.out _)))
        go_wp2
        go_roundw
        case rel => exact ⟨i + a.length, out ++ r, by omega, by go_num, by simp [str_app], HNX.out, by first | exact HBi.out | exact below_drewN HBi.out _⟩
        case measure => simp [intOf]; omega
      | false =>
        rw [hh] at KH
        have hex : (⟨s.toArray⟩ : ByteArray).extract i (i + 1) = ⟨([s[i]] : List UInt8).toArray⟩ := by
          rw [extract_list, Nat.add_sub_cancel_left, List.drop_eq_getElem_cons hlt]
          rfl
        have HNX : Hid (out ++ [s[i]] ++ swapG a r (s.drop (i + 1)) = swapG a r s) := Lib.hid (by
          have h1 := HEQ.out
          have h2 : a.isPrefixOf (s.drop i) = false := hh
          rw [List.drop_eq_getElem_cons hlt] at h1 h2
          rw [swapG_miss HA.out h2] at h1
          rw [List.append_assoc]
          exact h1)
        have KH1 := Lib.hid KH
        have hz1 : ¬ 9223372036854775807 < out.length + 1 := by omega
        have hw1 : IntKind.i64.wrap ((i : Int) + 1) = (i : Int) + 1 := IntWalk.i64_in _ (by omega)
        have hc2 : ((i : Int) + 1 ≤ (s.length : Int)) = True := eq_true (by omega)
        have hc3 : (i + 1 ≤ s.length) = True := eq_true (by omega)
        have hc4 : ((i : Int) ≤ (i : Int) + 1) = True := eq_true (by omega)
        have hc5 : ((i : Int) + 1).toNat = i + 1 := by omega
        generalize s[i] = x at *
        clear KH hh
        go_wp2_with fail
        go_quiet ((go_at_call 85; exact Calls.quiet_of_same (KH1.out _)))
        go_wp2
        go_roundw
        case rel => exact ⟨i + 1, out ++ [x], by omega, by go_num, by simp [str_app], HNX.out, by first | exact HBi.out | exact below_drewN HBi.out _⟩
        case measure => simp [intOf]; omega
    · obtain rfl : i = s.length := by omega
      have hlc : ((s.length : Int) < (s.length : Int)) = False := eq_false (by omega)
      have HF : Hid (out = swapG a r s) := Lib.hid (by
        have h1 := HEQ.out
        rw [List.drop_length, swapG_nil, List.append_nil] at h1
        exact h1)
      go_wp2
      go_ret
      exact ⟨by rw [HF.out]; rfl, HB1.out.trans (HBi.out.mono HB1.out.size)⟩
end Go.Proofs.YtmkpeopebddnjaaGreatDoor
