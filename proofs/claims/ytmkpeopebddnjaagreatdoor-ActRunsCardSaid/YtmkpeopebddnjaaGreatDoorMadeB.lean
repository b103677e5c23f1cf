/-
  The reference's acts: lay; what is made by join, upper, lines, head.
-/
import Derived.Test.YtmkpeopebddnjaaGreatDoorMadeA
namespace Go.Proofs.YtmkpeopebddnjaaGreatDoor
open Go Go.RowKit Go.Kf Go.Sort Go.Proofs

theorem join_snoc (sep x : List UInt8) : ∀ {l : List (List UInt8)}, l ≠ [] → Lib.join (l ++ [x]) sep = Lib.join l sep ++ sep ++ x
  | [], h => absurd rfl h
  | [s], _ => by simp [Lib.join]
  | s :: t :: r, _ => by
    have ih := join_snoc sep x (l := t :: r) (by simp)
    have e1 : Lib.join (s :: t :: r) sep = s ++ (sep ++ Lib.join (t :: r) sep) := by simp [Lib.join]
    have e2 : Lib.join (s :: t :: r ++ [x]) sep = s ++ (sep ++ Lib.join (t :: r ++ [x]) sep) := by simp [Lib.join]
    rw [e2, ih, e1]
    simp

set_option maxRecDepth 100000 in
set_option maxHeartbeats 1000000 in
theorem mjoin_any (word : List UInt8) (v : Value) (ins : List (List UInt8)) (w : World) (hr : Reads w v (ins.map str)) (h1 : 1 ≤ ins.length) (h8 : ins.length ≤ 8) (hl : word.length ≤ 100) (hx : ∀ s ∈ ins, s.length ≤ 10000) :
    Calls Tryz.prog 54 #[str [106, 111, 105, 110], str word, v] w fun e w' => e = .returned (str (Lib.join ins word)) ∧ Below w.heap.size w w' := by
  have hle := hr.le
  obtain ⟨a, cap, rfl, -, -⟩ := id hr
  simp only [List.length_map] at *
  have HR := Lib.hid hr
  have HX := Lib.hid hx
  obtain ⟨b0, o0, hix0, hce0⟩ := hr.at (P := Tryz.prog) Tryz.underlying39 (by kernel_rfl) 0 (by rw [List.length_map]; omega)
  simp only [List.getElem_map] at hce0
  have hix1 : ∀ w', (Instr.indexAt 39 (.slice a ins.length cap) (.int .i64 0)).run Tryz.prog w' = .ok (.pointer (some ⟨b0, o0, none⟩)) w' := hix0
  have HJ : Hid (∀ k, (Lib.join (ins.take k) word).length ≤ 10100 * 8) := Lib.hid (fun k => by
    have hj := joinTop word (ins := ins.take k) (fun s hs => hx s (List.mem_of_mem_take hs))
    have hm : (10000 + word.length) * (ins.take k).length ≤ 10100 * 8 := Nat.mul_le_mul (by omega) (by rw [List.length_take]; omega)
    omega)
  have H1 : Hid (Lib.join (ins.take 1) word = ins[0]) := Lib.hid (by
    rw [List.take_succ_eq_append_getElem (by omega)]
    simp [Lib.join])
  have hl0 := hx ins[0] (List.getElem_mem _)
  clear hr hx hix0
  generalize ins[0] = s0 at *
  go_enter Tryz.func54, Tryz.ntmps54
  go_wp2_with fail
  go_loopw [7, 8] (fun ov iv wl => ∃ i : Nat, 1 ≤ i ∧ i ≤ ins.length ∧ iv = .int .i64 i ∧ ov = str (Lib.join (ins.take i) word) ∧ wl = w) (fun _ iv _ => ins.length - (intOf iv).toNat)
  case atStart => exact ⟨1, by omega, h1, rfl, by rw [H1.out], rfl⟩
  case round =>
    obtain ⟨i, hi1, hi, rfl, rfl, rfl⟩ := hrel
    by_cases hlt : i < ins.length
    · obtain ⟨b, o, hix, hce⟩ := HR.out.at (P := Tryz.prog) Tryz.underlying39 (by kernel_rfl) i (by simpa using hlt)
      simp only [List.getElem_map] at hce
      have hlc : ((i : Int) < (ins.length : Int)) = True := eq_true (by omega)
      have HN : Hid (Lib.join (ins.take (i + 1)) word = Lib.join (ins.take i) word ++ word ++ ins[i]) := Lib.hid (by
        rw [List.take_succ_eq_append_getElem hlt, join_snoc _ _ (List.ne_nil_of_length_pos (by rw [List.length_take]; omega))])
      have hj := HJ.out i
      have hs := HX.out ins[i] (List.getElem_mem _)
      generalize ins[i] = s at *
      generalize Lib.join (ins.take i) word = out at *
      have hz1 : ¬ 9223372036854775807 < out.length + word.length := by omega
      have hz2 : ¬ 9223372036854775807 < out.length + word.length + s.length := by omega
      go_wp2
      go_roundw
      case rel => exact ⟨i + 1, by omega, by omega, by go_num, by rw [HN.out]; simp [str_app], trivial⟩
      case measure => simp [intOf]; omega
    · obtain rfl : i = ins.length := by omega
      have hlc : ((ins.length : Int) < (ins.length : Int)) = False := eq_false (by omega)
      rw [List.take_length]
      go_wp2
      go_ret
      exact ⟨rfl, Below.refl _ _⟩

set_option maxRecDepth 100000 in
set_option maxHeartbeats 1000000 in
theorem mupper_any (word s : List UInt8) (v : Value) (w : World) (hr : Reads w v ([s].map str)) (hl : s.length ≤ 10000) :
    Calls Tryz.prog 54 #[str [117, 112, 112, 101, 114], str word, v] w fun e w' => e = .returned (str (s.map upB)) ∧ Below w.heap.size w w' := by
  have hle := hr.le
  obtain ⟨a, cap, rfl, -, -⟩ := id hr
  simp only [List.length_map, List.length_cons, List.length_nil] at *
  obtain ⟨b0, o0, hix0, hce0⟩ := hr.at (P := Tryz.prog) Tryz.underlying39 (by kernel_rfl) 0 (by simp)
  have hce1 : w.cell? ⟨b0, o0, none⟩ = some (str s) := hce0
  have hix1 : ∀ w', (Instr.indexAt 39 (.slice a 1 cap) (.int .i64 0)).run Tryz.prog w' = .ok (.pointer (some ⟨b0, o0, none⟩)) w' := hix0
  have HCE := Lib.hid hce1
  clear hr hix0 hce0 hce1
  go_enter Tryz.func54, Tryz.ntmps54
  go_wp2_with fail
  go_loopw [7, 9, 10] (fun ov iv _ wl => ∃ i : Nat, i ≤ s.length ∧ iv = .int .i64 i ∧ ov = str ((s.take i).map upB) ∧ Below w.heap.size w wl) (fun _ iv _ _ => s.length - (intOf iv).toNat)
  case atStart => exact ⟨0, by omega, rfl, rfl, Below.refl _ _⟩
  case round =>
    obtain ⟨i, hi, rfl, rfl, hbi⟩ := hrel
    have HBi := Lib.hid hbi
    have hce := (hbi.cell (p := ⟨b0, o0, none⟩) (lt_of_cell HCE.out)).trans HCE.out
    clear hbi
    by_cases hlt : i < s.length
    · have hlc : ((i : Int) < (s.length : Int)) = True := eq_true (by omega)
      have HN : Hid ((s.take (i + 1)).map upB = (s.take i).map upB ++ [upB s[i]]) := Lib.hid (by rw [List.take_succ_eq_append_getElem hlt, List.map_append]; rfl)
      have hol : ((s.take i).map upB).length ≤ 10000 := by rw [List.length_map, List.length_take]; omega
      obtain ⟨x, hx⟩ : ∃ x, s[i] = x := ⟨_, rfl⟩
      have hidx : ∀ h, (⟨s.toArray⟩ : ByteArray)[i]'h = x := fun _ => hx
      rw [hx] at HN
      clear hx
      have hx8 : x.toNat < 256 := x.toNat_lt
      have hwr : IntKind.i64.wrap (x.toNat : Int) = (x.toNat : Int) := IntWalk.i64_in _ (by omega)
      generalize (s.take i).map upB = out at *
      have hz1 : ¬ 9223372036854775807 < out.length + 1 := by omega
      by_cases hup : 97 ≤ x.toNat ∧ x.toNat ≤ 122
      · have hc1 : ((97 : Int) ≤ (x.toNat : Int)) = True := eq_true (by omega)
        have hc2 : ((x.toNat : Int) ≤ 122) = True := eq_true (by omega)
        have hws : IntKind.i64.wrap ((x.toNat : Int) - 32) = (x.toNat : Int) - 32 := IntWalk.i64_in _ (by omega)
        have hu : upB x = UInt8.ofNat (x.toNat - 32) := by unfold upB; rw [if_pos hup]
        have KB := Lib.hid (fun w1 => byte_int ((x.toNat : Int) - 32) (x.toNat - 32) (upB x) w1 (by omega) (by omega) (Lib.hid hu))
        generalize upB x = y at *
        clear hu
        go_wp2_with fail
        refine (KB.out _).mono ?_
        rintro e w2 ⟨rfl, hb2⟩
        have HB2 := Lib.hid (HBi.out.trans (hb2.mono HBi.out.size))
        clear hb2
        go_wp2
        go_roundw
        case rel => exact ⟨i + 1, by omega, by go_num, by rw [HN.out]; simp [str_app], HB2.out⟩
        case measure => simp [intOf]; omega
      · have hu : upB x = x := by unfold upB; rw [if_neg hup]
        have KB := Lib.hid (fun w1 => byte_int (x.toNat : Int) x.toNat (upB x) w1 (by omega) rfl (Lib.hid (by rw [hu]; simp)))
        generalize upB x = y at *
        clear hu
        by_cases h97 : 97 ≤ x.toNat
        · have hc1 : ((97 : Int) ≤ (x.toNat : Int)) = True := eq_true (by omega)
          have hc2 : ((x.toNat : Int) ≤ 122) = False := eq_false (by omega)
          go_wp2_with fail
          refine (KB.out _).mono ?_
          rintro e w2 ⟨rfl, hb2⟩
          have HB2 := Lib.hid (HBi.out.trans (hb2.mono HBi.out.size))
          clear hb2
          go_wp2
          go_roundw
          case rel => exact ⟨i + 1, by omega, by go_num, by rw [HN.out]; simp [str_app], HB2.out⟩
          case measure => simp [intOf]; omega
        · have hc1 : ((97 : Int) ≤ (x.toNat : Int)) = False := eq_false (by omega)
          go_wp2_with fail
          refine (KB.out _).mono ?_
          rintro e w2 ⟨rfl, hb2⟩
          have HB2 := Lib.hid (HBi.out.trans (hb2.mono HBi.out.size))
          clear hb2
          go_wp2
          go_roundw
          case rel => exact ⟨i + 1, by omega, by go_num, by rw [HN.out]; simp [str_app], HB2.out⟩
          case measure => simp [intOf]; omega
    · obtain rfl : i = s.length := by omega
      have hlc : ((s.length : Int) < (s.length : Int)) = False := eq_false (by omega)
      rw [List.take_length]
      go_wp2
      go_ret
      exact ⟨rfl, HBi.out⟩
end Go.Proofs.YtmkpeopebddnjaaGreatDoor
