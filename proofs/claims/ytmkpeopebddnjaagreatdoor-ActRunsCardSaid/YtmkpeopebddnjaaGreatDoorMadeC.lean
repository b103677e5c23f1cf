/-
  The reference's acts: NumberOf at three digits; what is made by lines, head, count.
-/
import Derived.Test.YtmkpeopebddnjaaGreatDoorMadeB
namespace Go.Proofs.YtmkpeopebddnjaaGreatDoor
open Go Go.RowKit Go.Kf Go.Sort Go.Proofs

set_option maxRecDepth 100000 in
set_option maxHeartbeats 1000000 in
theorem numberOf3_any (ds : List UInt8) (w : World) (hl : ds.length ≤ 100000) :
    Calls Tryz.prog 53 #[str ds, .int .i64 3] w fun e w' => w = w' ∧
      ((∃ n : Nat, IsN3 ds n ∧ e = .returned (.int .i64 n)) ∨ ((∀ n, ¬ IsN3 ds n) ∧ e = .returned (.int .i64 (-1)))) := by
  by_cases h4 : ds.length ≤ 3
  · cases ds with
    | nil =>
      have hno : Hid (∀ n, ¬ IsN3 [] n) := Lib.hid (fun n h => dec_ne n h.2.symm)
      go_enter Tryz.func53, Tryz.ntmps53
      go_wp2
      go_ret
      exact ⟨rfl, Or.inr ⟨hno.out, rfl⟩⟩
    | cons b r =>
      by_cases h48 : r ≠ [] ∧ b = 48
      · obtain ⟨hr, rfl⟩ := h48
        have hno : Hid (∀ n, ¬ IsN3 (48 :: r) n) := Lib.hid (fun n h => by
          by_cases hn : 10 ≤ n
          · obtain ⟨b, r', e, hb⟩ := dec_head n hn
            have := h.2
            rw [e] at this
            exact hb (List.cons.inj this).1.symm
          · have := h.2
            rw [Lib.decDigits_one (by omega)] at this
            exact hr (List.cons.inj this).2)
        have hlen : 1 < (48 :: r).length := by
          have : r.length ≠ 0 := by simpa using hr
          simp; omega
        obtain ⟨ds, hds⟩ : ∃ ds, 48 :: r = ds := ⟨_, rfl⟩
        have hidx : ∀ h, (⟨ds.toArray⟩ : ByteArray)[0]'h = (48 : UInt8) := fun _ => by
          show ds[0] = 48
          simp [← hds]
        rw [hds] at hno hlen h4 hl ⊢
        clear hds hr
        have hz1 : ((ds.length : Int) < 1) = False := by simp; omega
        have hz2 : ((3 : Int) < (ds.length : Int)) = False := by simp; omega
        have hz3 : ((1 : Int) < (ds.length : Int)) = True := by simp; omega
        go_enter Tryz.func53, Tryz.ntmps53
        go_wp2
        go_ret
        exact ⟨rfl, Or.inr ⟨hno.out, rfl⟩⟩
      · have hor : r = [] ∨ b ≠ 48 := by
          by_cases hr : r = []
          · exact Or.inl hr
          · exact Or.inr (fun e => h48 ⟨hr, e⟩)
        have HOR := Lib.hid hor
        obtain ⟨ds, hds⟩ : ∃ ds, b :: r = ds := ⟨_, rfl⟩
        have HDS := Lib.hid hds
        have hb0 : ds[0]? = some b := by rw [← hds]; rfl
        have hpos : 1 ≤ ds.length := by rw [← hds]; simp
        have hidx0 : ∀ h, (⟨ds.toArray⟩ : ByteArray)[0]'h = b := fun _ => by
          show ds[0] = b
          simp [← hds]
        rw [hds] at h4 hl ⊢
        have hz1 : ((ds.length : Int) < 1) = False := by simp; omega
        have hz2 : ((3 : Int) < (ds.length : Int)) = False := by simp; omega
        have key : (((b.toNat : Int) == 48) = false ∧ ((1 : Int) < (ds.length : Int)) = True) ∨ ((1 : Int) < (ds.length : Int)) = False := by
          by_cases h1 : 1 < ds.length
          · left
            refine ⟨?_, by simp; omega⟩
            have hb : b ≠ 48 := HOR.out.resolve_left (fun e => by rw [← HDS.out, e] at h1; simp at h1)
            have := Kf.u8_eq b 48
            rw [show ((48 : UInt8).toNat : Int) = 48 from rfl] at this
            rw [this]; simpa using hb
          · right
            simp; omega
        have FIN : Hid (∀ m : Nat, Lib.decFrom 0 ds = some m → IsN3 ds m) := Lib.hid (fun m hm => by
          rw [← HDS.out] at hm ⊢
          have e := dec_of r.length b r m rfl HOR.out hm
          refine ⟨dec_le3 ?_, e⟩
          rw [← e, HDS.out]; exact h4)
        clear hor hds hb0
        rcases key with ⟨hz4, hz3⟩ | hz3
        all_goals
          go_enter Tryz.func53, Tryz.ntmps53
          go_wp2_with fail
          go_loopw [5, 6] (fun nv iv wl => ∃ m i : Nat, i ≤ ds.length ∧ nv = .int .i64 m ∧ iv = .int .i64 i ∧ Lib.decFrom 0 (ds.take i) = some m ∧ wl = w) (fun _ iv _ => ds.length - (intOf iv).toNat)
          case atStart => exact ⟨0, 0, by omega, rfl, rfl, by simp [Lib.decFrom], rfl⟩
          case round =>
            obtain ⟨m, i, hi, rfl, rfl, hm, rfl⟩ := hrel
            have HMM := Lib.hid hm
            clear hm
            by_cases hlt : i < ds.length
            · obtain ⟨c, hc⟩ : ∃ c, ds[i] = c := ⟨_, rfl⟩
              have hidx : ∀ h, (⟨ds.toArray⟩ : ByteArray)[i]'h = c := fun _ => hc
              have HC := Lib.hid hc
              clear hc
              by_cases hlo : c.toNat < 48
              · have hd1 : ((c.toNat : Int) < 48) = True := by simp; omega
                have HNO : Hid (∀ n, ¬ IsN3 ds n) := Lib.hid (fun n h => by
                  have := dec_digit n c (by rw [← h.2, ← HC.out]; exact List.getElem_mem hlt)
                  omega)
                go_wp2
                go_ret
                exact ⟨rfl, Or.inr ⟨HNO.out, rfl⟩⟩
              · have hd1 : ((c.toNat : Int) < 48) = False := by simp; omega
                by_cases hhi : 57 < c.toNat
                · have hd2 : ((57 : Int) < (c.toNat : Int)) = True := by simp; omega
                  have HNO : Hid (∀ n, ¬ IsN3 ds n) := Lib.hid (fun n h => by
                    have := dec_digit n c (by rw [← h.2, ← HC.out]; exact List.getElem_mem hlt)
                    omega)
                  go_wp2
                  go_ret
                  exact ⟨rfl, Or.inr ⟨HNO.out, rfl⟩⟩
                · have hd2 : ((57 : Int) < (c.toNat : Int)) = False := by simp; omega
                  obtain ⟨d, hd⟩ : ∃ d, c.toNat = 48 + d := ⟨c.toNat - 48, by omega⟩
                  have hm9 : m ≤ 999 := by
                    have h1 := Lib.decFrom_lt _ _ _ HMM.out
                    have h2 : (ds.take i).length ≤ 3 := by rw [List.length_take]; omega
                    have h3 := Nat.pow_le_pow_right (n := 10) (by decide) h2
                    omega
                  have HST : Hid (Lib.decFrom 0 (ds.take (i + 1)) = some (m * 10 + d)) := Lib.hid (by
                    rw [List.take_succ_eq_append_getElem hlt, decFrom_app _ _ _ _ HMM.out, HC.out]
                    have hv : Lib.digitVal c = some d := by
                      unfold Lib.digitVal
                      rw [if_pos (by omega)]
                      congr 1
                      omega
                    simp only [Lib.decFrom, hv])
                  have hs0 : (c.toNat : Int) - 48 = (d : Int) := by omega
                  have hs1 : IntKind.u8.wrap ((c.toNat : Int) - 48) = (d : Int) := by
                    rw [hs0]
                    simp [IntKind.wrap, IntKind.signed, IntKind.bits]
                    omega
                  have hs2 : IntKind.i64.wrap (d : Int) = (d : Int) := IntWalk.i64_in _ (by omega)
                  have hs3 : IntKind.i64.wrap (10 * (m : Int)) = 10 * (m : Int) := IntWalk.i64_in _ (by omega)
                  have hs4 : IntKind.i64.wrap (10 * (m : Int) + (d : Int)) = 10 * (m : Int) + (d : Int) := IntWalk.i64_in _ (by omega)
                  go_wp2
                  go_roundw
                  case rel => exact ⟨m * 10 + d, i + 1, by omega, by go_num, by go_num, HST.out, by first | rfl | trivial⟩
                  case measure => simp [intOf]; omega
            · obtain rfl : i = ds.length := by omega
              have hM := HMM.out
              rw [List.take_length] at hM
              have HN := Lib.hid (FIN.out m hM)
              clear hM
              go_wp2
              go_ret
              exact ⟨rfl, Or.inl ⟨m, HN.out, rfl⟩⟩
  · have hno : Hid (∀ n, ¬ IsN3 ds n) := Lib.hid (fun n h => by
      have := digits_le 2 n (by have := h.1; omega)
      rw [← h.2] at this
      exact h4 this)
    have hz1 : ((ds.length : Int) < 1) = False := by simp; omega
    have hz2 : ((3 : Int) < (ds.length : Int)) = True := by simp; omega
    clear h4
    go_enter Tryz.func53, Tryz.ntmps53
    go_wp2
    go_ret
    exact ⟨rfl, Or.inr ⟨hno.out, rfl⟩⟩

def numV (s : List UInt8) : Int := match num3 s with
  | some n => n
  | none => -1
theorem number3 (ds : List UInt8) (w : World) (hl : ds.length ≤ 100000) :
    Calls Tryz.prog 53 #[str ds, .int .i64 3] w fun e w' => e = .returned (.int .i64 (numV ds)) ∧ w = w' := by
  refine (numberOf3_any ds w hl).mono ?_
  rintro e w' ⟨rfl, ⟨n, hn, rfl⟩ | ⟨hno, rfl⟩⟩
  · unfold numV
    rw [num3_is hn]
    exact ⟨rfl, rfl⟩
  · unfold numV
    cases hq : num3 ds with
    | some n => exact absurd (num3_of hq) (hno n)
    | none => exact ⟨rfl, rfl⟩

set_option maxRecDepth 100000 in
set_option maxHeartbeats 1000000 in
theorem mlines_any (word s : List UInt8) (v : Value) (w : World) (hr : Reads w v ([s].map str)) (hw : word.length ≤ 100) (hl : s.length ≤ 10000) :
    Calls Tryz.prog 54 #[str [108, 105, 110, 101, 115], str word, v] w fun e w' => e = .returned (str (endedL (linesWith word s))) ∧ Below w.heap.size w w' := by
  have hle := hr.le
  obtain ⟨a, cap, rfl, -, -⟩ := id hr
  simp only [List.length_map, List.length_cons, List.length_nil] at *
  obtain ⟨b0, o0, hix0, hce0⟩ := hr.at (P := Tryz.prog) Tryz.underlying39 (by kernel_rfl) 0 (by simp)
  have hce1 : w.cell? ⟨b0, o0, none⟩ = some (str s) := hce0
  have hix1 : ∀ w', (Instr.indexAt 39 (.slice a 1 cap) (.int .i64 0)).run Tryz.prog w' = .ok (.pointer (some ⟨b0, o0, none⟩)) w' := hix0
  have KL := Lib.hid (linesOf_any s w (by omega))
  have hel := ended_lines s
  have hll := linesB_len s
  unfold linesWith
  generalize linesB s = L at *
  have HM : Hid (∀ x ∈ L, x.length ≤ 10001) := Lib.hid (fun x hx => by have := endedL_mem hx; omega)
  have HE : Hid (∀ i, (endedL ((L.take i).filter fun x => Lib.contains x word)).length ≤ 10001) := Lib.hid (fun i => by
    have h1 := endedL_take L i
    have h2 : ∀ (M : List (List UInt8)), (endedL (M.filter fun x => Lib.contains x word)).length ≤ (endedL M).length := by
      intro M
      induction M with
      | nil => exact Nat.le_refl _
      | cons x M ih =>
        rw [List.filter_cons]
        split
        · rw [endedL_cons, endedL_cons, List.length_append, List.length_append, List.length_cons, List.length_cons]
          omega
        · rw [endedL_cons, List.length_append, List.length_cons]
          omega
    have h3 := h2 (L.take i)
    omega)
  clear hr hix0 hce0 hel
  go_enter Tryz.func54, Tryz.ntmps54
  go_wp2_with fail
  refine KL.out.mono ?_
  rintro e w1 ⟨vl, rfl, hol, hb1⟩
  have HRL := Lib.hid (ownsRow_reads hol)
  have HB1 := Lib.hid hb1
  obtain ⟨al, cl, rfl, -, -⟩ := id HRL.out
  clear hol hb1 hce1
  simp only [List.length_map] at *
  go_wp2_with fail
  go_loopw [7, 12] (fun ov iv wl => ∃ i : Nat, i ≤ L.length ∧ iv = .int .i64 i ∧ ov = str (endedL ((L.take i).filter fun x => Lib.contains x word)) ∧ wl = w1) (fun _ iv _ => L.length - (intOf iv).toNat)
  case atStart => exact ⟨0, by omega, rfl, rfl, rfl⟩
  case round =>
    obtain ⟨i, hi, rfl, rfl, rfl⟩ := hrel
    by_cases hlt : i < L.length
    · obtain ⟨b, o, hix, hce⟩ := HRL.out.at (P := Tryz.prog) Tryz.underlying39 (by kernel_rfl) i (by simpa using hlt)
      simp only [List.getElem_map] at hce
      have hlc : ((i : Int) < (L.length : Int)) = True := eq_true (by omega)
      have HN : Hid ((L.take (i + 1)).filter (fun x => Lib.contains x word) = (L.take i).filter (fun x => Lib.contains x word) ++ (if Lib.contains L[i] word = true then [L[i]] else [])) := Lib.hid (by
        rw [List.take_succ_eq_append_getElem hlt, List.filter_append]
        congr 1
        rw [List.filter_cons]
        split <;> rfl)
      have hs := HM.out L[i] (List.getElem_mem _)
      have hol := HE.out i
      have KI := in_any L[i] word wr (by omega) (by omega)
      generalize L[i] = x at *
      generalize (L.take i).filter (fun x => Lib.contains x word) = F at *
      cases hcx : Lib.contains x word with
      | true =>
        rw [hcx, if_pos rfl] at HN
        rw [hcx] at KI
        have K1 := Lib.hid KI
        have HN2 : Hid (endedL ((L.take (i + 1)).filter fun x => Lib.contains x word) = endedL F ++ (x ++ [10])) := Lib.hid (by rw [HN.out, endedL_snoc])
        clear KI hcx
        generalize endedL F = out at *
        have hz1 : ¬ 9223372036854775807 < out.length + x.length := by omega
        have hz2 : ¬ 9223372036854775807 < out.length + x.length + 1 := by omega
        go_wp2_with fail
        refine K1.out.mono ?_
        rintro e w2 ⟨rfl, rfl⟩
        go_wp2
        go_roundw
        case rel => exact ⟨i + 1, by omega, by go_num, by rw [HN2.out]; simp [str_app], by first | rfl | trivial⟩
        case measure => simp [intOf]; omega
      | false =>
        rw [hcx, if_neg (by decide), List.append_nil] at HN
        rw [hcx] at KI
        have K1 := Lib.hid KI
        clear KI hcx
        go_wp2_with fail
        refine K1.out.mono ?_
        rintro e w2 ⟨rfl, rfl⟩
        go_wp2
        go_roundw
        case rel => exact ⟨i + 1, by omega, by go_num, by rw [HN.out], by first | rfl | trivial⟩
        case measure => simp [intOf]; omega
    · obtain rfl : i = L.length := by omega
      have hlc : ((L.length : Int) < (L.length : Int)) = False := eq_false (by omega)
      rw [List.take_length]
      go_wp2
      go_ret
      exact ⟨rfl, HB1.out⟩

set_option maxRecDepth 100000 in
set_option maxHeartbeats 1000000 in
theorem mhead_any (word s : List UInt8) (n : Nat) (v : Value) (w : World) (hr : Reads w v ([s].map str)) (hn : num3 word = some n) (hw : word.length ≤ 100) (hl : s.length ≤ 10000) :
    Calls Tryz.prog 54 #[str [104, 101, 97, 100], str word, v] w fun e w' => e = .returned (str (headB n s)) ∧ Below w.heap.size w w' := by
  have hle := hr.le
  obtain ⟨a, cap, rfl, -, -⟩ := id hr
  simp only [List.length_map, List.length_cons, List.length_nil] at *
  obtain ⟨b0, o0, hix0, hce0⟩ := hr.at (P := Tryz.prog) Tryz.underlying39 (by kernel_rfl) 0 (by simp)
  have hce1 : w.cell? ⟨b0, o0, none⟩ = some (str s) := hce0
  have hix1 : ∀ w', (Instr.indexAt 39 (.slice a 1 cap) (.int .i64 0)).run Tryz.prog w' = .ok (.pointer (some ⟨b0, o0, none⟩)) w' := hix0
  have KL := Lib.hid (linesOf_any s w (by omega))
  have KN : Hid (∀ w1, Calls Tryz.prog 53 #[str word, .int .i64 3] w1 fun e w' => e = .returned (.int .i64 (n : Int)) ∧ w1 = w') := Lib.hid (fun w1 => by
    have := number3 word w1 (by omega)
    unfold numV at this
    rw [hn] at this
    exact this)
  have hel := ended_lines s
  have hll := linesB_len s
  unfold headB
  generalize linesB s = L at *
  have HM : Hid (∀ x ∈ L, x.length ≤ 10001) := Lib.hid (fun x hx => by have := endedL_mem hx; omega)
  have HE : Hid (∀ i, (endedL (L.take i)).length ≤ 10001) := Lib.hid (fun i => by
    have h1 := endedL_take L i
    omega)
  clear hr hix0 hce0 hel hn
  go_enter Tryz.func54, Tryz.ntmps54
  go_wp2_with fail
  refine KL.out.mono ?_
  rintro e w1 ⟨vl, rfl, hol, hb1⟩
  have HRL := Lib.hid (ownsRow_reads hol)
  have HB1 := Lib.hid hb1
  obtain ⟨al, cl, rfl, -, -⟩ := id HRL.out
  clear hol hb1 hce1
  simp only [List.length_map] at *
  go_wp2_with fail
  go_loopw [7, 26] (fun ov iv wl => ∃ i : Nat, i ≤ L.length ∧ i ≤ n ∧ iv = .int .i64 i ∧ ov = str (endedL (L.take i)) ∧ wl = w1) (fun _ iv _ => L.length - (intOf iv).toNat)
  case atStart => exact ⟨0, by omega, by omega, rfl, rfl, rfl⟩
  case round =>
    obtain ⟨i, hi, hin, rfl, rfl, rfl⟩ := hrel
    by_cases hlt : i < L.length
    · obtain ⟨b, o, hix, hce⟩ := HRL.out.at (P := Tryz.prog) Tryz.underlying39 (by kernel_rfl) i (by simpa using hlt)
      simp only [List.getElem_map] at hce
      have hlc : ((i : Int) < (L.length : Int)) = True := eq_true (by omega)
      by_cases hn2 : i < n
      · have hnc : ((i : Int) < (n : Int)) = True := eq_true (by omega)
        have HN : Hid (endedL (L.take (i + 1)) = endedL (L.take i) ++ (L[i] ++ [10])) := Lib.hid (by rw [List.take_succ_eq_append_getElem hlt, endedL_snoc])
        have hs := HM.out L[i] (List.getElem_mem _)
        have hol := HE.out i
        generalize L[i] = x at *
        generalize endedL (L.take i) = out at *
        have hz1 : ¬ 9223372036854775807 < out.length + x.length := by omega
        have hz2 : ¬ 9223372036854775807 < out.length + x.length + 1 := by omega
        go_wp2_with fail
        refine (KN.out _).mono ?_
        rintro e w2 ⟨rfl, rfl⟩
        go_wp2
        go_roundw
        case rel => exact ⟨i + 1, by omega, by omega, by go_num, by rw [HN.out]; simp [str_app], by first | rfl | trivial⟩
        case measure => simp [intOf]; omega
      · obtain rfl : i = n := by omega
        have hnc : ((i : Int) < (i : Int)) = False := eq_false (by omega)
        go_wp2_with fail
        refine (KN.out _).mono ?_
        rintro e w2 ⟨rfl, rfl⟩
        go_wp2
        go_ret
        exact ⟨rfl, HB1.out⟩
    · obtain rfl : i = L.length := by omega
      have hlc : ((L.length : Int) < (L.length : Int)) = False := eq_false (by omega)
      have HT : Hid (endedL (L.take n) = endedL (L.take L.length)) := Lib.hid (by rw [List.take_length, List.take_of_length_le hin])
      go_wp2
      go_ret
      exact ⟨by rw [HT.out]; rfl, HB1.out⟩
end Go.Proofs.YtmkpeopebddnjaaGreatDoor
