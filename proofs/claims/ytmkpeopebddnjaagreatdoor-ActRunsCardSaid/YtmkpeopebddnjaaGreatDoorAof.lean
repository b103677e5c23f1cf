/-
  The reference's ActOf of any command.
-/
import Derived.Test.YtmkpeopebddnjaaGreatDoorMadeF
import Derived.Test.YtmkpeopebddnjaaGreatDoorRErr
namespace Go.Proofs.YtmkpeopebddnjaaGreatDoor
open Go Go.RowKit Go.Kf Go.Sort Go.Proofs

abbrev writeB : List UInt8 := [119, 114, 105, 116, 101]
set_option maxRecDepth 100000 in
/-- What is made by a right command that is no write. -/
theorem made_any {name : List UInt8} {k : Kd} (h : mlook name kindsL = some k) (hne : name ≠ writeB) (word : List UInt8) (v : Value) (ins : List (List UInt8)) (w : World) (hr : Reads w v (ins.map str))
    (h1 : k.least ≤ (ins.length : Int)) (h2 : (ins.length : Int) ≤ k.most) (hw : kwordB k.word word = true) (hl : word.length ≤ 100) (hx : ∀ s ∈ ins, s.length ≤ 10000) :
    Calls Tryz.prog 54 #[str name, str word, v] w fun e w' => e = .returned (str (runB k.run word ins)) ∧ Below w.heap.size w w' := by
  have hmem := mlook_mem h
  unfold kindsL at hmem
  simp only [List.mem_cons, Prod.mk.injEq, List.not_mem_nil, or_false] at hmem
  have one : (1 : Int) ≤ (ins.length : Int) → (ins.length : Int) ≤ 1 → ∃ s, ins = [s] := fun a b => List.length_eq_one_iff.1 (by omega)
  rcases hmem with ⟨rfl, rfl⟩ | ⟨rfl, rfl⟩ | ⟨rfl, rfl⟩ | ⟨rfl, rfl⟩ | ⟨rfl, rfl⟩ | ⟨rfl, rfl⟩ | ⟨rfl, rfl⟩ | ⟨rfl, rfl⟩
  · exact absurd rfl hne
  · simp only at h1 h2
    exact mjoin_any word v ins w hr (by omega) (by omega) hl hx
  · obtain ⟨s, rfl⟩ := one h1 h2
    exact mupper_any word s v w hr (hx s List.mem_cons_self)
  · obtain ⟨s, rfl⟩ := one h1 h2
    exact mlines_any word s v w hr hl (hx s List.mem_cons_self)
  · simp only at h1 h2
    have hp : (word == [] || word == onceB) = true := hw
    rw [Bool.or_eq_true, beq_iff_eq, beq_iff_eq] at hp
    rcases hp with rfl | rfl
    · exact msort_plain v ins w hr (by omega) hx
    · exact msort_once v ins w hr (by omega) hx
  · simp only at h1 h2
    exact mcount_any word v ins w hr (by omega) hx
  · obtain ⟨s, rfl⟩ := one h1 h2
    have hp : pairB word = true := hw
    obtain ⟨a, r, rfl, ha, hna, hnr⟩ := pair_split hp
    have e : runB 79 (a ++ 61 :: r) [s] = swapG a r s := by
      show swapG (Lib.cut (a ++ 61 :: r) [61]).1 (Lib.cut (a ++ 61 :: r) [61]).2.1 s = _
      rw [cut_at hna]
    show Calls Tryz.prog 54 _ _ (fun e w' => e = .returned (str (runB 79 (a ++ 61 :: r) [s])) ∧ _)
    rw [e]
    exact mswap_any a r s v w hr ha hna hnr hl (hx s List.mem_cons_self)
  · obtain ⟨s, rfl⟩ := one h1 h2
    have hp : (num3 word).isSome = true := hw
    obtain ⟨n, hn⟩ := Option.isSome_iff_exists.1 hp
    have e : runB 81 word [s] = headB n s := by
      show headB ((num3 word).getD 0) s = _
      rw [hn]
      rfl
    show Calls Tryz.prog 54 _ _ (fun e w' => e = .returned (str (runB 81 word [s])) ∧ _)
    rw [e]
    exact mhead_any word s n v w hr hn hl (hx s List.mem_cons_self)

set_option maxRecDepth 100000 in
theorem aof_bad (name word : List UInt8) (v : Value) (ins : List (List UInt8)) (c : Nat) (w : World) (hr : Reads w v (ins.map str)) (hn : ins.length ≤ 1000) (hl : word.length ≤ 100000) (hc : actErr name word ins.length = c + 1) :
    Calls Tryz.prog 34 #[str name, str word, v] w fun e w' => e = .returned (.tuple #[str [], .int .i64 ((c : Int) + 1)]) ∧ Below w.heap.size w w' := by
  have K0 := rerr_any name word ins.length w (by omega) hl
  rw [hc] at K0
  have K1 : Hid (Calls Tryz.prog 36 #[str name, str word, .int .i64 (ins.length : Int)] w fun e w' => e = .returned (.int .i64 ((c : Int) + 1)) ∧ Below w.heap.size w w') := Lib.hid K0
  obtain ⟨a, cap, rfl, -, -⟩ := id hr
  simp only [List.length_map] at *
  have hpos : ((0 : Int) < (c : Int) + 1) = True := eq_true (by omega)
  clear hr K0 hc
  go_enter Tryz.func34, Tryz.ntmps34
  go_wp2_with fail
  refine K1.out.mono ?_
  rintro e w1 ⟨rfl, hb1⟩
  go_wp2
  go_ret2
  exact ⟨rfl, hb1⟩

set_option maxRecDepth 100000 in
theorem aof_write (word : List UInt8) (v : Value) (ins : List (List UInt8)) (w : World) (hr : Reads w v (ins.map str)) (hn : ins.length ≤ 1000) (hl : word.length ≤ 100) (hc : actErr writeB word ins.length = 0) :
    Calls Tryz.prog 34 #[str writeB, str word, v] w fun e w' => e = .returned (.tuple #[str word, .int .i64 0]) ∧ Below w.heap.size w w' := by
  have K0 := rerr_any writeB word ins.length w (by omega) (by omega)
  rw [hc] at K0
  have K1 : Hid (Calls Tryz.prog 36 #[str writeB, str word, .int .i64 (ins.length : Int)] w fun e w' => e = .returned (.int .i64 0) ∧ Below w.heap.size w w') := Lib.hid K0
  obtain ⟨a, cap, rfl, -, -⟩ := id hr
  simp only [List.length_map] at *
  have hc2 : ((2000 : Int) < (word.length : Int)) = False := eq_false (by omega)
  clear hr K0 hc
  go_enter Tryz.func34, Tryz.ntmps34
  go_wp2_with fail
  refine K1.out.mono ?_
  rintro e w1 ⟨rfl, hb1⟩
  go_wp2
  go_ret2
  exact ⟨rfl, hb1⟩

set_option maxRecDepth 100000 in
theorem aof_made (name word out : List UInt8) (v : Value) (ins : List (List UInt8)) (w : World) (hr : Reads w v (ins.map str)) (hn : ins.length ≤ 1000) (hl : word.length ≤ 100) (hc : actErr name word ins.length = 0) (hne : name ≠ writeB)
    (hmade : ∀ w1, Below w.heap.size w w1 → Calls Tryz.prog 54 #[str name, str word, v] w1 fun e w' => e = .returned (str out) ∧ Below w1.heap.size w1 w') :
    Calls Tryz.prog 34 #[str name, str word, v] w fun e w' => e = .returned (.tuple #[str (if 2000 < out.length then [] else out), .int .i64 (if 2000 < out.length then 10 else 0)]) ∧ Below w.heap.size w w' := by
  have K0 := rerr_any name word ins.length w (by omega) (by omega)
  rw [hc] at K0
  have K1 : Hid (Calls Tryz.prog 36 #[str name, str word, .int .i64 (ins.length : Int)] w fun e w' => e = .returned (.int .i64 0) ∧ Below w.heap.size w w') := Lib.hid K0
  have K2 := Lib.hid hmade
  obtain ⟨a, cap, rfl, -, -⟩ := id hr
  simp only [List.length_map] at *
  have hd : (name == [119, 114, 105, 116, 101]) = false := by simpa using hne
  clear hr K0 hc hmade hne
  by_cases ho : 2000 < out.length
  · rw [if_pos ho, if_pos ho]
    have hc2 : ((2000 : Int) < (out.length : Int)) = True := eq_true (by omega)
    go_enter Tryz.func34, Tryz.ntmps34
    go_wp2_with fail
    refine K1.out.mono ?_
    rintro e w1 ⟨rfl, hb1⟩
    have HB1 := Lib.hid hb1
    have K3 := Lib.hid (K2.out w1 hb1)
    clear hb1
    go_wp2_with fail
    refine K3.out.mono ?_
    rintro e w2 ⟨rfl, hb2⟩
    have HB2 := Lib.hid (HB1.out.trans (hb2.mono HB1.out.size))
    clear hb2
    go_wp2
    go_ret2
    exact ⟨rfl, HB2.out⟩
  · rw [if_neg ho, if_neg ho]
    have hc2 : ((2000 : Int) < (out.length : Int)) = False := eq_false (by omega)
    go_enter Tryz.func34, Tryz.ntmps34
    go_wp2_with fail
    refine K1.out.mono ?_
    rintro e w1 ⟨rfl, hb1⟩
    have HB1 := Lib.hid hb1
    have K3 := Lib.hid (K2.out w1 hb1)
    clear hb1
    go_wp2_with fail
    refine K3.out.mono ?_
    rintro e w2 ⟨rfl, hb2⟩
    have HB2 := Lib.hid (HB1.out.trans (hb2.mono HB1.out.size))
    clear hb2
    go_wp2
    go_ret2
    exact ⟨rfl, HB2.out⟩

set_option maxRecDepth 100000 in
/-- ActOf of any command. -/
theorem aof_any (name word : List UInt8) (v : Value) (ins : List (List UInt8)) (w : World) (hr : Reads w v (ins.map str)) (hn : ins.length ≤ 1000) (hl : word.length ≤ 100000) (hx : ∀ s ∈ ins, s.length ≤ 10000) :
    Calls Tryz.prog 34 #[str name, str word, v] w fun e w' => e = .returned (.tuple #[str (actOf name word ins).2, .int .i64 ((actOf name word ins).1 : Nat)]) ∧ Below w.heap.size w w' := by
  unfold actOf
  cases hc : actErr name word ins.length with
  | succ c =>
    rw [if_neg (by omega)]
    exact aof_bad name word v ins c w hr hn hl hc
  | zero =>
    rw [if_pos rfl]
    have hc0 := hc
    unfold actErr at hc
    cases hk : mlook name kindsL with
    | none => rw [hk] at hc; cases hc
    | some k =>
      rw [hk] at hc
      simp only at hc
      split at hc
      · rename_i hcond
        obtain ⟨h1, h2, hw⟩ := hcond
        split at hc
        · cases hc
        · rename_i h100
          simp only
          by_cases hne : name = writeB
          · subst hne
            have hkw : k = ⟨0, 0, 68, 69⟩ := by
              have e : mlook writeB kindsL = some ⟨0, 0, 68, 69⟩ := by kernel_rfl
              rw [e] at hk
              exact (Option.some.inj hk).symm
            subst hkw
            have er : runB 69 word ins = word := rfl
            rw [er, if_neg (by omega)]
            exact aof_write word v ins w hr hn (by omega) hc0
          · have K := aof_made name word (runB k.run word ins) v ins w hr hn (by omega) hc0 hne (fun w1 hb => made_any hk hne word v ins w1 (hr.below0 hb) h1 h2 hw (by omega) hx)
            by_cases ho : 2000 < (runB k.run word ins).length
            · rw [if_pos ho]
              rw [if_pos ho, if_pos ho] at K
              exact K
            · rw [if_neg ho]
              rw [if_neg ho, if_neg ho] at K
              exact K
      · cases hc
end Go.Proofs.YtmkpeopebddnjaaGreatDoor
