/-
  Package act: Run of any command.
-/
import Derived.Test.YtmkpeopebddnjaaGreatDoorActG
namespace Go.Proofs.YtmkpeopebddnjaaGreatDoor
open Go Go.RowKit Go.Kf Go.Sort Go.Proofs

/-- A slice has room for what it holds. -/
def Roomy (v : Value) : Prop := ∀ a n c, v = .slice a n c → n ≤ c

/-- What a kind makes. -/
def runB (f : Nat) (word : List UInt8) (ins : List (List UInt8)) : List UInt8 :=
  if f = 69 then word
  else if f = 70 then Lib.join ins word
  else if f = 73 then (ins.headD []).map upB
  else if f = 74 then endedL (linesWith word (ins.headD []))
  else if f = 76 then endedL (sortedC word (allB ins))
  else if f = 77 then countB ins
  else if f = 79 then swapG (Lib.cut word [61]).1 (Lib.cut word [61]).2.1 (ins.headD [])
  else headB ((num3 word).getD 0) (ins.headD [])
/-- What a command answers: an error's number, and its bytes. -/
def actOf (name word : List UInt8) (ins : List (List UInt8)) : Nat × List UInt8 :=
  if actErr name word ins.length = 0 then
    match mlook name kindsL with
    | none => (0, [])
    | some k => if 2000 < (runB k.run word ins).length then (10, []) else (0, runB k.run word ins)
  else (actErr name word ins.length, [])

theorem joinTop (sep : List UInt8) : ∀ {ins : List (List UInt8)}, (∀ s ∈ ins, s.length ≤ 10000) → (Lib.join ins sep).length ≤ (10000 + sep.length) * ins.length
  | [], _ => by simp [Lib.join]
  | [s], h => by
    have := h s List.mem_cons_self
    simp [Lib.join]
    omega
  | s :: t :: r, h => by
    have h1 := h s List.mem_cons_self
    have ih := joinTop sep (ins := t :: r) (fun q hq => h q (List.mem_cons_of_mem _ hq))
    have e : Lib.join (s :: t :: r) sep = s ++ (sep ++ Lib.join (t :: r) sep) := by simp [Lib.join]
    rw [e, List.length_append, List.length_append, List.length_cons, Nat.mul_succ]
    omega

set_option maxRecDepth 100000 in
theorem kwrite_any (word : List UInt8) (v : Value) (w : World) : Calls Tryz.prog 69 #[str word, v] w fun e w' => e = .returned (str word) ∧ Below w.heap.size w w' := by
  go_enter Tryz.func69, Tryz.ntmps69
  go_wp2
  go_ret
  exact ⟨rfl, Below.refl _ _⟩

theorem kjoin_all (word : List UInt8) (v : Value) (ins : List (List UInt8)) (w : World) (hr : Reads w v (ins.map str)) (hcap : Roomy v) (h1 : 1 ≤ ins.length) (h8 : ins.length ≤ 8) (hl : word.length ≤ 100) (hx : ∀ s ∈ ins, s.length ≤ 10000) :
    Calls Tryz.prog 70 #[str word, v] w fun e w' => e = .returned (str (Lib.join ins word)) ∧ Below w.heap.size w w' := by
  obtain ⟨a, cap, rfl, hle, hc⟩ := hr
  simp only [List.length_map] at *
  obtain ⟨b, o, rfl, hc0⟩ := hc 0 (str ins[0]) (by simp)
  have hj := joinTop word hx
  have hm : (10000 + word.length) * ins.length ≤ 10100 * 8 := Nat.mul_le_mul (by omega) h8
  refine kjoin_any word b o ins.length cap ins w rfl (fun j s hs => ?_) (lt_of_cell hc0) (hcap _ _ _ rfl) (by omega) (by omega)
  obtain ⟨b', o', e, hcj⟩ := hc j (str s) (by rw [List.getElem?_map, hs]; rfl)
  cases e
  exact hcj

set_option maxRecDepth 100000 in
theorem kind_run {name : List UInt8} {k : Kd} (h : mlook name kindsL = some k) (word : List UInt8) (v : Value) (ins : List (List UInt8)) (w : World) (hr : Reads w v (ins.map str)) (hcap : Roomy v) (hm : Ml w) (ht : Tab w)
    (h1 : k.least ≤ (ins.length : Int)) (h2 : (ins.length : Int) ≤ k.most) (hw : kwordB k.word word = true) (hl : word.length ≤ 100) (hx : ∀ s ∈ ins, s.length ≤ 10000) :
    Enters k.run ∧ Calls Tryz.prog k.run #[str word, v] w fun e w' => e = .returned (str (runB k.run word ins)) ∧ Below w.heap.size w w' := by
  obtain ⟨n, hmem⟩ := kinds_mem h
  unfold kindsL at hmem
  simp only [List.mem_cons, Prod.mk.injEq, List.not_mem_nil, or_false] at hmem
  have one : (1 : Int) ≤ (ins.length : Int) → (ins.length : Int) ≤ 1 → ∃ s, ins = [s] := fun a b => List.length_eq_one_iff.1 (by omega)
  rcases hmem with ⟨-, rfl⟩ | ⟨-, rfl⟩ | ⟨-, rfl⟩ | ⟨-, rfl⟩ | ⟨-, rfl⟩ | ⟨-, rfl⟩ | ⟨-, rfl⟩ | ⟨-, rfl⟩
  · exact ⟨fun _ _ => rfl, kwrite_any word v w⟩
  · exact ⟨fun _ _ => rfl, kjoin_all word v ins w hr hcap (by simp only at h1; omega) (by simp only at h2; omega) hl hx⟩
  · obtain ⟨s, rfl⟩ := one h1 h2
    exact ⟨fun _ _ => rfl, upper_any word s v w hr (hx s List.mem_cons_self)⟩
  · obtain ⟨s, rfl⟩ := one h1 h2
    exact ⟨fun _ _ => rfl, klines_any word s v w hr hm (hx s List.mem_cons_self)⟩
  · simp only at h1 h2
    have hsum : (endedL (allB ins)).length ≤ 1000000 := by
      have h3 := ended_all ins
      have h4 : ∀ {l : List (List UInt8)}, (∀ s ∈ l, s.length ≤ 10000) → (l.map fun s => s.length + 1).sum ≤ 10001 * l.length := by
        intro l
        induction l with
        | nil => intro _; simp
        | cons s l ih =>
          intro hq
          have a1 := hq s List.mem_cons_self
          have a2 := ih (fun q hq' => hq q (List.mem_cons_of_mem _ hq'))
          simp only [List.map_cons, List.sum_cons, List.length_cons]
          omega
      have h5 := h4 hx
      omega
    exact ⟨fun _ _ => rfl, sorted_any word v ins w hr hm (by omega) hx hsum⟩
  · simp only at h1 h2
    exact ⟨fun _ _ => rfl, count_any word v ins w hr hm ht (by omega) hx⟩
  · obtain ⟨s, rfl⟩ := one h1 h2
    have hp : pairB word = true := hw
    obtain ⟨a, r, rfl, ha, hna, -⟩ := pair_split hp
    refine ⟨fun _ _ => rfl, ?_⟩
    have e : runB 79 (a ++ 61 :: r) [s] = swapG a r s := by
      show swapG (Lib.cut (a ++ 61 :: r) [61]).1 (Lib.cut (a ++ 61 :: r) [61]).2.1 s = _
      rw [cut_at hna]
    show Calls Tryz.prog 79 _ _ (fun e w' => e = .returned (str (runB 79 (a ++ 61 :: r) [s])) ∧ _)
    rw [e]
    exact kswap_any a r s v w hr hm ha hna hl (hx s List.mem_cons_self)
  · obtain ⟨s, rfl⟩ := one h1 h2
    have hp : (num3 word).isSome = true := hw
    obtain ⟨n, hn⟩ := Option.isSome_iff_exists.1 hp
    refine ⟨fun _ _ => rfl, ?_⟩
    have e : runB 81 word [s] = headB n s := by
      show headB ((num3 word).getD 0) s = _
      rw [hn]
      rfl
    show Calls Tryz.prog 81 _ _ (fun e w' => e = .returned (str (runB 81 word [s])) ∧ _)
    rw [e]
    exact head_any word s n v w hr hm (num3_of hn) (hx s List.mem_cons_self)

set_option maxRecDepth 100000 in
/-- A command that is not right. -/
theorem run_bad (name word : List UInt8) (v : Value) (ins : List (List UInt8)) (c : Nat) (w : World) (S : Nat → Addr) (hr : Reads w v (ins.map str)) (hE : AErr w S) (hN : NErr w) (ht : Tab w) (hl : word.length ≤ 100000) (hc : actErr name word ins.length = c + 1) :
    Calls Tryz.prog 27 #[str name, str word, v] w fun e w' => e = .returned (.tuple #[str [], errI (S c)]) ∧ Below w.heap.size w w' := by
  have K0 := acheck_any name word ins.length w S hE hN ht hl
  rw [hc] at K0
  have K1 : Hid (Calls Tryz.prog 35 #[str name, str word, .int .i64 (ins.length : Int)] w fun e w' => e = .returned (errI (S c)) ∧ Below w.heap.size w w') := Lib.hid K0
  obtain ⟨a, cap, rfl, -, -⟩ := id hr
  simp only [List.length_map] at *
  clear hr hE hN ht K0 hc
  go_enter Tryz.func27, Tryz.ntmps27
  go_wp2_with fail
  refine K1.out.mono ?_
  rintro e w1 ⟨rfl, hb1⟩
  have HB1 := Lib.hid hb1
  clear hb1
  go_wp2
  go_ret2
  exact ⟨rfl, HB1.out⟩

set_option maxRecDepth 100000 in
/-- What would be too long. -/
theorem run_long (name word out : List UInt8) (v : Value) (ins : List (List UInt8)) (k : Kd) (w : World) (S : Nat → Addr) (hE : AErr w S) (hr : Reads w v (ins.map str)) (hk : mlook name kindsL = some k) (h1 : k.least ≤ (ins.length : Int)) (h2 : (ins.length : Int) ≤ k.most) (hw : WordIs w.heap.size w k.word word true) (hl : word.length ≤ 100) (he : Enters k.word) (he2 : Enters k.run)
    (hrun : ∀ w1, Below w.heap.size w w1 → Calls Tryz.prog k.run #[str word, v] w1 fun e w' => e = .returned (str out) ∧ Below w1.heap.size w1 w') (ho : 2000 < out.length) :
    Calls Tryz.prog 27 #[str name, str word, v] w fun e w' => e = .returned (.tuple #[str [], errI (S 9)]) ∧ Below w.heap.size w w' := by
  have K0 := Lib.hid (check_ok name word ins.length k w hk h1 h2 hw hl he)
  have HK := Lib.hid hk
  have HR := Lib.hid hrun
  have HE := Lib.hid hE
  obtain ⟨a, cap, rfl, -, -⟩ := id hr
  have hle := hr.le
  simp only [List.length_map] at *
  obtain ⟨least, most, wf, rf⟩ := k
  have hc : ((2000 : Int) < (out.length : Int)) = True := eq_true (by omega)
  have hen := he2 #[str word, .slice a ins.length cap]
  simp only at hen
  clear he he2
  clear hk hw hr hrun h1 h2 hE
  go_enter Tryz.func27, Tryz.ntmps27
  go_wp2_with fail
  refine K0.out.mono ?_
  rintro e w1 ⟨rfl, hb1⟩
  have HB1 := Lib.hid hb1
  clear hb1
  go_wp2_with fail
  refine (kinds_any w1).mono ?_
  rintro e w2 ⟨mb, rfl, hmb, hM, hb2⟩
  have hlk := MapIs.lookup kmapKey kmapUnd kzero hM name false
  rw [HK.out] at hlk
  simp only [Bool.false_eq_true, if_false, Option.map_some, Option.getD_some, kdV] at hlk
  have HB2 := Lib.hid (HB1.out.trans (hb2.mono HB1.out.size))
  have K1 := Lib.hid (HR.out w2 HB2.out)
  have hfd := run_kind least most wf rf w2
  clear hM hb2
  go_wp2_with fail
  go_wp2_with fail
  refine K1.out.mono ?_
  rintro e w3 ⟨rfl, hb3⟩
  have HB3 := Lib.hid (HB2.out.trans (hb3.mono HB2.out.size))
  have hce := (HE.out.below HB3.out (Nat.le_refl _)).long
  clear hb3
  go_wp2_with fail
  go_quiet (fail)
  go_wp2
  go_ret2
  exact ⟨rfl, by first | exact HB3.out | exact below_drewN HB3.out _⟩

/-- Run of any command. -/
theorem arun_any (name word : List UInt8) (v : Value) (ins : List (List UInt8)) (w : World) (S : Nat → Addr) (hr : Reads w v (ins.map str)) (hcap : Roomy v) (hm : Ml w) (hE : AErr w S) (hN : NErr w) (ht : Tab w) (hl : word.length ≤ 100000) (hx : ∀ s ∈ ins, s.length ≤ 10000) :
    Calls Tryz.prog 27 #[str name, str word, v] w fun e w' => e = .returned (.tuple #[str (actOf name word ins).2, errN S (actOf name word ins).1]) ∧ Below w.heap.size w w' := by
  unfold actOf
  cases hc : actErr name word ins.length with
  | succ c =>
    rw [if_neg (by omega)]
    exact run_bad name word v ins c w S hr hE hN ht hl hc
  | zero =>
    rw [if_pos rfl]
    unfold actErr at hc
    cases hk : mlook name kindsL with
    | none => rw [hk] at hc; cases hc
    | some k =>
      rw [hk] at hc
      simp only at hc
      split at hc
      · rename_i hcond
        obtain ⟨h1, h2, hw⟩ := hcond
        split at hc
        · cases hc
        · rename_i h100
          obtain ⟨he, hword⟩ := kind_word hk word w hN ht hl
          rw [hw] at hword
          have hrun := fun w1 (hb : Below w.heap.size w w1) => (kind_run hk word v ins w1 (hr.below0 hb) hcap (hm.below hb (Nat.le_refl _)) (tab_below ht hb (Nat.le_refl _)) h1 h2 hw (by omega) hx).2
          have hen := (kind_run hk word v ins w hr hcap hm ht h1 h2 hw (by omega) hx).1
          simp only
          by_cases ho : 2000 < (runB k.run word ins).length
          · rw [if_pos ho]
            exact run_long name word (runB k.run word ins) v ins k w S hE hr hk h1 h2 hword (by omega) he hen hrun ho
          · rw [if_neg ho]
            exact run_ok name word (runB k.run word ins) v ins k w hr hk h1 h2 hword (by omega) he hen hrun (by omega)
      · cases hc
end Go.Proofs.YtmkpeopebddnjaaGreatDoor
