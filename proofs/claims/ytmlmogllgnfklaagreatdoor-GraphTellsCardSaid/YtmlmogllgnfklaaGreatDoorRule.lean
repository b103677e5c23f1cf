/-
  Rules in plain words: what is wrong with a rule, with a sheet.
-/
import Derived.Test.YtmlmogllgnfklaaGreatDoorActN
import Derived.Test.YtmlmogllgnfklaaGreatDoorRefP
namespace Go.Proofs.YtmlmogllgnfklaaGreatDoor
open Go Go.RowKit Go.Kf Go.Sort Go.Proofs

/-- A rule. -/
structure RuleL where
  out : List UInt8
  kind : List UInt8
  word : List UInt8
  ins : List (List UInt8)
/-- Does an input come twice, or is it the out? (The first places that say so.) -/
def dupB (r : RuleL) : Bool := (List.range r.ins.length).any fun i => decide (r.ins.getD i [] = r.out) || decide (r.ins.getD i [] ∈ r.ins.take i)
/-- A rule's error (0: it is right). -/
def ruleErr (r : RuleL) : Nat :=
  if isPathB r.out = false then 4
  else if actErr r.kind r.word r.ins.length ≠ 0 then actErr r.kind r.word r.ins.length
  else if (r.ins.all isPathB) = false then 4
  else if dupB r = true then 7 else 0
/-- The error of rule i of a sheet, those ahead being right. -/
def errAt (l : List RuleL) (i : Nat) (r : RuleL) : Nat := if ruleErr r ≠ 0 then ruleErr r else if r.out ∈ (l.take i).map RuleL.out then 7 else 0
/-- A sheet's fault: the error and the place of the first rule that is wrong (0: none). -/
def sheetErr (l : List RuleL) : Nat × Nat := match (List.range l.length).find? fun i => match l[i]? with
    | some r => errAt l i r != 0
    | none => false with
  | some i => (match l[i]? with | some r => errAt l i r | none => 0, i)
  | none => (0, 0)
/-- A sheet that is right. -/
def SheetOk (l : List RuleL) : Prop := l.length ≤ 40 ∧ ∀ i r, l[i]? = some r → errAt l i r = 0
end Go.Proofs.YtmlmogllgnfklaaGreatDoor

/-
  Package rule: Check at any rule.
-/
namespace Go.Proofs.YtmlmogllgnfklaaGreatDoor
open Go Go.RowKit Go.Kf Go.Sort Go.Proofs

/-- The errors of rules and graphs lie at S. -/
structure KErr (w : World) (S : Nat → Addr) : Prop where
  bound : w.cell? ⟨2, 0, none⟩ = some (errI (S 1))
  shape : w.cell? ⟨5, 0, none⟩ = some (errI (S 2))
  name : w.cell? ⟨6, 0, none⟩ = some (errI (S 3))
  kind : w.cell? ⟨7, 0, none⟩ = some (errI (S 4))
  exist : w.cell? ⟨3, 0, none⟩ = some (errI (S 6))
  cycle : w.cell? ⟨1, 0, none⟩ = some (errI (S 8))
  long : w.cell? ⟨9, 0, none⟩ = some (errI (S 9))
theorem KErr.below {B : Nat} {w w' : World} {S : Nat → Addr} (h : KErr w S) (hb : Below B w w') (hB : w.heap.size ≤ B) : KErr w' S :=
  have keep : ∀ {p : Addr} {v : Value}, w.cell? p = some v → w'.cell? p = some v := fun hc => (hb.cell (by have := lt_of_cell hc; omega)).trans hc
  ⟨keep h.bound, keep h.shape, keep h.name, keep h.kind, keep h.exist, keep h.cycle, keep h.long⟩
theorem KErr.p {w : World} {S : Nat → Addr} (h : KErr w S) : PErr1 w S := ⟨h.name⟩
/-- ErrNone lies at S. -/
def LErr (w : World) (S : Nat → Addr) : Prop := w.cell? ⟨0, 0, none⟩ = some (errI (S 5))
theorem LErr.below {B : Nat} {w w' : World} {S : Nat → Addr} (h : LErr w S) (hb : Below B w w') (hB : w.heap.size ≤ B) : LErr w' S :=
  (hb.cell (by have := lt_of_cell (show w.cell? _ = _ from h); omega)).trans h
theorem KErr.a {w : World} {S : Nat → Addr} (h : KErr w S) : AErr w S := ⟨h.shape, h.kind, h.long⟩

/-- path.Check, by the error's number. -/
theorem pcheck_any (s : List UInt8) (w : World) (S : Nat → Addr) (hm : Ml w) (hE : KErr w S) (hs : s.length ≤ 1000000) :
    Calls Tryz.prog 62 #[str s] w fun e w' => e = .returned (errN S (if isPathB s = true then 0 else 4)) ∧ Below w.heap.size w w' := by
  have K := check_any s w S hm hE.p hs
  have e : checkV S s = errN S (if isPathB s = true then 0 else 4) := by
    unfold checkV isPathB errN
    by_cases h : partsL s false = []
    · rw [if_pos h, h]
      rfl
    · rw [if_neg h]
      have : (partsL s false).isEmpty = false := by
        cases hq : partsL s false with
        | nil => exact absurd hq h
        | cons a b => rfl
      rw [this]
      rfl
  rw [e] at K
  exact K

theorem containsS_any (x : List UInt8) (l : List (List UInt8)) (a : Option Addr) (n c : Nat) (w : World) (hr : Reads w (.slice a n c) (l.map str)) :
    Calls Tryz.prog 64 #[.slice a n c, str x] w fun e w' => e = .returned (.bool (decide (x ∈ l))) ∧ w' = w := by
  obtain ⟨a', c', e, hle, hc⟩ := hr
  cases e
  cases l with
  | nil =>
    refine (Tryz.slices_Contains_string_empty a c ⟨x.toArray⟩ w).mono ?_
    rintro e w' ⟨rfl, rfl⟩
    exact ⟨by simp, rfl⟩
  | cons y r =>
    obtain ⟨b, o, rfl, hc0⟩ := hc 0 (str y) rfl
    have K := Tryz.slices_Contains_string b o ((y :: r).map str).length c ((y :: r).map fun s => (⟨s.toArray⟩ : ByteArray)) ⟨x.toArray⟩ w (by rw [List.length_map, List.length_map]; exact Nat.le_refl _) hle (fun j hj => by
      rw [List.length_map] at hj
      obtain ⟨b', o', e, hcj⟩ := hc j (str (y :: r)[j]) (by rw [List.getElem?_map, List.getElem?_eq_getElem hj]; rfl)
      cases e
      rw [hcj, List.getD_eq_getElem?_getD, List.getElem?_map, List.getElem?_eq_getElem hj]
      rfl)
    refine K.mono ?_
    rintro e w' ⟨rfl, rfl⟩
    refine ⟨?_, rfl⟩
    have hb : Lib.containsS (((y :: r).map fun s => (⟨s.toArray⟩ : ByteArray)).take ((y :: r).map str).length) ⟨x.toArray⟩ = decide (x ∈ y :: r) := by
      rw [Bool.eq_iff_iff, Lib.containsS_iff, decide_eq_true_eq, List.length_map, List.take_of_length_le (by rw [List.length_map]; exact Nat.le_refl _), List.mem_map]
      constructor
      · rintro ⟨z, hz, he⟩
        have : z = x := by
          have h1 := congrArg (fun q : ByteArray => q.data.toList) he
          simpa using h1
        exact this ▸ hz
      · exact fun h => ⟨x, h, rfl⟩
    rw [hb]

/-! ### what is wrong with a rule -/
theorem ruleErr_out {r : RuleL} (h : isPathB r.out = false) : ruleErr r = 4 := if_pos h
theorem ruleErr_act {r : RuleL} (h : isPathB r.out = true) {c : Nat} (hc : actErr r.kind r.word r.ins.length = c + 1) : ruleErr r = c + 1 := by
  unfold ruleErr
  rw [if_neg (by rw [h]; decide), if_pos (by omega), hc]
theorem ruleErr_in {r : RuleL} (h : isPathB r.out = true) (hc : actErr r.kind r.word r.ins.length = 0) {s : List UInt8} (hs : s ∈ r.ins) (hb : isPathB s = false) : ruleErr r = 4 := by
  unfold ruleErr
  rw [if_neg (by rw [h]; decide), if_neg (by omega), if_pos]
  cases hq : r.ins.all isPathB with
  | false => rfl
  | true =>
    have := List.all_eq_true.1 hq s hs
    rw [hb] at this
    cases this
theorem ruleErr_dup {r : RuleL} (h : isPathB r.out = true) (hc : actErr r.kind r.word r.ins.length = 0) (ha : ∀ s ∈ r.ins, isPathB s = true) {i : Nat} (hi : i < r.ins.length) (hd : r.ins[i] = r.out ∨ r.ins[i] ∈ r.ins.take i) : ruleErr r = 7 := by
  unfold ruleErr
  have hall : r.ins.all isPathB = true := List.all_eq_true.2 ha
  have hdup : dupB r = true := by
    unfold dupB
    refine List.any_eq_true.2 ⟨i, List.mem_range.2 hi, ?_⟩
    rw [List.getD_eq_getElem?_getD, List.getElem?_eq_getElem hi]
    rcases hd with hd | hd
    · simp [hd]
    · simp [hd]
  rw [if_neg (by rw [h]; decide), if_neg (by omega), if_neg (by rw [hall]; decide), if_pos hdup]
theorem ruleErr_ok {r : RuleL} (h : isPathB r.out = true) (hc : actErr r.kind r.word r.ins.length = 0) (ha : ∀ s ∈ r.ins, isPathB s = true) (hd : ∀ i (hi : i < r.ins.length), r.ins[i] ≠ r.out ∧ r.ins[i] ∉ r.ins.take i) : ruleErr r = 0 := by
  unfold ruleErr
  have hall : r.ins.all isPathB = true := List.all_eq_true.2 ha
  have hdup : dupB r = false := by
    cases hq : dupB r with
    | false => rfl
    | true =>
      unfold dupB at hq
      obtain ⟨i, hi, hb⟩ := List.any_eq_true.1 hq
      have hi' := List.mem_range.1 hi
      rw [List.getD_eq_getElem?_getD, List.getElem?_eq_getElem hi'] at hb
      obtain ⟨h1, h2⟩ := hd i hi'
      simp [h1, h2] at hb
  rw [if_neg (by rw [h]; decide), if_neg (by omega), if_neg (by rw [hall]; decide), if_neg (by rw [hdup]; decide)]

set_option maxRecDepth 100000 in
set_option maxHeartbeats 2000000 in
theorem rcheck_any (r : RuleL) (v : Value) (w : World) (S : Nat → Addr) (hr : Reads w v (r.ins.map str)) (hcap : Roomy v) (hm : Ml w) (hE : KErr w S) (hN : NErr w) (ht : Tab w) (hlo : r.out.length ≤ 1000000) (hlw : r.word.length ≤ 100000) (hli : ∀ s ∈ r.ins, s.length ≤ 1000000) (hn : r.ins.length ≤ 1000) :
    Calls Tryz.prog 26 #[.agg #[str r.out, str r.kind, str r.word, v]] w fun e w' => e = .returned (errN S (ruleErr r)) ∧ Below w.heap.size w w' := by
  obtain ⟨out, kind, word, ins⟩ := r
  simp only at hr hlo hlw hli hn
  obtain ⟨a, c, hv, -, -⟩ := id hr
  rw [List.length_map] at hv
  subst hv
  have hnc := hcap _ _ _ rfl
  obtain ⟨W0, hW0⟩ : ∃ W, w.alloc (.cells #[str out, str kind, str word, .slice a ins.length c] 27) = W := ⟨_, rfl⟩
  have hA : Below w.heap.size w W0 := hW0 ▸ (Below.refl _ w).alloc (Nat.le_refl _) _
  have hcl : ∀ k, W0.cell? ⟨w.heap.size, k, none⟩ = (#[str out, str kind, str word, .slice a ins.length c] : Array Value)[k]? := fun k => by
    rw [← hW0, cell_of_heap (heap_alloc_here w _)]
  have hlt0 : w.heap.size < W0.heap.size := by rw [← hW0]; simp
  have keep : ∀ (w1 : World), Below W0.heap.size W0 w1 → w1.cell? ⟨w.heap.size, 0, none⟩ = some (str out) ∧ w1.cell? ⟨w.heap.size, 1, none⟩ = some (str kind) ∧ w1.cell? ⟨w.heap.size, 2, none⟩ = some (str word) ∧ w1.cell? ⟨w.heap.size, 3, none⟩ = some (.slice a ins.length c) := fun w1 hb =>
    ⟨(hb.cell (p := ⟨w.heap.size, 0, none⟩) hlt0).trans (hcl 0), (hb.cell (p := ⟨w.heap.size, 1, none⟩) hlt0).trans (hcl 1), (hb.cell (p := ⟨w.heap.size, 2, none⟩) hlt0).trans (hcl 2), (hb.cell (p := ⟨w.heap.size, 3, none⟩) hlt0).trans (hcl 3)⟩
  have KEEP := Lib.hid keep
  obtain ⟨hk0, hk1, hk2, hk3⟩ := keep W0 (Below.refl _ _)
  have HR := Lib.hid (hr.below0 hA)
  have HA := Lib.hid hA
  have HM := Lib.hid (hm.below hA (Nat.le_refl _))
  have HE := Lib.hid (hE.below hA (Nat.le_refl _))
  have HN := Lib.hid (hN.below hA (Nat.le_refl _))
  have HT := Lib.hid (tab_below ht hA (Nat.le_refl _))
  have HLI := Lib.hid hli
  have KP := Lib.hid (fun s w1 (hs : s.length ≤ 1000000) (hb : Below W0.heap.size W0 w1) => pcheck_any s w1 S (HM.out.below hb (Nat.le_refl _)) (HE.out.below hb (Nat.le_refl _)) hs)
  have K1 := KP.out out W0 hlo (Below.refl _ _)
  clear hr hm hE hN ht hA hcl keep hli hcap
  cases hpo : isPathB out with
  | false =>
    have HF : Hid (ruleErr ⟨out, kind, word, ins⟩ = 4) := Lib.hid (ruleErr_out hpo)
    rw [hpo] at K1
    have K2 : Hid (Calls Tryz.prog 62 #[str out] W0 fun e w' => e = .returned (errI (S 3)) ∧ Below W0.heap.size W0 w') := Lib.hid K1
    clear K1 hpo
    go_enter Tryz.func26, Tryz.ntmps26
    go_wp2_with fail
    refine K2.out.mono ?_
    rintro e w1 ⟨rfl, hb1⟩
    have HB1 := Lib.hid (HA.out.trans (hb1.mono HA.out.size))
    clear hb1 hk0 hk1 hk2 hk3
    go_wp2
    go_ret
    exact ⟨by rw [HF.out]; rfl, HB1.out⟩
  | true =>
    rw [hpo] at K1
    have K2 : Hid (Calls Tryz.prog 62 #[str out] W0 fun e w' => e = .returned .nilIface ∧ Below W0.heap.size W0 w') := Lib.hid K1
    have HPO := Lib.hid hpo
    clear K1 hpo
    have KA := Lib.hid (fun w1 (hb : Below W0.heap.size W0 w1) => acheck_any kind word ins.length w1 S (HE.out.below hb (Nat.le_refl _)).a (HN.out.below hb (Nat.le_refl _)) (tab_below HT.out hb (Nat.le_refl _)) hlw)
    cases hac : actErr kind word ins.length with
    | succ m =>
      rw [hac] at KA
      have HF : Hid (ruleErr ⟨out, kind, word, ins⟩ = m + 1) := Lib.hid (ruleErr_act HPO.out hac)
      have KA1 : Hid (∀ w1, Below W0.heap.size W0 w1 → Calls Tryz.prog 63 #[str kind, str word, .int .i64 (ins.length : Int)] w1 fun e w' => e = .returned (errI (S m)) ∧ Below w1.heap.size w1 w') := Lib.hid KA.out
      clear KA hac
      go_enter Tryz.func26, Tryz.ntmps26
      go_wp2_with fail
      refine K2.out.mono ?_
      rintro e w1 ⟨rfl, hb1⟩
      clear hk0 hk1 hk2 hk3
      obtain ⟨hk0, hk1, hk2, hk3⟩ := KEEP.out _ hb1
      have HB1 := Lib.hid hb1
      clear hb1
      go_wp2_with fail
      refine (KA1.out w1 HB1.out).mono ?_
      rintro e w2 ⟨rfl, hb2⟩
      have HB2 := Lib.hid (HA.out.trans ((HB1.out.trans (hb2.mono HB1.out.size)).mono HA.out.size))
      clear hb2 hk0 hk1 hk2 hk3
      go_wp2
      go_ret
      exact ⟨by rw [HF.out]; rfl, HB2.out⟩
    | zero =>
      rw [hac] at KA
      have HAC := Lib.hid hac
      have KA1 : Hid (∀ w1, Below W0.heap.size W0 w1 → Calls Tryz.prog 63 #[str kind, str word, .int .i64 (ins.length : Int)] w1 fun e w' => e = .returned .nilIface ∧ Below w1.heap.size w1 w') := Lib.hid KA.out
      clear KA hac
      go_enter Tryz.func26, Tryz.ntmps26
      go_wp2_with fail
      refine K2.out.mono ?_
      rintro e w1 ⟨rfl, hb1⟩
      clear hk0 hk1 hk2 hk3
      obtain ⟨hk0, hk1, hk2, hk3⟩ := KEEP.out _ hb1
      have HB1 := Lib.hid hb1
      clear hb1
      go_wp2_with fail
      refine (KA1.out w1 HB1.out).mono ?_
      rintro e w2 ⟨rfl, hb2⟩
      have hb02 := HB1.out.trans (hb2.mono HB1.out.size)
      have HB2 := Lib.hid hb02
      clear hb2 hk0 hk1 hk2 hk3
      obtain ⟨hk0, hk1, hk2, hk3⟩ := KEEP.out _ hb02
      clear hb02
      go_wp2_with fail
      go_loopw [30] (fun iv wl => ∃ i : Nat, i ≤ ins.length ∧ iv = .int .i64 i ∧ (∀ s ∈ ins.take i, isPathB s = true) ∧ Below W0.heap.size W0 wl) (fun iv _ => ins.length - (intOf iv).toNat)
      case atStart => exact ⟨0, by omega, rfl, fun s hs => by simp at hs, HB2.out⟩
      case round =>
        obtain ⟨i, hi, rfl, hall, hbi⟩ := hrel
        have HAL := Lib.hid hall
        have HBi := Lib.hid hbi
        clear hall hk0 hk1 hk2 hk3
        obtain ⟨hk0, hk1, hk2, hk3⟩ := KEEP.out _ hbi
        clear hbi
        by_cases hlt : i < ins.length
        · have hlc : ((i : Int) < (ins.length : Int)) = True := eq_true (by omega)
          obtain ⟨b, o, hix, hce⟩ := (HR.out.below0 HBi.out).at (P := Tryz.prog) Tryz.underlying25 (by kernel_rfl) i (by simpa using hlt)
          simp only [List.getElem_map] at hce
          have hsl := HLI.out ins[i] (List.getElem_mem _)
          have KPi := KP.out ins[i] _ hsl HBi.out
          cases hps : isPathB ins[i] with
          | false =>
            rw [hps] at KPi
            have HF : Hid (ruleErr ⟨out, kind, word, ins⟩ = 4) := Lib.hid (ruleErr_in HPO.out HAC.out (List.getElem_mem hlt) hps)
            generalize ins[i] = s at *
            have KP2 : Hid (Calls Tryz.prog 62 #[str s] wr fun e w' => e = .returned (errI (S 3)) ∧ Below wr.heap.size wr w') := Lib.hid KPi
            clear KPi hps
            go_wp2_with fail
            refine KP2.out.mono ?_
            rintro e w3 ⟨rfl, hb3⟩
            have HB3 := Lib.hid (HA.out.trans ((HBi.out.trans (hb3.mono HBi.out.size)).mono HA.out.size))
            clear hb3 hk0 hk1 hk2 hk3
            go_wp2
            go_ret
            exact ⟨by rw [HF.out]; rfl, HB3.out⟩
          | true =>
            rw [hps] at KPi
            have HAN : Hid (∀ s ∈ ins.take (i + 1), isPathB s = true) := Lib.hid (fun s hs => by
              rw [List.take_succ_eq_append_getElem hlt] at hs
              rcases List.mem_append.1 hs with hs | hs
              · exact HAL.out s hs
              · rw [List.mem_singleton.1 hs]; exact hps)
            generalize ins[i] = s at *
            have KP2 : Hid (Calls Tryz.prog 62 #[str s] wr fun e w' => e = .returned .nilIface ∧ Below wr.heap.size wr w') := Lib.hid KPi
            clear KPi hps
            go_wp2_with fail
            refine KP2.out.mono ?_
            rintro e w3 ⟨rfl, hb3⟩
            have HB3 := Lib.hid (HBi.out.trans (hb3.mono HBi.out.size))
            clear hb3 hk0 hk1 hk2 hk3
            go_wp2
            go_roundw
            case rel => exact ⟨i + 1, by omega, by go_num, HAN.out, HB3.out⟩
            case measure => simp [intOf]; omega
        · obtain rfl : i = ins.length := by omega
          have hlc : ((ins.length : Int) < (ins.length : Int)) = False := eq_false (by omega)
          have HALL : Hid (∀ s ∈ ins, isPathB s = true) := Lib.hid (by have := HAL.out; rw [List.take_length] at this; exact this)
          go_wp2_with fail
          go_loopw [43] (fun iv wl => ∃ i : Nat, i ≤ ins.length ∧ iv = .int .i64 i ∧ (∀ j (hj : j < ins.length), j < i → ins[j] ≠ out ∧ ins[j] ∉ ins.take j) ∧ Below W0.heap.size W0 wl) (fun iv _ => ins.length - (intOf iv).toNat)
          case atStart => exact ⟨0, by omega, rfl, fun j hj h => by omega, HBi.out⟩
          case round =>
            obtain ⟨i, hi, rfl, hno, hbk⟩ := hrel
            have HNO := Lib.hid hno
            have HBk := Lib.hid hbk
            clear hno hk0 hk1 hk2 hk3
            obtain ⟨hk0, hk1, hk2, hk3⟩ := KEEP.out _ hbk
            clear hbk
            by_cases hlt : i < ins.length
            · have hlc2 : ((i : Int) < (ins.length : Int)) = True := eq_true (by omega)
              have hrd := HR.out.below0 HBk.out
              obtain ⟨b, o, hix, hce⟩ := hrd.at (P := Tryz.prog) Tryz.underlying25 (by kernel_rfl) i (by simpa using hlt)
              simp only [List.getElem_map] at hce
              by_cases hout : ins[i] = out
              · have HF : Hid (ruleErr ⟨out, kind, word, ins⟩ = 7) := Lib.hid (ruleErr_dup HPO.out HAC.out HALL.out hlt (Or.inl hout))
                rw [hout] at hce
                have hce2 := (HE.out.below HBk.out (Nat.le_refl _)).exist
                clear hout hrd
                go_wp2
                go_ret
                exact ⟨by rw [HF.out]; rfl, HA.out.trans (HBk.out.mono HA.out.size)⟩
              · have hd : (ins[i] == out) = false := by simpa using hout
                have htk : Reads wr (.slice a i c) ((ins.take i).map str) := by
                  obtain ⟨a', c', e, hle, hc⟩ := hrd
                  rw [List.length_map] at e
                  cases e
                  refine ⟨a, c, by rw [List.length_map, List.length_take, Nat.min_eq_left (by omega)], by rw [List.length_map, List.length_take]; omega, fun j u hj => hc j u ?_⟩
                  rw [List.getElem?_map] at hj ⊢
                  rw [List.getElem?_take] at hj
                  split at hj
                  · exact hj
                  · cases hj
                have KC := containsS_any ins[i] (ins.take i) a i c wr htk
                have hki : (i ≤ c) = True := eq_true (by omega)
                have hki2 : ((i : Int) ≤ (c : Int)) = True := eq_true (by omega)
                obtain ⟨b0, o0, rfl⟩ : ∃ b0 o0, a = some ⟨b0, o0, none⟩ := by
                  obtain ⟨a', c', e, -, hc⟩ := hrd
                  rw [List.length_map] at e
                  cases e
                  obtain ⟨b0, o0, e, -⟩ := hc i (str ins[i]) (by rw [List.getElem?_map, List.getElem?_eq_getElem hlt]; rfl)
                  exact ⟨b0, o0, e⟩
                have hce2 := (HE.out.below HBk.out (Nat.le_refl _)).exist
                by_cases hin : ins[i] ∈ ins.take i
                · have HF : Hid (ruleErr ⟨out, kind, word, ins⟩ = 7) := Lib.hid (ruleErr_dup HPO.out HAC.out HALL.out hlt (Or.inr hin))
                  rw [decide_eq_true hin] at KC
                  have KC1 := Lib.hid KC
                  clear KC htk hrd hin hout
                  generalize ins[i] = s at *
                  go_wp2_with fail
                  refine KC1.out.mono ?_
                  rintro e w3 ⟨rfl, rfl⟩
                  go_wp2
                  go_ret
                  exact ⟨by rw [HF.out]; rfl, HA.out.trans (HBk.out.mono HA.out.size)⟩
                · have HNN : Hid (∀ j (hj : j < ins.length), j < i + 1 → ins[j] ≠ out ∧ ins[j] ∉ ins.take j) := Lib.hid (fun j hj h => by
                    by_cases hji : j = i
                    · subst hji; exact ⟨hout, hin⟩
                    · exact HNO.out j hj (by omega))
                  rw [decide_eq_false hin] at KC
                  have KC1 := Lib.hid KC
                  clear KC htk hrd hin hout
                  generalize ins[i] = s at *
                  go_wp2_with fail
                  refine KC1.out.mono ?_
                  rintro e w3 ⟨rfl, rfl⟩
                  go_wp2
                  go_roundw
                  case rel => exact ⟨i + 1, by omega, by go_num, HNN.out, HBk.out⟩
                  case measure => simp [intOf]; omega
            · obtain rfl : i = ins.length := by omega
              have hlc2 : ((ins.length : Int) < (ins.length : Int)) = False := eq_false (by omega)
              have HF : Hid (ruleErr ⟨out, kind, word, ins⟩ = 0) := Lib.hid (ruleErr_ok HPO.out HAC.out HALL.out (fun j hj => HNO.out j hj hj))
              go_wp2
              go_ret
              exact ⟨by rw [HF.out]; rfl, HA.out.trans (HBk.out.mono HA.out.size)⟩
end Go.Proofs.YtmlmogllgnfklaaGreatDoor
