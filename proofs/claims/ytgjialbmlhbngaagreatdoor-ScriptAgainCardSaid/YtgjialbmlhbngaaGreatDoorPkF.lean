/-
  The walks of the reference: partsOf, IsPath. Rules in plain words: what is wrong with a rule, with a sheet. Slices of rules; slices.IndexFunc and slices.ContainsFunc on them.
-/
import Derived.Test.YtgjialbmlhbngaaGreatDoorPkC
import Derived.Test.YtgjialbmlhbngaaGreatDoorPkE

set_option maxRecDepth 100000
namespace Go.Proofs.YtgjialbmlhbngaaGreatDoor
open Go Go.RowKit Go.Kf
def RefParts (s : List UInt8) (stars : Bool) (w : World) (e : Ending) (w' : World) : Prop :=
  ∃ v, e = .returned v ∧ (∃ a n c, v = .slice a n c) ∧ Reads w' v ((partsL s stars).map str) ∧ Below w.heap.size w w'
set_option maxHeartbeats 1000000 in
theorem partsOf_any (s : List UInt8) (stars : Bool) (w : World) (hs : s.length ≤ 1000000) : Calls Tryz.prog 171 #[str s, .bool stars] w (RefParts s stars w) := by
  have hlen := spl_length_le 47 s
  have nilR : ∀ w' : World, Reads w' (.slice none 0 0) (([] : List (List UInt8)).map str) := fun w' => ⟨none, 0, rfl, by simp, fun i u hi => by simp at hi⟩
  have NR := Hd nilR
  clear nilR
  by_cases h5 : (spl 47 s).length ≤ 5
  · go_enter Tryz.func171, Tryz.ntmps171
    go_wp2_with fail
    refine (cut_any s 47 w hs).mono ?_
    rintro e w1 ⟨v, rfl, hown, hb1⟩
    have hrd := ownsRow_reads hown
    obtain ⟨a, cap, rfl, -, -⟩ := id hrd
    have HR := Hd hrd
    clear hrd hown
    rw [List.length_map] at HR
    have hll : (((spl 47 s).map str).length) = (spl 47 s).length := List.length_map _
    rw [hll]
    clear hll
    go_wp2_with fail
    go_loop [6] (fun i => ∃ k : Nat, k ≤ (spl 47 s).length ∧ namesB stars ((spl 47 s).take k) = true ∧ i = .int .i64 k) (fun i => (spl 47 s).length - (intOf i).toNat)
    case atStart => exact ⟨0, by omega, by simp [namesB], rfl⟩
    case round =>
      obtain ⟨k, hk, hok, rfl⟩ := hrel
      have HK := Hd hok
      clear hok
      by_cases hlt : k < (spl 47 s).length
      · obtain ⟨b, o, hix, hce⟩ := HR.out.at (P := Tryz.prog) Tryz.underlying33 (by kernel_rfl) k (by simpa using hlt)
        simp only [List.getElem_map] at hce
        have HC := Hd (show (spl 47 s).take (k + 1) = (spl 47 s).take k ++ [(spl 47 s)[k]] from List.take_succ_eq_append_getElem hlt)
        have HM := Hd (List.getElem_mem hlt)
        obtain ⟨x, hx⟩ : ∃ x, (spl 47 s)[k] = x := ⟨_, rfl⟩
        rw [hx] at hce HC HM
        clear hx
        cases hn : nameB x stars with
        | true =>
          have hcall := isName_any x stars w1
          rw [hn] at hcall
          have HL := Hd hcall
          have HNN := Hd hn
          clear hcall hn
          go_wp2_with (go_at_call 241; refine HL.out.mono ?_; rintro e w' ⟨rfl, rfl⟩)
          go_round
          case rel => exact ⟨k + 1, by omega, namesB_take HC.out HK.out HNN.out, by go_num⟩
          case measure => simp [intOf]; omega
        | false =>
          have hcall := isName_any x stars w1
          rw [hn] at hcall
          have HL := Hd hcall
          have HNN := Hd hn
          clear hcall hn
          go_wp2_with (go_at_call 241; refine HL.out.mono ?_; rintro e w' ⟨rfl, rfl⟩)
          go_ret
          have hpl : partsL s stars = [] := by unfold partsL; rw [if_neg (fun h => by rw [namesB_not HM.out HNN.out] at h; cases h.2)]
          exact ⟨_, rfl, ⟨_, _, _, rfl⟩, by rw [hpl]; exact NR.out _, hb1⟩
      · obtain rfl : k = (spl 47 s).length := by omega
        rw [List.take_length] at HK
        go_wp2
        go_ret
        have hpl : partsL s stars = spl 47 s := by unfold partsL; rw [if_pos ⟨h5, HK.out⟩]
        exact ⟨_, rfl, ⟨_, _, _, rfl⟩, by rw [hpl]; exact HR.out, hb1⟩
  · have hpl : partsL s stars = [] := by unfold partsL; rw [if_neg (fun h => h5 h.1)]
    have HPL := Hd hpl
    clear hpl
    go_enter Tryz.func171, Tryz.ntmps171
    go_wp2_with fail
    refine (cut_any s 47 w hs).mono ?_
    rintro e w1 ⟨v, rfl, hown, hb1⟩
    have hrd := ownsRow_reads hown
    obtain ⟨a, cap, rfl, -, -⟩ := id hrd
    clear hrd hown
    have hll : (((spl 47 s).map str).length) = (spl 47 s).length := List.length_map _
    rw [hll]
    clear hll
    go_wp2
    go_ret
    exact ⟨_, rfl, ⟨_, _, _, rfl⟩, by rw [HPL.out]; exact NR.out _, hb1⟩
def isPathB (s : List UInt8) : Bool := !(partsL s false).isEmpty
theorem isPath_any (s : List UInt8) (w : World) (hs : s.length ≤ 1000000) : Calls Tryz.prog 111 #[str s] w fun e w' => e = .returned (.bool (isPathB s)) ∧ Below w.heap.size w w' := by
  have H := Hd (partsOf_any s false w hs)
  unfold isPathB
  go_enter Tryz.func111, Tryz.ntmps111
  go_wp2_with fail
  refine H.out.mono ?_
  rintro e w1 ⟨v, rfl, ⟨a, n, c, rfl⟩, hr, hb⟩
  obtain rfl := hr.len
  clear hr
  have hll : (((partsL s false).map str).length) = (partsL s false).length := List.length_map _
  rw [hll]
  clear hll
  go_wp2
  go_ret
  refine ⟨congrArg (fun b => Ending.returned (Value.bool b)) ?_, hb⟩
  cases partsL s false with
  | nil => rfl
  | cons x l => simp
open Go.Sort Go.Proofs
structure RuleL where
  out : List UInt8
  kind : List UInt8
  word : List UInt8
  ins : List (List UInt8)
def dupB (r : RuleL) : Bool := (List.range r.ins.length).any fun i => decide (r.ins.getD i [] = r.out) || decide (r.ins.getD i [] ∈ r.ins.take i)
def ruleErr (r : RuleL) : Nat :=
  if isPathB r.out = false then 4
  else if actErr r.kind r.word r.ins.length ≠ 0 then actErr r.kind r.word r.ins.length
  else if (r.ins.all isPathB) = false then 4
  else if dupB r = true then 7 else 0
def errAt (l : List RuleL) (i : Nat) (r : RuleL) : Nat := if ruleErr r ≠ 0 then ruleErr r else if r.out ∈ (l.take i).map RuleL.out then 7 else 0
structure KErr (w : World) (S : Nat → Addr) : Prop where
  bound : w.cell? ⟨1, 0, none⟩ = some (errI (S 1))
  shape : w.cell? ⟨4, 0, none⟩ = some (errI (S 2))
  name : w.cell? ⟨8, 0, none⟩ = some (errI (S 3))
  kind : w.cell? ⟨10, 0, none⟩ = some (errI (S 4))
  exist : w.cell? ⟨2, 0, none⟩ = some (errI (S 6))
  cycle : w.cell? ⟨7, 0, none⟩ = some (errI (S 8))
  long : w.cell? ⟨11, 0, none⟩ = some (errI (S 9))
theorem KErr.below {B : Nat} {w w' : World} {S : Nat → Addr} (h : KErr w S) (hb : Below B w w') (hB : w.heap.size ≤ B) : KErr w' S :=
  have keep : ∀ {p : Addr} {v : Value}, w.cell? p = some v → w'.cell? p = some v := fun hc => (hb.cell (by have := lt_of_cell hc; omega)).trans hc
  ⟨keep h.bound, keep h.shape, keep h.name, keep h.kind, keep h.exist, keep h.cycle, keep h.long⟩
theorem KErr.p {w : World} {S : Nat → Addr} (h : KErr w S) : PErr1 w S := ⟨h.name⟩
def LErr (w : World) (S : Nat → Addr) : Prop := w.cell? ⟨0, 0, none⟩ = some (errI (S 5))
theorem LErr.below {B : Nat} {w w' : World} {S : Nat → Addr} (h : LErr w S) (hb : Below B w w') (hB : w.heap.size ≤ B) : LErr w' S :=
  (hb.cell (by have := lt_of_cell (show w.cell? _ = _ from h); omega)).trans h
theorem KErr.a {w : World} {S : Nat → Addr} (h : KErr w S) : AErr w S := ⟨h.shape, h.kind, h.long⟩
theorem pcheck_any (s : List UInt8) (w : World) (S : Nat → Addr) (hm : Ml w) (hE : KErr w S) (hs : s.length ≤ 1000000) :
    Calls Tryz.prog 70 #[str s] w fun e w' => e = .returned (errN S (if isPathB s = true then 0 else 4)) ∧ Below w.heap.size w w' := by
  have K := check_any s w S hm hE.p hs
  have e : checkV S s = errN S (if isPathB s = true then 0 else 4) := by
    unfold checkV isPathB errN
    by_cases h : partsL s false = []
    · rw [if_pos h, h]
      rfl
    · rw [if_neg h]
      have : (partsL s false).isEmpty = false := by
        cases hq : partsL s false with
        | nil => exact absurd hq h
        | cons a b => rfl
      rw [this]
      rfl
  rw [e] at K
  exact K
theorem containsS_any (x : List UInt8) (l : List (List UInt8)) (a : Option Addr) (n c : Nat) (w : World) (hr : Reads w (.slice a n c) (l.map str)) :
    Calls Tryz.prog 251 #[.slice a n c, str x] w fun e w' => e = .returned (.bool (decide (x ∈ l))) ∧ w' = w := by
  obtain ⟨a', c', e, hle, hc⟩ := hr
  cases e
  cases l with
  | nil =>
    refine (Tryz.slices_Contains_string_empty a c ⟨x.toArray⟩ w).mono ?_
    rintro e w' ⟨rfl, rfl⟩
    exact ⟨by simp, rfl⟩
  | cons y r =>
    obtain ⟨b, o, rfl, hc0⟩ := hc 0 (str y) rfl
    have K := Tryz.slices_Contains_string b o ((y :: r).map str).length c ((y :: r).map fun s => (⟨s.toArray⟩ : ByteArray)) ⟨x.toArray⟩ w (by rw [List.length_map, List.length_map]; exact Nat.le_refl _) hle (fun j hj => by
      rw [List.length_map] at hj
      obtain ⟨b', o', e, hcj⟩ := hc j (str (y :: r)[j]) (by rw [List.getElem?_map, List.getElem?_eq_getElem hj]; rfl)
      cases e
      rw [hcj, List.getD_eq_getElem?_getD, List.getElem?_map, List.getElem?_eq_getElem hj]
      rfl)
    refine K.mono ?_
    rintro e w' ⟨rfl, rfl⟩
    refine ⟨?_, rfl⟩
    have hb : Lib.containsS (((y :: r).map fun s => (⟨s.toArray⟩ : ByteArray)).take ((y :: r).map str).length) ⟨x.toArray⟩ = decide (x ∈ y :: r) := by
      rw [Bool.eq_iff_iff, Lib.containsS_iff, decide_eq_true_eq, List.length_map, List.take_of_length_le (by rw [List.length_map]; exact Nat.le_refl _), List.mem_map]
      constructor
      · rintro ⟨z, hz, he⟩
        have : z = x := by
          have h1 := congrArg (fun q : ByteArray => q.data.toList) he
          simpa using h1
        exact this ▸ hz
      · exact fun h => ⟨x, h, rfl⟩
    rw [hb]
theorem ruleErr_out {r : RuleL} (h : isPathB r.out = false) : ruleErr r = 4 := if_pos h
theorem ruleErr_act {r : RuleL} (h : isPathB r.out = true) {c : Nat} (hc : actErr r.kind r.word r.ins.length = c + 1) : ruleErr r = c + 1 := by
  unfold ruleErr
  rw [if_neg (by rw [h]; decide), if_pos (by omega), hc]
theorem ruleErr_in {r : RuleL} (h : isPathB r.out = true) (hc : actErr r.kind r.word r.ins.length = 0) {s : List UInt8} (hs : s ∈ r.ins) (hb : isPathB s = false) : ruleErr r = 4 := by
  unfold ruleErr
  rw [if_neg (by rw [h]; decide), if_neg (by omega), if_pos]
  cases hq : r.ins.all isPathB with
  | false => rfl
  | true =>
    have := List.all_eq_true.1 hq s hs
    rw [hb] at this
    cases this
theorem ruleErr_dup {r : RuleL} (h : isPathB r.out = true) (hc : actErr r.kind r.word r.ins.length = 0) (ha : ∀ s ∈ r.ins, isPathB s = true) {i : Nat} (hi : i < r.ins.length) (hd : r.ins[i] = r.out ∨ r.ins[i] ∈ r.ins.take i) : ruleErr r = 7 := by
  unfold ruleErr
  have hall : r.ins.all isPathB = true := List.all_eq_true.2 ha
  have hdup : dupB r = true := by
    unfold dupB
    refine List.any_eq_true.2 ⟨i, List.mem_range.2 hi, ?_⟩
    rw [List.getD_eq_getElem?_getD, List.getElem?_eq_getElem hi]
    rcases hd with hd | hd
    · simp [hd]
    · simp [hd]
  rw [if_neg (by rw [h]; decide), if_neg (by omega), if_neg (by rw [hall]; decide), if_pos hdup]
theorem ruleErr_ok {r : RuleL} (h : isPathB r.out = true) (hc : actErr r.kind r.word r.ins.length = 0) (ha : ∀ s ∈ r.ins, isPathB s = true) (hd : ∀ i (hi : i < r.ins.length), r.ins[i] ≠ r.out ∧ r.ins[i] ∉ r.ins.take i) : ruleErr r = 0 := by
  unfold ruleErr
  have hall : r.ins.all isPathB = true := List.all_eq_true.2 ha
  have hdup : dupB r = false := by
    cases hq : dupB r with
    | false => rfl
    | true =>
      unfold dupB at hq
      obtain ⟨i, hi, hb⟩ := List.any_eq_true.1 hq
      have hi' := List.mem_range.1 hi
      rw [List.getD_eq_getElem?_getD, List.getElem?_eq_getElem hi'] at hb
      obtain ⟨h1, h2⟩ := hd i hi'
      simp [h1, h2] at hb
  rw [if_neg (by rw [h]; decide), if_neg (by omega), if_neg (by rw [hall]; decide), if_neg (by rw [hdup]; decide)]
set_option maxHeartbeats 2000000 in
theorem rcheck_any (r : RuleL) (v : Value) (w : World) (S : Nat → Addr) (hr : Reads w v (r.ins.map str)) (hcap : Roomy v) (hm : Ml w) (hE : KErr w S) (hN : NErr w) (ht : Tab w) (hlo : r.out.length ≤ 1000000) (hlw : r.word.length ≤ 100000) (hli : ∀ s ∈ r.ins, s.length ≤ 1000000) (hn : r.ins.length ≤ 1000) :
    Calls Tryz.prog 188 #[.agg #[str r.out, str r.kind, str r.word, v]] w fun e w' => e = .returned (errN S (ruleErr r)) ∧ Below w.heap.size w w' := by
  obtain ⟨out, kind, word, ins⟩ := r
  simp only at hr hlo hlw hli hn
  obtain ⟨a, c, hv, -, -⟩ := id hr
  rw [List.length_map] at hv
  subst hv
  have hnc := hcap _ _ _ rfl
  obtain ⟨W0, hW0⟩ : ∃ W, w.alloc (.cells #[str out, str kind, str word, .slice a ins.length c] 35) = W := ⟨_, rfl⟩
  have hA : Below w.heap.size w W0 := hW0 ▸ (Below.refl _ w).alloc (Nat.le_refl _) _
  have hcl : ∀ k, W0.cell? ⟨w.heap.size, k, none⟩ = (#[str out, str kind, str word, .slice a ins.length c] : Array Value)[k]? := fun k => by
    rw [← hW0, cell_of_heap (heap_alloc_here w _)]
  have hlt0 : w.heap.size < W0.heap.size := by rw [← hW0]; simp
  have keep : ∀ (w1 : World), Below W0.heap.size W0 w1 → w1.cell? ⟨w.heap.size, 0, none⟩ = some (str out) ∧ w1.cell? ⟨w.heap.size, 1, none⟩ = some (str kind) ∧ w1.cell? ⟨w.heap.size, 2, none⟩ = some (str word) ∧ w1.cell? ⟨w.heap.size, 3, none⟩ = some (.slice a ins.length c) := fun w1 hb =>
    ⟨(hb.cell (p := ⟨w.heap.size, 0, none⟩) hlt0).trans (hcl 0), (hb.cell (p := ⟨w.heap.size, 1, none⟩) hlt0).trans (hcl 1), (hb.cell (p := ⟨w.heap.size, 2, none⟩) hlt0).trans (hcl 2), (hb.cell (p := ⟨w.heap.size, 3, none⟩) hlt0).trans (hcl 3)⟩
  have KEEP := Hd keep
  obtain ⟨hk0, hk1, hk2, hk3⟩ := keep W0 (Below.refl _ _)
  have HR := Hd (hr.below0 hA)
  have HA := Hd hA
  have HM := Hd (hm.below hA (Nat.le_refl _))
  have HE := Hd (hE.below hA (Nat.le_refl _))
  have HN := Hd (hN.below hA (Nat.le_refl _))
  have HT := Hd (tab_below ht hA (Nat.le_refl _))
  have HLI := Hd hli
  have KP := Hd (fun s w1 (hs : s.length ≤ 1000000) (hb : Below W0.heap.size W0 w1) => pcheck_any s w1 S (HM.out.below hb (Nat.le_refl _)) (HE.out.below hb (Nat.le_refl _)) hs)
  have K1 := KP.out out W0 hlo (Below.refl _ _)
  clear hr hm hE hN ht hA hcl keep hli hcap
  cases hpo : isPathB out with
  | false =>
    have HF : Hid (ruleErr ⟨out, kind, word, ins⟩ = 4) := Hd (ruleErr_out hpo)
    rw [hpo] at K1
    have K2 : Hid (Calls Tryz.prog 70 #[str out] W0 fun e w' => e = .returned (errI (S 3)) ∧ Below W0.heap.size W0 w') := Hd K1
    clear K1 hpo
    go_enter Tryz.func188, Tryz.ntmps188
    go_wp2_with fail
    refine K2.out.mono ?_
    rintro e w1 ⟨rfl, hb1⟩
    have HB1 := Hd (HA.out.trans (hb1.mono HA.out.size))
    clear hb1 hk0 hk1 hk2 hk3
    go_wp2
    go_ret
    exact ⟨by rw [HF.out]; rfl, HB1.out⟩
  | true =>
    rw [hpo] at K1
    have K2 : Hid (Calls Tryz.prog 70 #[str out] W0 fun e w' => e = .returned .nilIface ∧ Below W0.heap.size W0 w') := Hd K1
    have HPO := Hd hpo
    clear K1 hpo
    have KA := Hd (fun w1 (hb : Below W0.heap.size W0 w1) => acheck_any kind word ins.length w1 S (HE.out.below hb (Nat.le_refl _)).a (HN.out.below hb (Nat.le_refl _)) (tab_below HT.out hb (Nat.le_refl _)) hlw)
    cases hac : actErr kind word ins.length with
    | succ m =>
      rw [hac] at KA
      have HF : Hid (ruleErr ⟨out, kind, word, ins⟩ = m + 1) := Hd (ruleErr_act HPO.out hac)
      have KA1 : Hid (∀ w1, Below W0.heap.size W0 w1 → Calls Tryz.prog 165 #[str kind, str word, .int .i64 (ins.length : Int)] w1 fun e w' => e = .returned (errI (S m)) ∧ Below w1.heap.size w1 w') := Hd KA.out
      clear KA hac
      go_enter Tryz.func188, Tryz.ntmps188
      go_wp2_with fail
      refine K2.out.mono ?_
      rintro e w1 ⟨rfl, hb1⟩
      clear hk0 hk1 hk2 hk3
      obtain ⟨hk0, hk1, hk2, hk3⟩ := KEEP.out _ hb1
      have HB1 := Hd hb1
      clear hb1
      go_wp2_with fail
      refine (KA1.out w1 HB1.out).mono ?_
      rintro e w2 ⟨rfl, hb2⟩
      have HB2 := Hd (HA.out.trans ((HB1.out.trans (hb2.mono HB1.out.size)).mono HA.out.size))
      clear hb2 hk0 hk1 hk2 hk3
      go_wp2
      go_ret
      exact ⟨by rw [HF.out]; rfl, HB2.out⟩
    | zero =>
      rw [hac] at KA
      have HAC := Hd hac
      have KA1 : Hid (∀ w1, Below W0.heap.size W0 w1 → Calls Tryz.prog 165 #[str kind, str word, .int .i64 (ins.length : Int)] w1 fun e w' => e = .returned .nilIface ∧ Below w1.heap.size w1 w') := Hd KA.out
      clear KA hac
      go_enter Tryz.func188, Tryz.ntmps188
      go_wp2_with fail
      refine K2.out.mono ?_
      rintro e w1 ⟨rfl, hb1⟩
      clear hk0 hk1 hk2 hk3
      obtain ⟨hk0, hk1, hk2, hk3⟩ := KEEP.out _ hb1
      have HB1 := Hd hb1
      clear hb1
      go_wp2_with fail
      refine (KA1.out w1 HB1.out).mono ?_
      rintro e w2 ⟨rfl, hb2⟩
      have hb02 := HB1.out.trans (hb2.mono HB1.out.size)
      have HB2 := Hd hb02
      clear hb2 hk0 hk1 hk2 hk3
      obtain ⟨hk0, hk1, hk2, hk3⟩ := KEEP.out _ hb02
      clear hb02
      go_wp2_with fail
      go_loopw [30] (fun iv wl => ∃ i : Nat, i ≤ ins.length ∧ iv = .int .i64 i ∧ (∀ s ∈ ins.take i, isPathB s = true) ∧ Below W0.heap.size W0 wl) (fun iv _ => ins.length - (intOf iv).toNat)
      case atStart => exact ⟨0, by omega, rfl, fun s hs => by simp at hs, HB2.out⟩
      case round =>
        obtain ⟨i, hi, rfl, hall, hbi⟩ := hrel
        have HAL := Hd hall
        have HBi := Hd hbi
        clear hall hk0 hk1 hk2 hk3
        obtain ⟨hk0, hk1, hk2, hk3⟩ := KEEP.out _ hbi
        clear hbi
        by_cases hlt : i < ins.length
        · have hlc : ((i : Int) < (ins.length : Int)) = True := eq_true (by omega)
          obtain ⟨b, o, hix, hce⟩ := (HR.out.below0 HBi.out).at (P := Tryz.prog) Tryz.underlying33 (by kernel_rfl) i (by simpa using hlt)
          simp only [List.getElem_map] at hce
          have hsl := HLI.out ins[i] (List.getElem_mem _)
          have KPi := KP.out ins[i] _ hsl HBi.out
          cases hps : isPathB ins[i] with
          | false =>
            rw [hps] at KPi
            have HF : Hid (ruleErr ⟨out, kind, word, ins⟩ = 4) := Hd (ruleErr_in HPO.out HAC.out (List.getElem_mem hlt) hps)
            generalize ins[i] = s at *
            have KP2 : Hid (Calls Tryz.prog 70 #[str s] wr fun e w' => e = .returned (errI (S 3)) ∧ Below wr.heap.size wr w') := Hd KPi
            clear KPi hps
            go_wp2_with fail
            refine KP2.out.mono ?_
            rintro e w3 ⟨rfl, hb3⟩
            have HB3 := Hd (HA.out.trans ((HBi.out.trans (hb3.mono HBi.out.size)).mono HA.out.size))
            clear hb3 hk0 hk1 hk2 hk3
            go_wp2
            go_ret
            exact ⟨by rw [HF.out]; rfl, HB3.out⟩
          | true =>
            rw [hps] at KPi
            have HAN : Hid (∀ s ∈ ins.take (i + 1), isPathB s = true) := Hd (fun s hs => by
              rw [List.take_succ_eq_append_getElem hlt] at hs
              rcases List.mem_append.1 hs with hs | hs
              · exact HAL.out s hs
              · rw [List.mem_singleton.1 hs]; exact hps)
            generalize ins[i] = s at *
            have KP2 : Hid (Calls Tryz.prog 70 #[str s] wr fun e w' => e = .returned .nilIface ∧ Below wr.heap.size wr w') := Hd KPi
            clear KPi hps
            go_wp2_with fail
            refine KP2.out.mono ?_
            rintro e w3 ⟨rfl, hb3⟩
            have HB3 := Hd (HBi.out.trans (hb3.mono HBi.out.size))
            clear hb3 hk0 hk1 hk2 hk3
            go_wp2
            go_roundw
            case rel => exact ⟨i + 1, by omega, by go_num, HAN.out, HB3.out⟩
            case measure => simp [intOf]; omega
        · obtain rfl : i = ins.length := by omega
          have hlc : ((ins.length : Int) < (ins.length : Int)) = False := eq_false (by omega)
          have HALL : Hid (∀ s ∈ ins, isPathB s = true) := Hd (by have := HAL.out; rw [List.take_length] at this; exact this)
          go_wp2_with fail
          go_loopw [43] (fun iv wl => ∃ i : Nat, i ≤ ins.length ∧ iv = .int .i64 i ∧ (∀ j (hj : j < ins.length), j < i → ins[j] ≠ out ∧ ins[j] ∉ ins.take j) ∧ Below W0.heap.size W0 wl) (fun iv _ => ins.length - (intOf iv).toNat)
          case atStart => exact ⟨0, by omega, rfl, fun j hj h => by omega, HBi.out⟩
          case round =>
            obtain ⟨i, hi, rfl, hno, hbk⟩ := hrel
            have HNO := Hd hno
            have HBk := Hd hbk
            clear hno hk0 hk1 hk2 hk3
            obtain ⟨hk0, hk1, hk2, hk3⟩ := KEEP.out _ hbk
            clear hbk
            by_cases hlt : i < ins.length
            · have hlc2 : ((i : Int) < (ins.length : Int)) = True := eq_true (by omega)
              have hrd := HR.out.below0 HBk.out
              obtain ⟨b, o, hix, hce⟩ := hrd.at (P := Tryz.prog) Tryz.underlying33 (by kernel_rfl) i (by simpa using hlt)
              simp only [List.getElem_map] at hce
              by_cases hout : ins[i] = out
              · have HF : Hid (ruleErr ⟨out, kind, word, ins⟩ = 7) := Hd (ruleErr_dup HPO.out HAC.out HALL.out hlt (Or.inl hout))
                rw [hout] at hce
                have hce2 := (HE.out.below HBk.out (Nat.le_refl _)).exist
                clear hout hrd
                go_wp2
                go_ret
                exact ⟨by rw [HF.out]; rfl, HA.out.trans (HBk.out.mono HA.out.size)⟩
              · have hd : (ins[i] == out) = false := by simpa using hout
                have htk : Reads wr (.slice a i c) ((ins.take i).map str) := by
                  obtain ⟨a', c', e, hle, hc⟩ := hrd
                  rw [List.length_map] at e
                  cases e
                  refine ⟨a, c, by rw [List.length_map, List.length_take, Nat.min_eq_left (by omega)], by rw [List.length_map, List.length_take]; omega, fun j u hj => hc j u ?_⟩
                  rw [List.getElem?_map] at hj ⊢
                  rw [List.getElem?_take] at hj
                  split at hj
                  · exact hj
                  · cases hj
                have KC := containsS_any ins[i] (ins.take i) a i c wr htk
                have hki : (i ≤ c) = True := eq_true (by omega)
                have hki2 : ((i : Int) ≤ (c : Int)) = True := eq_true (by omega)
                obtain ⟨b0, o0, rfl⟩ : ∃ b0 o0, a = some ⟨b0, o0, none⟩ := by
                  obtain ⟨a', c', e, -, hc⟩ := hrd
                  rw [List.length_map] at e
                  cases e
                  obtain ⟨b0, o0, e, -⟩ := hc i (str ins[i]) (by rw [List.getElem?_map, List.getElem?_eq_getElem hlt]; rfl)
                  exact ⟨b0, o0, e⟩
                have hce2 := (HE.out.below HBk.out (Nat.le_refl _)).exist
                by_cases hin : ins[i] ∈ ins.take i
                · have HF : Hid (ruleErr ⟨out, kind, word, ins⟩ = 7) := Hd (ruleErr_dup HPO.out HAC.out HALL.out hlt (Or.inr hin))
                  rw [decide_eq_true hin] at KC
                  have KC1 := Hd KC
                  clear KC htk hrd hin hout
                  generalize ins[i] = s at *
                  go_wp2_with fail
                  refine KC1.out.mono ?_
                  rintro e w3 ⟨rfl, rfl⟩
                  go_wp2
                  go_ret
                  exact ⟨by rw [HF.out]; rfl, HA.out.trans (HBk.out.mono HA.out.size)⟩
                · have HNN : Hid (∀ j (hj : j < ins.length), j < i + 1 → ins[j] ≠ out ∧ ins[j] ∉ ins.take j) := Hd (fun j hj h => by
                    by_cases hji : j = i
                    · subst hji; exact ⟨hout, hin⟩
                    · exact HNO.out j hj (by omega))
                  rw [decide_eq_false hin] at KC
                  have KC1 := Hd KC
                  clear KC htk hrd hin hout
                  generalize ins[i] = s at *
                  go_wp2_with fail
                  refine KC1.out.mono ?_
                  rintro e w3 ⟨rfl, rfl⟩
                  go_wp2
                  go_roundw
                  case rel => exact ⟨i + 1, by omega, by go_num, HNN.out, HBk.out⟩
                  case measure => simp [intOf]; omega
            · obtain rfl : i = ins.length := by omega
              have hlc2 : ((ins.length : Int) < (ins.length : Int)) = False := eq_false (by omega)
              have HF : Hid (ruleErr ⟨out, kind, word, ins⟩ = 0) := Hd (ruleErr_ok HPO.out HAC.out HALL.out (fun j hj => HNO.out j hj hj))
              go_wp2
              go_ret
              exact ⟨by rw [HF.out]; rfl, HA.out.trans (HBk.out.mono HA.out.size)⟩
abbrev RV := RuleL × Value
def rvRow (x : RV) : List Value := [str x.1.out, str x.1.kind, str x.1.word, x.2]
abbrev rvAgg (x : RV) : Value := .agg #[str x.1.out, str x.1.kind, str x.1.word, x.2]
def RulesAt (w : World) (v : Value) (R : List RV) : Prop := ReadsK 4 w v (R.map rvRow) ∧ ∀ x ∈ R, Reads w x.2 (x.1.ins.map str) ∧ Roomy x.2
theorem readsK_below0 {s : Nat} {w w' : World} {v : Value} {xs : List (List Value)} (h : ReadsK s w v xs) (_hs : ∀ r ∈ xs, r ≠ []) (hb : Below w.heap.size w w') : ReadsK s w' v xs := by
  obtain ⟨a, cap, rfl, hle, h⟩ := h
  refine ⟨a, cap, rfl, hle, fun i row hi => ?_⟩
  obtain ⟨b, o, rfl, hcell⟩ := h i row hi
  refine ⟨b, o, rfl, fun j u hu => ?_⟩
  have := hcell j u hu
  exact (hb.cell (p := ⟨b, o + i * s + j, none⟩) (lt_of_cell this)).trans this
theorem RulesAt.below0 {w w' : World} {v : Value} {R : List RV} (h : RulesAt w v R) (hb : Below w.heap.size w w') : RulesAt w' v R :=
  ⟨readsK_below0 h.1 (fun r hr => by obtain ⟨x, -, rfl⟩ := List.mem_map.1 hr; simp [rvRow]) hb, fun x hx => ⟨(h.2 x hx).1.below0 hb, (h.2 x hx).2⟩⟩
def idxR (p : RV → Bool) (R : List RV) : Int := if R.findIdx p < R.length then (R.findIdx p : Nat) else -1
theorem idxR_hit {p : RV → Bool} {R : List RV} {i : Nat} (hi : i < R.length) (hp : p R[i] = true) (hn : ∀ j (hj : j < R.length), j < i → p R[j] = false) : idxR p R = i := by
  have h : R.findIdx p = i := (List.findIdx_eq hi).2 ⟨hp, fun j hj => hn j (by omega) hj⟩
  unfold idxR
  rw [h, if_pos hi]
theorem idxR_miss {p : RV → Bool} {R : List RV} (hn : ∀ j (hj : j < R.length), p R[j] = false) : idxR p R = -1 := by
  have h : R.findIdx p = R.length := List.findIdx_eq_length.2 (fun x hx => by
    obtain ⟨j, hj, rfl⟩ := List.mem_iff_getElem.1 hx
    exact hn j hj)
  unfold idxR
  rw [h, if_neg (by omega)]
def PredR (p : RV → Bool) (g : Nat) (L : Value) (w : World) : Prop := (∀ (args : Array Value) (w : World), (callFunc g args).run Tryz.prog w = .ok (.enter g args) w) ∧ ∀ (W : World) (x : RV), Below w.heap.size w W → Calls Tryz.prog g #[rvAgg x, L] W fun e w' => e = .returned (.bool (p x)) ∧ Below W.heap.size W w'
set_option maxHeartbeats 1000000 in
theorem idxRule_any (p : RV → Bool) (g : Nat) (L v : Value) (R : List RV) (w : World) (hr : ReadsK 4 w v (R.map rvRow)) (hp : PredR p g L w) :
    Calls Tryz.prog 149 #[v, .func (.func g) #[] #[L]] w fun e w' => e = .returned (.int .i64 (idxR p R)) ∧ Below w.heap.size w w' := by
  have hle := hr.le
  obtain ⟨a, cap, rfl, -, -⟩ := id hr
  simp only [List.length_map] at *
  have eg := hp.1
  have HP := Hd hp.2
  have HR := Hd (fun W (hb : Below w.heap.size w W) => readsK_below0 hr (fun r hr => by obtain ⟨x, -, rfl⟩ := List.mem_map.1 hr; simp [rvRow]) hb)
  clear hr hp
  go_enter Tryz.func149, Tryz.ntmps149
  go_wp2_with fail
  go_loopw [8] (fun iv wl => ∃ i : Nat, i ≤ R.length ∧ iv = .int .i64 i ∧ (∀ j (hj : j < R.length), j < i → p R[j] = false) ∧ Below w.heap.size w wl) (fun iv _ => R.length - (intOf iv).toNat)
  case atStart => exact ⟨0, by omega, rfl, fun j hj h => by omega, Below.refl _ _⟩
  case round =>
    obtain ⟨i, hi, rfl, hno, hbi⟩ := hrel
    have HNO := Hd hno
    have HBi := Hd hbi
    clear hno
    by_cases hlt : i < R.length
    · have hlc : ((i : Int) < (R.length : Int)) = True := eq_true (by omega)
      obtain ⟨b, o, hix, -, hce⟩ := (HR.out _ hbi).at (P := Tryz.prog) Tryz.underlying22 (by kernel_rfl) i (by simpa using hlt)
      simp only [List.getElem_map] at hce
      have hc0 := hce 0 _ rfl
      have hc1 := hce 1 _ rfl
      have hc2 := hce 2 _ rfl
      have hc3 := hce 3 _ rfl
      simp only [Nat.add_zero] at hc0
      have KP := HP.out wr R[i] hbi
      have hcx : ∀ x, R[i] = x → p x = p R[i] := fun x h => by rw [h]
      clear hce hbi
      cases hb : p R[i] with
      | true =>
        have HF : Hid (idxR p R = (i : Int)) := Hd (idxR_hit hlt hb HNO.out)
        rw [hb] at KP
        have KP1 := Hd KP
        clear KP hcx hb
        generalize R[i] = x at *
        obtain ⟨⟨x0, x1, x2, x4⟩, x3⟩ := x
        simp only at hc0 hc1 hc2 hc3 KP1
        go_wp2_with fail
        refine KP1.out.mono ?_
        rintro e w2 ⟨rfl, hb2⟩
        go_wp2
        go_ret
        exact ⟨by rw [HF.out]; rfl, HBi.out.trans (hb2.mono HBi.out.size)⟩
      | false =>
        have HN : Hid (∀ j (hj : j < R.length), j < i + 1 → p R[j] = false) := Hd (fun j hj h => by
          by_cases hji : j = i
          · subst hji; exact hb
          · exact HNO.out j hj (by omega))
        rw [hb] at KP
        have KP1 := Hd KP
        clear KP hcx hb
        generalize R[i] = x at *
        obtain ⟨⟨x0, x1, x2, x4⟩, x3⟩ := x
        simp only at hc0 hc1 hc2 hc3 KP1
        go_wp2_with fail
        refine KP1.out.mono ?_
        rintro e w2 ⟨rfl, hb2⟩
        have HB2 := Hd (HBi.out.trans (hb2.mono HBi.out.size))
        clear hb2 hc0 hc1 hc2 hc3
        go_wp2
        go_roundw
        case rel => exact ⟨i + 1, by omega, by go_num, HN.out, HB2.out⟩
        case measure => simp [intOf]; omega
    · obtain rfl : i = R.length := by omega
      have hlc : ((R.length : Int) < (R.length : Int)) = False := eq_false (by omega)
      have HF : Hid (idxR p R = -1) := Hd (idxR_miss (fun j hj => HNO.out j hj hj))
      clear hbi
      go_wp2
      go_ret
      exact ⟨by rw [HF.out]; rfl, HBi.out⟩
theorem idxR_any (p : RV → Bool) (R : List RV) : decide (0 ≤ idxR p R) = R.any p := by
  unfold idxR
  by_cases h : R.findIdx p < R.length
  · rw [if_pos h, decide_eq_true (by omega)]
    exact (List.any_eq_true.2 (List.findIdx_lt_length.1 h)).symm
  · rw [if_neg h, decide_eq_false (by decide)]
    cases hq : R.any p with
    | false => rfl
    | true => exact absurd (List.findIdx_lt_length.2 (List.any_eq_true.1 hq)) h
theorem anyRule_any (p : RV → Bool) (g : Nat) (L v : Value) (R : List RV) (w : World) (hr : ReadsK 4 w v (R.map rvRow)) (hp : PredR p g L w) :
    Calls Tryz.prog 189 #[v, .func (.func g) #[] #[L]] w fun e w' => e = .returned (.bool (R.any p)) ∧ Below w.heap.size w w' := by
  have K := Hd (idxRule_any p g L v R w hr hp)
  rw [← idxR_any]
  obtain ⟨z, hz⟩ : ∃ z, idxR p R = z := ⟨_, rfl⟩
  rw [hz] at K ⊢
  have hb : ∃ b, (0 ≤ z) = (b = true) ∧ decide (0 ≤ z) = b := ⟨decide (0 ≤ z), by simp, rfl⟩
  clear hz hr hp
  obtain ⟨b, hb1, hb2⟩ := hb
  rw [hb2]
  go_enter Tryz.func189, Tryz.ntmps189
  go_wp2_with fail
  refine K.out.mono ?_
  rintro e w1 ⟨rfl, hb1'⟩
  go_wp2
  go_ret
  exact ⟨by simp, hb1'⟩
theorem sheet1_any (x : RV) (B : Nat) (out : List UInt8) (W : World) (hc : W.cell? ⟨B, 0, none⟩ = some (str out)) :
    Calls Tryz.prog 190 #[rvAgg x, .pointer (some ⟨B, 0, none⟩)] W fun e w' => e = .returned (.bool (x.1.out == out)) ∧ Below W.heap.size W w' := by
  obtain ⟨⟨x0, x1, x2, x4⟩, x3⟩ := x
  simp only
  obtain ⟨W0, hW0⟩ : ∃ W0, W.alloc (.cells #[str x0, str x1, str x2, x3] 35) = W0 := ⟨_, rfl⟩
  have hA : Below W.heap.size W W0 := hW0 ▸ (Below.refl _ W).alloc (Nat.le_refl _) _
  have h0 : W0.cell? ⟨W.heap.size, 0, none⟩ = some (str x0) := by rw [← hW0, cell_of_heap (heap_alloc_here W _)]; rfl
  have h1 := (hA.cell (p := ⟨B, 0, none⟩) (lt_of_cell hc)).trans hc
  have HA := Hd hA
  obtain ⟨b, hb⟩ : ∃ b, (x0 == out) = b := ⟨_, rfl⟩
  rw [hb]
  clear hc hA
  go_enter Tryz.func190, Tryz.ntmps190
  go_wp2
  go_ret
  exact ⟨rfl, HA.out⟩
def SheetAns (S : Nat → Addr) (l : List RuleL) (B : Nat) (e : Ending) (w' : World) : Prop :=
  (l.length ≤ 40 ∧ (∀ i r, l[i]? = some r → errAt l i r = 0) ∧ e = .returned .nilIface) ∨
  (40 < l.length ∧ e = .returned (errI (S 1))) ∨
  (l.length ≤ 40 ∧ ∃ i r m g, (∀ j q, j < i → l[j]? = some q → errAt l j q = 0) ∧ l[i]? = some r ∧ errAt l i r = m + 1 ∧ e = .returned (.iface 220 (.pointer (some ⟨g, 0, none⟩))) ∧ B ≤ g ∧ w'.heap[g]? = some (.cells #[.int .i64 (i : Int), errI (S m)] 222 (0, 0)))
theorem errAt_rule {l : List RuleL} {i : Nat} {r : RuleL} {m : Nat} (h : ruleErr r = m + 1) : errAt l i r = m + 1 := by
  unfold errAt
  rw [if_pos (by omega), h]
theorem errAt_dup {R : List RV} {i : Nat} {r : RuleL} (h : ruleErr r = 0) (hd : (R.take i).any (fun x => x.1.out == r.out) = true) : errAt (R.map Prod.fst) i r = 7 := by
  unfold errAt
  rw [if_neg (by omega), if_pos]
  obtain ⟨x, hx, he⟩ := List.any_eq_true.1 hd
  rw [← List.map_take, List.map_map]
  exact List.mem_map.2 ⟨x, hx, by simpa using he⟩
theorem errAt_ok {R : List RV} {i : Nat} {r : RuleL} (h : ruleErr r = 0) (hd : (R.take i).any (fun x => x.1.out == r.out) = false) : errAt (R.map Prod.fst) i r = 0 := by
  unfold errAt
  rw [if_neg (by omega), if_neg]
  intro hm
  rw [← List.map_take, List.map_map] at hm
  obtain ⟨x, hx, he⟩ := List.mem_map.1 hm
  have : (R.take i).any (fun x => x.1.out == r.out) = true := List.any_eq_true.2 ⟨x, hx, by simpa using he⟩
  rw [hd] at this
  cases this
set_option maxHeartbeats 2000000 in
theorem sheet_any (R : List RV) (v : Value) (w : World) (S : Nat → Addr) (hR : RulesAt w v R) (hcap : Roomy v) (hm : Ml w) (hE : KErr w S) (hN : NErr w) (ht : Tab w)
    (hb : ∀ x ∈ R, x.1.out.length ≤ 1000000 ∧ x.1.word.length ≤ 100000 ∧ (∀ s ∈ x.1.ins, s.length ≤ 1000000) ∧ x.1.ins.length ≤ 1000) (hn : R.length ≤ 100000) :
    Calls Tryz.prog 134 #[v] w fun e w' => SheetAns S (R.map Prod.fst) w.heap.size e w' ∧ Below w.heap.size w w' := by
  obtain ⟨a, c, hv, -, -⟩ := id hR.1
  rw [List.length_map] at hv
  subst hv
  have hnc := hcap _ _ _ rfl
  have hml : (R.map Prod.fst).length = R.length := List.length_map _
  by_cases h40 : R.length ≤ 40
  case neg =>
    have hd : ((40 : Int) < (R.length : Int)) = True := eq_true (by omega)
    have hce := hE.bound
    have HF : Hid (40 < (R.map Prod.fst).length) := Hd (by omega)
    clear hR hcap hm hE hN ht hb hml
    go_enter Tryz.func134, Tryz.ntmps134
    go_wp2
    go_ret
    exact ⟨Or.inr (Or.inl ⟨HF.out, rfl⟩), Below.refl _ _⟩
  case pos =>
    have hd : ((40 : Int) < (R.length : Int)) = False := eq_false (by omega)
    have HR := Hd hR
    have HM := Hd hm
    have HE := Hd hE
    have HN := Hd hN
    have HT := Hd ht
    have HB := Hd hb
    have HML := Hd hml
    clear hR hcap hm hE hN ht hb hml
    go_enter Tryz.func134, Tryz.ntmps134
    go_wp2_with fail
    go_loopw [12] (fun iv wl => ∃ i : Nat, i ≤ R.length ∧ iv = .int .i64 i ∧ (∀ j q, j < i → (R.map Prod.fst)[j]? = some q → errAt (R.map Prod.fst) j q = 0) ∧ Below w.heap.size w wl) (fun iv _ => R.length - (intOf iv).toNat)
    case atStart => exact ⟨0, by omega, rfl, fun j q h _ => by omega, Below.refl _ _⟩
    case round =>
      obtain ⟨i, hi, rfl, hno, hbi⟩ := hrel
      have HNO := Hd hno
      have HBi := Hd hbi
      clear hno
      by_cases hlt : i < R.length
      · have hlc : ((i : Int) < (R.length : Int)) = True := eq_true (by omega)
        have hri := HR.out.below0 hbi
        obtain ⟨b, o, hix, ha, hce⟩ := hri.1.at (P := Tryz.prog) Tryz.underlying22 (by kernel_rfl) i (by simpa using hlt)
        subst ha
        simp only [List.getElem_map] at hce
        have hc0 := hce 0 _ rfl
        have hc1 := hce 1 _ rfl
        have hc2 := hce 2 _ rfl
        have hc3 := hce 3 _ rfl
        simp only [Nat.add_zero] at hc0
        have hget : (R.map Prod.fst)[i]? = some R[i].1 := by rw [List.getElem?_map, List.getElem?_eq_getElem hlt]; rfl
        have hin := List.getElem_mem hlt
        obtain ⟨hb1, hb2, hb3, hb4⟩ := HB.out _ hin
        obtain ⟨hrv, hro⟩ := hri.2 _ hin
        have htk : ReadsK 4 wr (.slice (some ⟨b, o - i * 4, none⟩) i c) ((R.take i).map rvRow) := by
          obtain ⟨a', c', e, hle, hcc⟩ := hri.1
          rw [List.length_map] at e
          cases e
          refine ⟨_, c, by rw [List.length_map, List.length_take, Nat.min_eq_left (by omega)], by rw [List.length_map, List.length_take]; omega, fun j u hj => hcc j u ?_⟩
          rw [List.getElem?_map] at hj ⊢
          rw [List.getElem?_take] at hj
          split at hj
          · exact hj
          · cases hj
        have hstep : ∀ q, errAt (R.map Prod.fst) i R[i].1 = 0 → (R.map Prod.fst)[i]? = some q → errAt (R.map Prod.fst) i q = 0 := fun q h hq => by
          rw [hget] at hq
          obtain rfl := Option.some.inj hq
          exact h
        have HST := Hd hstep
        have HG := Hd hget
        have hdup : ∀ bb, (R.take i).any (fun x => x.1.out == R[i].1.out) = bb → (R.take i).any (fun x => x.1.out == R[i].1.out) = bb := fun _ h => h
        clear hce hin hget hstep hdup
        generalize hx : R[i] = x at *
        obtain ⟨r, u⟩ := x
        simp only at hc0 hc1 hc2 hc3 hb1 hb2 hb3 hb4 hrv hro HST HG
        clear hx
        obtain ⟨au, cu, hu, -, -⟩ := id hrv
        rw [List.length_map] at hu
        subst hu
        obtain ⟨W2, hW2⟩ : ∃ W2, wr.alloc (.cells #[str r.out, str r.kind, str r.word, .slice au r.ins.length cu] 35) = W2 := ⟨_, rfl⟩
        have hA : Below wr.heap.size wr W2 := hW2 ▸ (Below.refl _ wr).alloc (Nat.le_refl _) _
        have hb02 := hbi.trans (hA.mono hbi.size)
        have hcl : ∀ k, W2.cell? ⟨wr.heap.size, k, none⟩ = (#[str r.out, str r.kind, str r.word, .slice au r.ins.length cu] : Array Value)[k]? := fun k => by
          rw [← hW2, cell_of_heap (heap_alloc_here wr _)]
        have hq0 : W2.cell? ⟨wr.heap.size, 0, none⟩ = some (str r.out) := hcl 0
        have hq1 : W2.cell? ⟨wr.heap.size, 1, none⟩ = some (str r.kind) := hcl 1
        have hq2 : W2.cell? ⟨wr.heap.size, 2, none⟩ = some (str r.word) := hcl 2
        have hq3 : W2.cell? ⟨wr.heap.size, 3, none⟩ = some (.slice au r.ins.length cu) := hcl 3
        have hlt0 : wr.heap.size < W2.heap.size := by rw [← hW2]; simp
        have KC := rcheck_any r (.slice au r.ins.length cu) W2 S (hrv.below0 hA) hro (HM.out.below hb02 (Nat.le_refl _)) (HE.out.below hb02 (Nat.le_refl _)) (HN.out.below hb02 (Nat.le_refl _)) (tab_below HT.out hb02 (Nat.le_refl _)) hb1 hb2 hb3 hb4
        have HB2 := Hd hb02
        have HTK := Hd (readsK_below0 htk (fun r hr => by obtain ⟨x, -, rfl⟩ := List.mem_map.1 hr; simp [rvRow]) hA)
        have HQ0 := Hd hq0
        clear hbi hri htk hA hb02 hcl hrv hro hb1 hb2 hb3 hb4
        cases hrc : ruleErr r with
        | succ m =>
          rw [hrc] at KC
          have KC1 : Hid (Calls Tryz.prog 188 #[.agg #[str r.out, str r.kind, str r.word, .slice au r.ins.length cu]] W2 fun e w' => e = .returned (errI (S m)) ∧ Below W2.heap.size W2 w') := Hd KC
          have HEA : Hid (errAt (R.map Prod.fst) i r = m + 1) := Hd (errAt_rule hrc)
          clear KC hrc
          go_wp2_with fail
          refine KC1.out.mono ?_
          rintro e w3 ⟨rfl, hb3⟩
          have HB3 := Hd (HB2.out.trans (hb3.mono HB2.out.size))
          clear hb3 hq0 hq1 hq2 hq3 hc0 hc1 hc2 hc3
          go_wp2
          go_ret
          refine ⟨Or.inr (Or.inr ⟨by rw [HML.out]; exact h40, i, r, m, w3.heap.size, HNO.out, HG.out, HEA.out, rfl, HB3.out.size, heap_alloc_here w3 _⟩), HB3.out.alloc HB3.out.size _⟩
        | zero =>
          rw [hrc] at KC
          have KC1 : Hid (Calls Tryz.prog 188 #[.agg #[str r.out, str r.kind, str r.word, .slice au r.ins.length cu]] W2 fun e w' => e = .returned .nilIface ∧ Below W2.heap.size W2 w') := Hd KC
          have HRC := Hd hrc
          have hic : (i ≤ c) = True := eq_true (by omega)
          have hic2 : ((i : Int) ≤ (c : Int)) = True := eq_true (by omega)
          clear KC hrc
          go_wp2_with fail
          refine KC1.out.mono ?_
          rintro e w3 ⟨rfl, hb3⟩
          have HB3 := Hd (HB2.out.trans (hb3.mono HB2.out.size))
          have hq03 := (hb3.cell (p := ⟨wr.heap.size, 0, none⟩) hlt0).trans HQ0.out
          have KY := anyRule_any (fun x => x.1.out == r.out) 190 (.pointer (some ⟨wr.heap.size, 0, none⟩)) (.slice (some ⟨b, o - i * 4, none⟩) i c) (R.take i) w3
            (readsK_below0 HTK.out (fun r hr => by obtain ⟨x, -, rfl⟩ := List.mem_map.1 hr; simp [rvRow]) hb3)
            ⟨fun _ _ => rfl, fun W x hW => sheet1_any x wr.heap.size r.out W ((hW.cell (p := ⟨wr.heap.size, 0, none⟩) (lt_of_cell hq03)).trans hq03)⟩
          clear hb3 hq0 hq1 hq2 hq3 hc0 hc1 hc2 hc3 hq03
          cases hany : (R.take i).any (fun x => x.1.out == r.out) with
          | true =>
            rw [hany] at KY
            have KY1 := Hd KY
            have HEA : Hid (errAt (R.map Prod.fst) i r = 6 + 1) := Hd (errAt_dup HRC.out hany)
            clear KY hany
            go_wp2_with fail
            refine KY1.out.mono ?_
            rintro e w4 ⟨rfl, hb4⟩
            have HB4 := Hd (HB3.out.trans (hb4.mono HB3.out.size))
            have hce2 := (HE.out.below HB4.out (Nat.le_refl _)).exist
            clear hb4
            go_wp2
            go_ret
            refine ⟨Or.inr (Or.inr ⟨by rw [HML.out]; exact h40, i, r, 6, w4.heap.size, HNO.out, HG.out, HEA.out, rfl, HB4.out.size, heap_alloc_here w4 _⟩), HB4.out.alloc HB4.out.size _⟩
          | false =>
            rw [hany] at KY
            have KY1 := Hd KY
            have HNN : Hid (∀ j q, j < i + 1 → (R.map Prod.fst)[j]? = some q → errAt (R.map Prod.fst) j q = 0) := Hd (fun j q h hq => by
              by_cases hji : j = i
              · subst hji
                exact HST.out q (errAt_ok HRC.out hany) hq
              · exact HNO.out j q (by omega) hq)
            clear KY hany
            go_wp2_with fail
            refine KY1.out.mono ?_
            rintro e w4 ⟨rfl, hb4⟩
            have HB4 := Hd (HB3.out.trans (hb4.mono HB3.out.size))
            clear hb4
            go_wp2
            go_roundw
            case rel => exact ⟨i + 1, by omega, by go_num, HNN.out, HB4.out⟩
            case measure => simp [intOf]; omega
      · obtain rfl : i = R.length := by omega
        have hlc : ((R.length : Int) < (R.length : Int)) = False := eq_false (by omega)
        have HF : Hid (∀ i r, (R.map Prod.fst)[i]? = some r → errAt (R.map Prod.fst) i r = 0) := Hd (fun i r h => by
          have hi := (List.getElem?_eq_some_iff.1 h).1
          rw [List.length_map] at hi
          exact HNO.out i r hi h)
        clear hbi
        go_wp2
        go_ret
        exact ⟨Or.inl ⟨by rw [HML.out]; exact h40, HF.out, rfl⟩, HBi.out⟩
end Go.Proofs.YtgjialbmlhbngaaGreatDoor
