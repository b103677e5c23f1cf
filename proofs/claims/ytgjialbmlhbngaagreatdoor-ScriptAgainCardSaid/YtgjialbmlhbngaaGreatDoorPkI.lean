/-
  The reference's order, in plain words. LongTexts at any texts. The laws' LongRules and OwnRules at any rules. What the laws of what is wanted stand on. What is wanted of files, by rules, in plain words.
-/
import Derived.Test.YtgjialbmlhbngaaGreatDoorPkH
import Derived.Test.YtgjialbmlhbngaaGreatDoorPkG
import Derived.Test.YtgjialbmlhbngaaGreatDoorPkC
import Derived.Test.YtgjialbmlhbngaaGreatDoorPkF
import Derived.Test.YtgjialbmlhbngaaGreatDoorPkE

set_option maxRecDepth 100000
namespace Go.Proofs.YtgjialbmlhbngaaGreatDoor
open Go Go.RowKit Go.Kf Go.Sort Go.Proofs
theorem needL_nodup (n : Nat) (N : List Nat) : (needL n N).Nodup := List.Pairwise.filter _ List.nodup_range
end Go.Proofs.YtgjialbmlhbngaaGreatDoor

namespace Go.Proofs.YtgjialbmlhbngaaGreatDoor
open Go Go.RowKit Go.Kf
def FewTexts (l : List (List UInt8)) (many most : Nat) : Prop := l.length ≤ many ∧ (∀ s ∈ l, s.length ≤ most) ∧ (l.map List.length).sum ≤ most
def LongPost (l : List (List UInt8)) (many most : Nat) (w : World) (e : Ending) (w' : World) : Prop := w = w' ∧ ((e = .returned (.int .i64 1)) ∨ (e = .returned (.int .i64 0) ∧ FewTexts l many most))
theorem sum_take_succ {l : List (List UInt8)} {j : Nat} (h : j < l.length) : ((l.take (j + 1)).map List.length).sum = ((l.take j).map List.length).sum + l[j].length := by
  rw [List.take_succ_eq_append_getElem h]
  simp only [List.map_append, List.map_cons, List.map_nil, List.sum_append, List.sum_cons, List.sum_nil, Nat.add_zero]
theorem longTexts_any (v : Value) (l : List (List UInt8)) (many most : Nat) (w : World) (hr : Reads w v (l.map str)) (hm : many ≤ 1000) (hM : most ≤ 1000000) :
    Calls Tryz.prog 27 #[v, .int .i64 many, .int .i64 most] w (LongPost l many most w) := by
  have hle := hr.le
  obtain ⟨a, cap, rfl, -, -⟩ := id hr
  simp only [List.length_map] at *
  have HR := Hd hr
  clear hr
  by_cases hlm : many < l.length
  · go_enter Tryz.func27, Tryz.ntmps27
    go_wp2
    go_ret
    exact ⟨rfl, Or.inl rfl⟩
  · go_enter Tryz.func27, Tryz.ntmps27
    go_wp2
    go_loop [7, 8] (fun n i => ∃ j : Nat, j ≤ l.length ∧ i = .int .i64 j ∧ n = .int .i64 ((l.take j).map List.length).sum ∧ (∀ s ∈ l.take j, s.length ≤ most) ∧ ((l.take j).map List.length).sum ≤ most) (fun _ i => l.length - (intOf i).toNat)
    case atStart => exact ⟨0, by omega, rfl, rfl, by simp, by simp⟩
    case round =>
      obtain ⟨j, hj, rfl, rfl, hall, hsum⟩ := hrel
      have HA := Hd hall
      clear hall
      by_cases hlt : j < l.length
      · obtain ⟨b, o, hix, hce⟩ := HR.out.at (P := Tryz.prog) Tryz.underlying33 (by kernel_rfl) j (by simpa using hlt)
        simp only [List.getElem_map] at hce
        have HS := Hd (sum_take_succ hlt)
        have hmem : ∀ s ∈ l.take (j + 1), s ∈ l.take j ∨ s = l[j] := by
          intro s hs
          rw [List.take_succ_eq_append_getElem hlt] at hs
          simpa only [List.mem_append, List.mem_singleton] using hs
        have HM := Hd hmem
        clear hmem
        generalize ((l.take j).map List.length).sum = n at *
        generalize l[j] = s at *
        by_cases hs : s.length ≤ most
        · by_cases hs2 : n + s.length ≤ most
          · go_wp2
            go_round
            case rel =>
              refine ⟨j + 1, by omega, by go_num, by rw [HS.out]; go_num, fun t ht => ?_, by rw [HS.out]; omega⟩
              rcases HM.out t ht with h | rfl
              · exact HA.out t h
              · exact hs
            case measure => simp [intOf]; omega
          · go_wp2
            go_ret
            exact ⟨rfl, Or.inl rfl⟩
        · go_wp2
          go_ret
          exact ⟨rfl, Or.inl rfl⟩
      · obtain rfl : j = l.length := by omega
        rw [List.take_length] at hsum HA
        go_wp2
        go_ret
        exact ⟨rfl, Or.inr ⟨rfl, by omega, HA.out, hsum⟩⟩
open Go.Sort Go.Proofs
def ShortR (r : RuleL) : Prop := r.out.length ≤ 100 ∧ r.kind.length ≤ 60 ∧ r.word.length ≤ 150 ∧ FewTexts r.ins 12 300
def LongRPost (R : List RV) (many : Nat) (w : World) (e : Ending) (w' : World) : Prop := w = w' ∧ (e = .returned (.int .i64 1) ∨ (e = .returned (.int .i64 0) ∧ (R.length ≤ many ∨ R.length = 41) ∧ ∀ x ∈ R, ShortR x.1))
set_option maxHeartbeats 1000000 in
theorem longRules_any (R : List RV) (v : Value) (many : Nat) (w : World) (hr : ReadsK 4 w v (R.map rvRow)) (hi : ∀ x ∈ R, Reads w x.2 (x.1.ins.map str)) (_hm : many ≤ 1000) :
    Calls Tryz.prog 12 #[v, .int .i64 many] w (LongRPost R many w) := by
  have hle := hr.le
  obtain ⟨a, c, rfl, -, -⟩ := id hr
  simp only [List.length_map] at *
  have HR := Hd hr
  have HI := Hd hi
  clear hr hi
  by_cases hlong : many < R.length ∧ R.length ≠ 41
  · have d1 : ((many : Int) < (R.length : Int)) = True := eq_true (by omega)
    have d2 : ((R.length : Int) != 41) = true := by rw [bne_iff_ne]; omega
    clear hlong
    go_enter Tryz.func12, Tryz.ntmps12
    go_wp2
    go_ret
    exact ⟨rfl, Or.inl rfl⟩
  · have HOK : Hid (R.length ≤ many ∨ R.length = 41) := Hd (by omega)
    have hcs : ((many : Int) < (R.length : Int)) = False ∨ (((many : Int) < (R.length : Int)) = True ∧ ((R.length : Int) != 41) = false) := by
      by_cases h : many < R.length
      · exact Or.inr ⟨eq_true (by omega), by rw [show R.length = 41 by omega]; rfl⟩
      · exact Or.inl (eq_false (by omega))
    clear hlong
    rcases hcs with d1 | ⟨d1, d2⟩
    all_goals
      go_enter Tryz.func12, Tryz.ntmps12
      go_wp2_with fail
      go_loopw [5] (fun iv wl => ∃ i : Nat, i ≤ R.length ∧ iv = .int .i64 i ∧ (∀ x ∈ R.take i, ShortR x.1) ∧ wl = w) (fun iv _ => R.length - (intOf iv).toNat)
      case atStart => exact ⟨0, by omega, rfl, fun x hx => by simp at hx, rfl⟩
      case round =>
        obtain ⟨i, hi, rfl, hsh, rfl⟩ := hrel
        have HSH := Hd hsh
        clear hsh
        by_cases hlt : i < R.length
        · have hlc : ((i : Int) < (R.length : Int)) = True := eq_true (by omega)
          obtain ⟨b, o, hix, -, hce⟩ := HR.out.at (P := Tryz.prog) Tryz.underlying22 (by kernel_rfl) i (by simpa using hlt)
          simp only [List.getElem_map] at hce
          have hc0 := hce 0 _ rfl
          have hc1 := hce 1 _ rfl
          have hc2 := hce 2 _ rfl
          have hc3 := hce 3 _ rfl
          simp only [Nat.add_zero] at hc0
          have hrx := HI.out _ (List.getElem_mem hlt)
          have HTK : Hid (∀ x, R[i] = x → ShortR x.1 → ∀ y ∈ R.take (i + 1), ShortR y.1) := Hd (fun x hx h y hy => by
            rw [List.take_succ_eq_append_getElem hlt] at hy
            rcases List.mem_append.1 hy with hy | hy
            · exact HSH.out y hy
            · rw [List.mem_singleton.1 hy, hx]; exact h)
          clear hce
          generalize hx : R[i] = x at *
          have HTK2 := Hd (HTK.out x rfl)
          clear hx HTK
          obtain ⟨r, u⟩ := x
          simp only at hc0 hc1 hc2 hc3 hrx HTK2
          have KT := Hd (longTexts_any u r.ins 12 300 wr hrx (by decide) (by decide))
          clear hrx
          by_cases h1 : 100 < r.out.length
          · have e1 : ((100 : Int) < (r.out.length : Int)) = True := eq_true (by omega)
            go_wp2
            go_ret
            exact ⟨rfl, Or.inl rfl⟩
          · have e1 : ((100 : Int) < (r.out.length : Int)) = False := eq_false (by omega)
            by_cases h2 : 60 < r.kind.length
            · have e2 : ((60 : Int) < (r.kind.length : Int)) = True := eq_true (by omega)
              go_wp2
              go_ret
              exact ⟨rfl, Or.inl rfl⟩
            · have e2 : ((60 : Int) < (r.kind.length : Int)) = False := eq_false (by omega)
              by_cases h3 : 150 < r.word.length
              · have e3 : ((150 : Int) < (r.word.length : Int)) = True := eq_true (by omega)
                go_wp2
                go_ret
                exact ⟨rfl, Or.inl rfl⟩
              · have e3 : ((150 : Int) < (r.word.length : Int)) = False := eq_false (by omega)
                go_wp2_with fail
                refine KT.out.mono ?_
                rintro e w2 ⟨rfl, rfl | ⟨rfl, hfew⟩⟩
                · go_wp2
                  go_ret
                  exact ⟨rfl, Or.inl rfl⟩
                · have HS2 := Hd (HTK2.out ⟨by omega, by omega, by omega, hfew⟩)
                  clear hfew
                  go_wp2
                  go_roundw
                  case rel => exact ⟨i + 1, by omega, by go_num, HS2.out, by first | rfl | trivial⟩
                  case measure => simp [intOf]; omega
        · obtain rfl : i = R.length := by omega
          have hlc : ((R.length : Int) < (R.length : Int)) = False := eq_false (by omega)
          have HF : Hid (∀ x ∈ R, ShortR x.1) := Hd (by have := HSH.out; rw [List.take_length] at this; exact this)
          go_wp2
          go_ret
          exact ⟨rfl, Or.inr ⟨rfl, HOK.out, HF.out⟩⟩
theorem ownsRow_roomy {w : World} {base : Nat} {e : TypeId} {s : Nat} {v : Value} {n : Nat} {xs : List Value} (h : w.ownsRow base e s v n xs) : Roomy v := by
  rcases h.2 with ⟨rfl, -⟩ | ⟨g, cap, cur, rfl, -, -, hcn, -⟩
  · intro a n c h
    cases h
    exact Nat.le_refl _
  · intro a n c h
    cases h
    exact hcn
theorem tyRules : SliceTyK Tryz.prog 22 35 (.agg #[str [], str [], str [], .slice none 0 0]) 4 72 := ⟨Tryz.underlying22, by kernel_rfl, rfl, by decide⟩
def OwnAt (B : Nat) (w : World) (v : Value) (R : List RV) : Prop :=
  w.ownsRow B 35 4 v R.length (R.map rvRow).flatten ∧ ∀ x ∈ R, w.ownsRow B 9 1 x.2 x.1.ins.length (x.1.ins.map str) ∧ ∀ k, x.2.ownBlock = some k → v.ownBlock ≠ some k
theorem OwnAt.rules {B : Nat} {w : World} {v : Value} {R : List RV} (h : OwnAt B w v R) : RulesAt w v R ∧ Roomy v :=
  ⟨⟨ownsRow_readsK h.1 (List.length_map _) (fun r hr => by obtain ⟨x, -, rfl⟩ := List.mem_map.1 hr; rfl), fun x hx => ⟨ownsRow_reads (h.2 x hx).1, ownsRow_roomy (h.2 x hx).1⟩⟩, ownsRow_roomy h.1⟩
theorem OwnAt.fr {B : Nat} {w w' : World} {v : Value} {R : List RV} (h : OwnAt B w v R) (hb : Below w.heap.size w w') : OwnAt B w' v R :=
  ⟨ownsRow_fr (S := fun _ => False) h.1 (Fr.of_below hb) (fun k hk => ⟨(h.1.lt k hk).2, id⟩), fun x hx => ⟨ownsRow_fr (S := fun _ => False) (h.2 x hx).1 (Fr.of_below hb) (fun k hk => ⟨((h.2 x hx).1.lt k hk).2, id⟩), (h.2 x hx).2⟩⟩
theorem own_rulesT {w : World} {v : Value} {R : List RV} (h : ∃ B, OwnAt B w v R) : RulesAt w v R ∧ Roomy v := by
  obtain ⟨B, h⟩ := h
  exact h.rules
theorem reach_congr {E : Nat → List Nat} {a b : List Nat} (h : ∀ k, k ∈ a ↔ k ∈ b) (k : Nat) : Reach E a k ↔ Reach E b k := by
  constructor
  · intro hr
    induction hr with
    | base hk => exact .base ((h _).1 hk)
    | step _ hk ih => exact .step ih hk
  · intro hr
    induction hr with
    | base hk => exact .base ((h _).2 hk)
    | step _ hk ih => exact .step ih hk
theorem places_same {l : List RuleL} {outs : List (List UInt8)} {a b : List Nat} (hr : Right l) (ha : PlacesAt l outs a) (hb : PlacesAt l outs b) (k : Nat) : k ∈ a ↔ k ∈ b := by
  constructor
  · intro hk
    have hkl := ha.1 k hk
    exact (hb.mem hr hkl).2 ((ha.mem hr hkl).1 hk)
  · intro hk
    have hkl := hb.1 k hk
    exact (ha.mem hr hkl).2 ((hb.mem hr hkl).1 hk)
theorem places_made {l : List RuleL} {outs : List (List UInt8)} {a : List Nat} (ha : PlacesAt l outs a) : ∀ s ∈ outs, s ∈ l.map RuleL.out := by
  intro s hs
  rw [← ha.2] at hs
  obtain ⟨k, hk, e⟩ := List.mem_map.1 hs
  have hkl := ha.1 k hk
  rw [List.getD_eq_getElem?_getD, List.getElem?_eq_getElem hkl, Option.getD_some] at e
  exact List.mem_map.2 ⟨l[k], List.getElem_mem hkl, e⟩
theorem own_lt {w : World} {base : Nat} {e : TypeId} {s : Nat} {v : Value} {n : Nat} {xs : List Value} (h : w.ownsRow base e s v n xs) : ∀ k, v.ownBlock = some k → k < w.heap.size := fun k hk => (h.lt k hk).2
def oneL : List RuleL := [⟨[98], [117, 112, 112, 101, 114], [], [[97]]⟩]
theorem oneL_right : RightS oneL := by
  have h0 : errAt oneL 0 ⟨[98], [117, 112, 112, 101, 114], [], [[97]]⟩ = 0 := by decide +kernel
  refine ⟨by decide, fun i r h => ?_⟩
  match i, h with
  | 0, h => cases h; exact h0
  | n + 1, h => cases h
abbrev Told := Nat × List UInt8
abbrev Look := List UInt8 → Option (List UInt8)
def toldOf (r : RuleL) (xs : List Told) : Told := match xs.find? (fun x => decide (x.1 ≠ 0)) with
  | some x => x
  | none => actOf r.kind r.word (xs.map Prod.snd)
def leafT (T : Look) (p : List UInt8) : Told := match T p with
  | some b => (0, b)
  | none => (6, [])
def wantF (l : List RuleL) (T : Look) : Nat → List UInt8 → Told
  | 0, _ => (0, [])
  | f + 1, p => match l.find? (fun r => r.out == p) with
    | some r => toldOf r (r.ins.map (wantF l T f))
    | none => leafT T p
def wantV (l : List RuleL) (T : Look) (p : List UInt8) : Told := wantF l T (l.length + 2) p
theorem find_out {l : List RuleL} (hr : Right l) {i : Nat} (hi : i < l.length) : l.find? (fun r => r.out == l[i].out) = some l[i] := by
  rw [List.find?_eq_some_iff_getElem]
  refine ⟨by simp, i, hi, rfl, fun j hj => ?_⟩
  have : l[j].out ≠ l[i].out := fun e => by
    have := hr.outs (by omega) hi e
    omega
  simpa using this
theorem find_noout {l : List RuleL} {p : List UInt8} (h : p ∉ l.map RuleL.out) : l.find? (fun r => r.out == p) = none := by
  rw [List.find?_eq_none]
  intro r hr e
  exact h (List.mem_map.2 ⟨r, hr, by simpa using e⟩)
theorem out_cases (l : List RuleL) (p : List UInt8) : (∃ i, ∃ h : i < l.length, l[i].out = p) ∨ p ∉ l.map RuleL.out := by
  by_cases h : p ∈ l.map RuleL.out
  · obtain ⟨r, hr, e⟩ := List.mem_map.1 h
    obtain ⟨i, hi, rfl⟩ := List.mem_iff_getElem.1 hr
    exact Or.inl ⟨i, hi, e⟩
  · exact Or.inr h
theorem order_mem {E : Nat → List Nat} {isB : Nat → Bool} {n : Nat} {o : List Nat} (h : orderB E isB n = some o) : Outs E isB n o ∧ ∀ i, i < n → isB i = true → i ∈ o := by
  unfold orderB at h
  obtain ⟨h1, h2⟩ := (orderGo_outs (manyB isB n) [] (outs_nil E isB n)).1 o h
  refine ⟨h1, fun i hi hb => Classical.byContradiction (fun hm => ?_)⟩
  have hs := nodup_sub (i :: o) ((List.range n).filter isB) (List.nodup_cons.2 ⟨hm, h1.nd⟩) (fun k hk => by
    rcases List.mem_cons.1 hk with rfl | hk
    · exact List.mem_filter.2 ⟨List.mem_range.2 hi, hb⟩
    · have := h1.lt k hk
      exact List.mem_filter.2 ⟨List.mem_range.2 this.1, this.2⟩)
  have hm : ((List.range n).filter isB).length = manyB isB n := rfl
  simp only [List.length_cons, List.length_nil, Nat.zero_add] at hs h2
  omega
theorem wantF_leaf {l : List RuleL} {T : Look} {p : List UInt8} (h : p ∉ l.map RuleL.out) (f : Nat) : wantF l T (f + 1) p = leafT T p := by
  unfold wantF
  rw [find_noout h]
theorem wantF_rule {l : List RuleL} {T : Look} (hr : Right l) {i : Nat} (hi : i < l.length) (f : Nat) : wantF l T (f + 1) l[i].out = toldOf l[i] (l[i].ins.map (wantF l T f)) := by
  conv => lhs; unfold wantF
  rw [find_out hr hi]
theorem want_stable {l : List RuleL} {T : Look} {isB : Nat → Bool} {o : List Nat} (hr : Right l) (ho : Outs (edgesB l) isB l.length o) :
    ∀ (t : Nat) (ht : t < o.length) (hn : o[t] < l.length) (f f' : Nat), t + 2 ≤ f → t + 2 ≤ f' → wantF l T f l[o[t]].out = wantF l T f' l[o[t]].out := by
  intro t
  induction t using Nat.strongRecOn with
  | ind t ih =>
    intro ht hn f f' hf hf'
    obtain ⟨g, rfl⟩ : ∃ g, f = g + 1 := ⟨f - 1, by omega⟩
    obtain ⟨g', rfl⟩ : ∃ g, f' = g + 1 := ⟨f' - 1, by omega⟩
    rw [wantF_rule hr hn, wantF_rule hr hn]
    congr 1
    refine List.map_congr_left (fun s hs => ?_)
    rcases out_cases l s with ⟨j, hj, rfl⟩ | hno
    · have hje : j ∈ edgesB l o[t] := (mem_edges hn).2 ⟨hj, hs⟩
      obtain ⟨t', ht', e⟩ := List.mem_iff_getElem.1 (ho.back t ht j hje)
      rw [List.length_take] at ht'
      rw [List.getElem_take] at e
      subst e
      exact ih t' (by omega) (by omega) hj g g' (by omega) (by omega)
    · obtain ⟨k, rfl⟩ : ∃ k, g = k + 1 := ⟨g - 1, by omega⟩
      obtain ⟨k', rfl⟩ : ∃ k, g' = k + 1 := ⟨g' - 1, by omega⟩
      rw [wantF_leaf hno, wantF_leaf hno]
theorem wantV_leaf {l : List RuleL} {T : Look} {p : List UInt8} (h : p ∉ l.map RuleL.out) : wantV l T p = leafT T p := wantF_leaf h _
theorem outs_len {E : Nat → List Nat} {isB : Nat → Bool} {n : Nat} {o : List Nat} (h : Outs E isB n o) : o.length ≤ n := nodup_le n o h.nd (fun k hk => (h.lt k hk).1)
theorem wantV_rule {l : List RuleL} {T : Look} {isB : Nat → Bool} {o : List Nat} (hr : Right l) (ho : Outs (edgesB l) isB l.length o) {i : Nat} (hi : i < l.length) (hm : i ∈ o) : wantV l T l[i].out = toldOf l[i] (l[i].ins.map (wantV l T)) := by
  unfold wantV
  rw [wantF_rule hr hi]
  congr 1
  refine List.map_congr_left (fun s hs => ?_)
  rcases out_cases l s with ⟨j, hj, rfl⟩ | hno
  · obtain ⟨t, ht, e⟩ := List.mem_iff_getElem.1 hm
    subst e
    have hje : j ∈ edgesB l o[t] := (mem_edges hi).2 ⟨hj, hs⟩
    obtain ⟨t', ht', e⟩ := List.mem_iff_getElem.1 (ho.back t ht j hje)
    rw [List.length_take] at ht'
    rw [List.getElem_take] at e
    subst e
    have := outs_len ho
    exact want_stable hr ho t' (by omega) hj _ _ (by omega) (by omega)
  · rw [wantF_leaf hno, wantF_leaf hno]
theorem actOf_len (k w : List UInt8) (ins : List (List UInt8)) : (actOf k w ins).2.length ≤ 2000 := by
  unfold actOf
  split
  · split
    · simp
    · split
      · simp
      · rename_i h; exact Nat.le_of_not_lt h
  · simp
theorem actOf_err (k w : List UInt8) (ins : List (List UInt8)) : (actOf k w ins).1 ≠ 0 → (actOf k w ins).2 = [] := by
  unfold actOf
  split
  · split
    · intro h; exact absurd rfl h
    · split
      · intro _; rfl
      · intro h; exact absurd rfl h
  · intro _; rfl
theorem actErr_code (k w : List UInt8) (n : Nat) : actErr k w n = 0 ∨ actErr k w n = 3 ∨ actErr k w n = 5 ∨ actErr k w n = 10 := by
  unfold actErr
  split
  · omega
  · split
    · split <;> omega
    · omega
theorem actOf_code (k w : List UInt8) (ins : List (List UInt8)) : (actOf k w ins).1 = 0 ∨ (actOf k w ins).1 = 3 ∨ (actOf k w ins).1 = 5 ∨ (actOf k w ins).1 = 10 := by
  unfold actOf
  split
  · split
    · exact Or.inl rfl
    · split
      · exact Or.inr (Or.inr (Or.inr rfl))
      · exact Or.inl rfl
  · exact actErr_code _ _ _
structure ToldOk (x : Told) : Prop where
  len : x.2.length ≤ 2000
  err : x.1 ≠ 0 → x.2 = []
  code : x.1 = 0 ∨ x.1 = 3 ∨ x.1 = 5 ∨ x.1 = 6 ∨ x.1 = 10
theorem toldOk_act (k w : List UInt8) (ins : List (List UInt8)) : ToldOk (actOf k w ins) := ⟨actOf_len _ _ _, actOf_err _ _ _, by have := actOf_code k w ins; omega⟩
theorem toldOk_of {r : RuleL} {xs : List Told} (h : ∀ x ∈ xs, ToldOk x) : ToldOk (toldOf r xs) := by
  unfold toldOf
  split
  · rename_i x hx
    exact h x (List.mem_of_find?_eq_some hx)
  · exact toldOk_act _ _ _
theorem toldOk_leaf {T : Look} (hT : ∀ p b, T p = some b → b.length ≤ 2000) (p : List UInt8) : ToldOk (leafT T p) := by
  unfold leafT
  split
  · rename_i b hb
    exact ⟨hT p b hb, fun h => absurd rfl h, Or.inl rfl⟩
  · exact ⟨by simp, fun _ => rfl, by simp⟩
theorem toldOk_wantF {l : List RuleL} {T : Look} (hT : ∀ p b, T p = some b → b.length ≤ 2000) : ∀ (f : Nat) (p : List UInt8), ToldOk (wantF l T f p)
  | 0, _ => ⟨by simp [wantF], fun h => absurd rfl h, Or.inl rfl⟩
  | f + 1, p => by
    unfold wantF
    split
    · exact toldOk_of (fun x hx => by
        obtain ⟨s, -, rfl⟩ := List.mem_map.1 hx
        exact toldOk_wantF hT f s)
    · exact toldOk_leaf hT p
theorem toldOk_want {l : List RuleL} {T : Look} (hT : ∀ p b, T p = some b → b.length ≤ 2000) (p : List UInt8) : ToldOk (wantV l T p) := toldOk_wantF hT _ p
theorem toldOf_bad {r : RuleL} {xs : List Told} {i : Nat} (hi : i < xs.length) (hb : xs[i].1 ≠ 0) (ho : ∀ j (hj : j < xs.length), j < i → xs[j].1 = 0) : toldOf r xs = xs[i] := by
  unfold toldOf
  have : xs.find? (fun x => decide (x.1 ≠ 0)) = some xs[i] := by
    rw [List.find?_eq_some_iff_getElem]
    exact ⟨by simpa using hb, i, hi, rfl, fun j hj => by simpa using ho j (by omega) hj⟩
  rw [this]
theorem toldOf_good {r : RuleL} {xs : List Told} (h : ∀ x ∈ xs, x.1 = 0) : toldOf r xs = actOf r.kind r.word (xs.map Prod.snd) := by
  unfold toldOf
  have : xs.find? (fun x => decide (x.1 ≠ 0)) = none := by
    rw [List.find?_eq_none]
    intro x hx
    simpa using h x hx
  rw [this]
end Go.Proofs.YtgjialbmlhbngaaGreatDoor
