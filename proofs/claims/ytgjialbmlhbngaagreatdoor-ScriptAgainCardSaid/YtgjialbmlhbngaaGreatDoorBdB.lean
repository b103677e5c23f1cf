/-
  A build in memory; slices of steps, asked one by one. A build: what a step needs; is it ready; Ready. A build: numbers of steps; Ready, Over, State, Result, Why. A build: Ready, Over, State, Result, Why.
-/
import Derived.Test.YtgjialbmlhbngaaGreatDoorBdA
import Derived.Test.YtgjialbmlhbngaaGreatDoorPkL
import Derived.Test.YtgjialbmlhbngaaGreatDoorPkX

set_option maxRecDepth 100000
namespace Go.Proofs.YtgjialbmlhbngaaGreatDoor
open Go Go.RowKit Go.Kf Go.Sort Go.Proofs
abbrev ptrV (q : Nat) : Value := .pointer (some ⟨q, 0, none⟩)
structure BPl where
  b : Nat
  lb : Nat
  yb : Nat
  tb : Nat
  mb : Nat
  sb : Nat → Nat
  iv : Nat → Value
  cv : Value
def stRow (S : Nat → Addr) (r : RuleL) (v : Value) (s : St) : Array Value := #[str r.out, str r.kind, str r.word, v, .int .i64 (s.state : Int), .bool s.hit, str s.out, errN S s.why]
def byL (l : List RuleL) (P : List Nat) : List (List UInt8 × Nat) := P.map fun i => ((l.getD i noR).out, i)
def stepM (D : BPl) (P : List Nat) : List (Int × Nat) := P.map fun (i : Nat) => ((i : Int), D.sb i)
theorem mlook_map {α κ β : Type} [DecidableEq κ] (f : α → κ) (g : α → β) (k : κ) (P : List α) : mlook k (P.map fun i => (f i, g i)) = (P.find? fun i => decide (f i = k)).map g := by
  induction P with
  | nil => rfl
  | cons a P ih =>
    simp only [List.map_cons, List.find?_cons]
    unfold mlook
    by_cases h : f a = k
    · simp [h]
    · simp [h, ih]
theorem byL_look {l : List RuleL} {P : List Nat} (h : PartOk l P) (s : List UInt8) (k : Nat) : mlook s (byL l P) = some k ↔ k ∈ P ∧ (l.getD k noR).out = s := by
  unfold byL
  rw [mlook_map (fun i => (l.getD i noR).out) (fun i => i)]
  simp only [Option.map_id', List.find?_eq_some_iff_getElem]
  constructor
  · rintro ⟨h1, i, hi, rfl, -⟩
    exact ⟨List.getElem_mem hi, by simpa using h1⟩
  · rintro ⟨h1, h2⟩
    obtain ⟨i, hi, rfl⟩ := List.mem_iff_getElem.1 h1
    refine ⟨by simpa using h2, i, hi, rfl, fun j hj => ?_⟩
    have hj2 : j < P.length := by omega
    have hne : (l.getD P[j] noR).out ≠ s := fun e => by
      have h3 := h.lt _ (List.getElem_mem hi)
      have h4 := h.lt _ (List.getElem_mem hj2)
      rw [getD_at h3] at h2
      rw [getD_at h4] at e
      have := nodup_at h.nodup (h.right.2.outs h4 h3 (e.trans h2.symm))
      omega
    simpa using hne
theorem stepM_look {D : BPl} {P : List Nat} (k : Nat) : mlook (k : Int) (stepM D P) = if k ∈ P then some (D.sb k) else none := by
  unfold stepM
  induction P with
  | nil => rfl
  | cons a P ih =>
    rw [List.map_cons]
    unfold mlook
    by_cases h : a = k
    · subst h; simp
    · have h1 : ¬ (a : Int) = (k : Int) := by omega
      have h2 : ¬ k = a := fun e => h e.symm
      simp only [h1, if_false, List.mem_cons, h2, false_or]
      exact ih
theorem stepM_none {D : BPl} {P : List Nat} {i : Int} (h : ∀ (k : Nat), k ∈ P → i ≠ (k : Int)) : mlook i (stepM D P) = none := by
  rw [mlook_none]
  intro hm
  unfold stepM at hm
  rw [List.map_map] at hm
  obtain ⟨k, hk, e⟩ := List.mem_map.1 hm
  exact h k hk e.symm
def needsL (l : List RuleL) (P : List Nat) (i : Nat) : List Nat := colB (byL l P) (l.getD i noR).ins
theorem mem_needsL {l : List RuleL} {P : List Nat} (h : PartOk l P) {i : Nat} (hi : i ∈ P) {k : Nat} : k ∈ needsL l P i ↔ k ∈ edgesB l i := by
  have hil := h.lt i hi
  unfold needsL colB
  rw [List.mem_filterMap, mem_edges hil]
  constructor
  · rintro ⟨s, hs, hk⟩
    obtain ⟨h1, rfl⟩ := (byL_look h s k).1 hk
    refine ⟨h.lt k h1, ?_⟩
    rw [getD_at hil] at hs
    rw [getD_at (h.lt k h1)] at hs
    exact hs
  · rintro ⟨hk, hs⟩
    have hkP : k ∈ P := h.shut i hi k ((mem_edges hil).2 ⟨hk, hs⟩)
    refine ⟨l[k].out, by rw [getD_at hil]; exact hs, (byL_look h _ k).2 ⟨hkP, by rw [getD_at hk]⟩⟩
theorem needsL_in {l : List RuleL} {P : List Nat} (h : PartOk l P) {i : Nat} (hi : i ∈ P) : ∀ k ∈ needsL l P i, k ∈ P := fun k hk => h.shut i hi k ((mem_needsL h hi).1 hk)
structure BStat (l : List RuleL) (P : List Nat) (m : List Ent) (D : BPl) (w : World) : Prop where
  blk : w.heap[D.b]? = some (.cells #[ptrV D.tb, .map (some D.lb), .map (some D.yb), D.cv] 148 (0, 0))
  lm : MapIs (Value.int .i64) ptrV w D.lb (stepM D P)
  bm : MapIs str intE w D.yb (byL l P)
  tree : TAt w D.tb D.mb m
  ins : ∀ i ∈ P, w.ownsRow 0 9 1 (D.iv i) (l.getD i noR).ins.length ((l.getD i noR).ins.map str)
  inj : ∀ i ∈ P, ∀ j ∈ P, D.sb i = D.sb j → i = j
structure BAt (S : Nat → Addr) (l : List RuleL) (P : List Nat) (m : List Ent) (D : BPl) (w : World) (st : Nat → St) : Prop where
  stat : BStat l P m D w
  step : ∀ i ∈ P, w.heap[D.sb i]? = some (.cells (stRow S (l.getD i noR) (D.iv i) (st i)) 151 (0, 0))
def BPl.fix (D : BPl) (P : List Nat) (k : Nat) : Prop := k = D.b ∨ k = D.lb ∨ k = D.yb ∨ k = D.tb ∨ k = D.mb ∨ ∃ i ∈ P, (D.iv i).ownBlock = some k
def BPl.has (D : BPl) (P : List Nat) (k : Nat) : Prop := D.fix P k ∨ ∃ i ∈ P, k = D.sb i
def BPl.steps (D : BPl) (P : List Nat) (k : Nat) : Prop := ∃ i ∈ P, k = D.sb i
section
variable {S : Nat → Addr} {l : List RuleL} {P : List Nat} {m : List Ent} {D : BPl} {w w' : World} {st : Nat → St}
theorem BStat.lt (h : BStat l P m D w) {k : Nat} (hk : D.fix P k) : k < w.heap.size := by
  rcases hk with rfl | rfl | rfl | rfl | rfl | ⟨i, hi, hk⟩
  · exact lt_of_heap h.blk
  · exact h.lm.lt
  · exact h.bm.lt
  · exact h.tree.lt.1
  · exact h.tree.lt.2
  · exact ((h.ins i hi).lt k hk).2
theorem own_typed {base : Nat} {e : TypeId} {s : Nat} {v : Value} {n : Nat} {xs : List Value} (h : w.ownsRow base e s v n xs) {k : Nat} (hk : v.ownBlock = some k) : ∃ cs, w.heap[k]? = some (.cells cs e (0, 0)) := by
  rcases h.2 with ⟨rfl, -⟩ | ⟨g, cap, cur, rfl, -, hh, -⟩
  · cases hk
  · simp only [Value.ownBlock] at hk
    cases hk
    exact ⟨cur, hh⟩
theorem BAt.lt (h : BAt S l P m D w st) {k : Nat} (hk : D.has P k) : k < w.heap.size := by
  rcases hk with hk | ⟨i, hi, rfl⟩
  · exact h.stat.lt hk
  · exact lt_of_heap (h.step i hi)
theorem BAt.apart (h : BAt S l P m D w st) {k : Nat} (hk : D.fix P k) : ¬ D.steps P k := by
  rintro ⟨j, hj, e⟩
  have hs := h.step j hj
  rw [← e] at hs
  rcases hk with rfl | rfl | rfl | rfl | rfl | ⟨i, hi, hk⟩
  · rw [h.stat.blk] at hs
    simp at hs
  · obtain ⟨es, clock, hb, -⟩ := h.stat.lm
    rw [hb] at hs; cases hs
  · obtain ⟨es, clock, hb, -⟩ := h.stat.bm
    rw [hb] at hs; cases hs
  · rw [h.stat.tree.blk] at hs
    simp at hs
  · obtain ⟨es, clock, hb, -⟩ := h.stat.tree.map
    rw [hb] at hs; cases hs
  · obtain ⟨cs, hb⟩ := own_typed (h.stat.ins i hi) hk
    rw [hb] at hs
    simp at hs
theorem BStat.of_fr {B : Nat} {Q : Nat → Prop} (h : BStat l P m D w) (hf : Fr B Q w w') (hk : ∀ k, D.fix P k → k < B ∧ ¬ Q k) : BStat l P m D w' := by
  have hb := fun k (h : D.fix P k) => hf.block k (hk k h).1 (hk k h).2
  refine ⟨(hb _ (Or.inl rfl)).trans h.blk, h.lm.of_block (hb _ (Or.inr (Or.inl rfl))), h.bm.of_block (hb _ (Or.inr (Or.inr (Or.inl rfl)))), ?_, fun i hi => ?_, h.inj⟩
  · exact ⟨(hb _ (Or.inr (Or.inr (Or.inr (Or.inl rfl))))).trans h.tree.blk, h.tree.map.of_block (hb _ (Or.inr (Or.inr (Or.inr (Or.inr (Or.inl rfl))))))⟩
  · exact ownsRow_fr (h.ins i hi) hf (fun k hk2 => hk k (Or.inr (Or.inr (Or.inr (Or.inr (Or.inr ⟨i, hi, hk2⟩))))))
theorem BAt.of_fr {B : Nat} {Q : Nat → Prop} (h : BAt S l P m D w st) (hf : Fr B Q w w') (hk : ∀ k, D.has P k → k < B ∧ ¬ Q k) : BAt S l P m D w' st :=
  ⟨h.stat.of_fr hf (fun k h1 => hk k (Or.inl h1)), fun i hi => (hf.block _ (hk _ (Or.inr ⟨i, hi, rfl⟩)).1 (hk _ (Or.inr ⟨i, hi, rfl⟩)).2).trans (h.step i hi)⟩
theorem BAt.below (h : BAt S l P m D w st) (hb : Below w.heap.size w w') : BAt S l P m D w' st :=
  h.of_fr (Q := fun _ => False) (Fr.of_below hb) (fun _ hk => ⟨h.lt hk, id⟩)
theorem BAt.drewN (h : BAt S l P m D w st) (n : Nat) : BAt S l P m D (w.drewN n) st := h.below (below_drewN (Below.refl _ _) n)
theorem BAt.put (h : BAt S l P m D w st) {i : Nat} (hi : i ∈ P) {s : St} (hf : Fr w.heap.size (fun k => k = D.sb i) w w') (hb : w'.heap[D.sb i]? = some (.cells (stRow S (l.getD i noR) (D.iv i) s) 151 (0, 0))) : BAt S l P m D w' (setSt st i s) := by
  refine ⟨h.stat.of_fr hf (fun k hk => ⟨h.stat.lt hk, fun e => h.apart hk ⟨i, hi, e⟩⟩), fun j hj => ?_⟩
  by_cases hji : j = i
  · subst hji; rw [setSt_at]; exact hb
  · rw [setSt_ne _ hji]
    exact (hf.block _ (lt_of_heap (h.step j hj)) (fun e => hji (h.stat.inj j hj i hi e))).trans (h.step j hj)
theorem BAt.cells (h : BAt S l P m D w st) : w.cell? ⟨D.b, 0, none⟩ = some (ptrV D.tb) ∧ w.cell? ⟨D.b, 1, none⟩ = some (.map (some D.lb)) ∧ w.cell? ⟨D.b, 2, none⟩ = some (.map (some D.yb)) ∧ w.cell? ⟨D.b, 3, none⟩ = some D.cv :=
  ⟨(cell_of_heap h.stat.blk 0).trans rfl, (cell_of_heap h.stat.blk 1).trans rfl, (cell_of_heap h.stat.blk 2).trans rfl, (cell_of_heap h.stat.blk 3).trans rfl⟩
theorem BAt.at_ (h : BAt S l P m D w st) {i : Nat} (hi : i ∈ P) (k : Nat) : w.cell? ⟨D.sb i, k, none⟩ = (stRow S (l.getD i noR) (D.iv i) (st i))[k]? := cell_of_heap (h.step i hi) k
theorem BAt.free (h : BAt S l P m D w st) {i : Nat} (hi : i ∈ P) (k : Nat) : w.frozen? ⟨D.sb i, k, none⟩ = false := free_of_heap (h.step i hi) k
end
theorem stepUnd : Tryz.prog.underlying 145 = some (.map 3 149) := Tryz.underlying145
theorem stepZero (w : World) : (zeroValue 149).run Tryz.prog w = .ok (.pointer none) w := by kernel_rfl
theorem tySteps : SliceTy Tryz.prog 233 149 (.pointer none) 8 := ⟨Tryz.underlying233, by kernel_rfl, rfl⟩
def PredB (p : Nat → Bool) (g : Nat) (L : Array Value) (xs : List Nat) (w : World) : Prop := (∀ (args : Array Value) (w : World), (callFunc g args).run Tryz.prog w = .ok (.enter g args) w) ∧ ∀ (W : World) (x : Nat), x ∈ xs → Below w.heap.size w W → Calls Tryz.prog g (#[ptrV x] ++ L) W fun e w' => e = .returned (.bool (p x)) ∧ Below W.heap.size W w'
theorem idxI_hit {p : Nat → Bool} {l : List Nat} {i : Nat} (hi : i < l.length) (h : p l[i] = true) (hno : ∀ j (hj : j < l.length), j < i → p l[j] = false) : idxI p l = (i : Int) := by
  have : l.findIdx p = i := by
    rw [List.findIdx_eq hi]
    exact ⟨h, fun j hj => hno j (by omega) hj⟩
  unfold idxI
  rw [this, if_pos hi]
theorem idxI_miss {p : Nat → Bool} {l : List Nat} (hno : ∀ j (hj : j < l.length), p l[j] = false) : idxI p l = -1 := by
  unfold idxI
  rw [if_neg]
  intro h
  have := List.findIdx_getElem (p := p) (xs := l) (w := h)
  rw [hno _ h] at this
  cases this
theorem idxI_any (p : Nat → Bool) (l : List Nat) : decide (0 ≤ idxI p l) = l.any p := by
  unfold idxI
  by_cases h : l.findIdx p < l.length
  · rw [if_pos h, decide_eq_true (by omega)]
    exact (List.any_eq_true.2 (List.findIdx_lt_length.1 h)).symm
  · rw [if_neg h, decide_eq_false (by decide)]
    cases hq : l.any p with
    | false => rfl
    | true => exact absurd (List.findIdx_lt_length.2 (List.any_eq_true.1 hq)) h
set_option maxHeartbeats 1000000 in
theorem idxStep_any (p : Nat → Bool) (g : Nat) (v : Value) (xs : List Nat) (w : World) (hr : Reads w v (xs.map ptrV)) (hp : PredB p g #[] xs w) :
    Calls Tryz.prog 221 #[v, .func (.func g) #[] #[]] w fun e w' => e = .returned (.int .i64 (idxI p xs)) ∧ Below w.heap.size w w' := by
  have hle := hr.le
  obtain ⟨a, cap, rfl, -, -⟩ := id hr
  simp only [List.length_map] at *
  have eg := hp.1
  have HP := Hd hp.2
  have HR := Hd (fun W (hb : Below w.heap.size w W) => hr.below0 hb)
  clear hr hp
  go_enter Tryz.func221, Tryz.ntmps221
  go_wp2_with fail
  go_loopw [8] (fun iv wl => ∃ i : Nat, i ≤ xs.length ∧ iv = .int .i64 i ∧ (∀ j (hj : j < xs.length), j < i → p xs[j] = false) ∧ Below w.heap.size w wl) (fun iv _ => xs.length - (intOf iv).toNat)
  case atStart => exact ⟨0, by omega, rfl, fun j hj h => by omega, Below.refl _ _⟩
  case round =>
    obtain ⟨i, hi, rfl, hno, hbi⟩ := hrel
    have HNO := Hd hno
    have HBi := Hd hbi
    clear hno
    by_cases hlt : i < xs.length
    · have hlc : ((i : Int) < (xs.length : Int)) = True := eq_true (by omega)
      obtain ⟨b, o, hix, hce⟩ := (HR.out _ hbi).at (P := Tryz.prog) Tryz.underlying233 (by kernel_rfl) i (by simpa using hlt)
      simp only [List.getElem_map] at hce
      have KP := HP.out wr xs[i] (List.getElem_mem hlt) hbi
      simp only [Array.append_empty] at KP
      clear hbi
      cases hb : p xs[i] with
      | true =>
        have HF : Hid (idxI p xs = (i : Int)) := Hd (idxI_hit hlt hb HNO.out)
        rw [hb] at KP
        have KP1 := Hd KP
        clear KP hb
        generalize xs[i] = x at *
        go_wp2_with fail
        refine KP1.out.mono ?_
        rintro e w2 ⟨rfl, hb2⟩
        go_wp2
        go_ret
        exact ⟨by rw [HF.out]; rfl, HBi.out.trans (hb2.mono HBi.out.size)⟩
      | false =>
        have HN : Hid (∀ j (hj : j < xs.length), j < i + 1 → p xs[j] = false) := Hd (fun j hj h => by
          by_cases hji : j = i
          · subst hji; exact hb
          · exact HNO.out j hj (by omega))
        rw [hb] at KP
        have KP1 := Hd KP
        clear KP hb
        generalize xs[i] = x at *
        go_wp2_with fail
        refine KP1.out.mono ?_
        rintro e w2 ⟨rfl, hb2⟩
        have HB2 := Hd (HBi.out.trans (hb2.mono HBi.out.size))
        clear hb2 hce
        go_wp2
        go_roundw
        case rel => exact ⟨i + 1, by omega, by go_num, HN.out, HB2.out⟩
        case measure => simp [intOf]; omega
    · obtain rfl : i = xs.length := by omega
      have hlc : ((xs.length : Int) < (xs.length : Int)) = False := eq_false (by omega)
      have HF : Hid (idxI p xs = -1) := Hd (idxI_miss (fun j hj => HNO.out j hj hj))
      clear hbi
      go_wp2
      go_ret
      exact ⟨by rw [HF.out]; rfl, HBi.out⟩
theorem anyStep_any (p : Nat → Bool) (g : Nat) (v : Value) (xs : List Nat) (w : World) (hr : Reads w v (xs.map ptrV)) (hp : PredB p g #[] xs w) :
    Calls Tryz.prog 159 #[v, .func (.func g) #[] #[]] w fun e w' => e = .returned (.bool (xs.any p)) ∧ Below w.heap.size w w' := by
  have K := Hd (idxStep_any p g v xs w hr hp)
  rw [← idxI_any]
  obtain ⟨z, hz⟩ : ∃ z, idxI p xs = z := ⟨_, rfl⟩
  rw [hz] at K ⊢
  have hb : ∃ b, (0 ≤ z) = (b = true) ∧ decide (0 ≤ z) = b := ⟨decide (0 ≤ z), by simp, rfl⟩
  clear hz hr hp
  obtain ⟨b, hb1, hb2⟩ := hb
  rw [hb2]
  go_enter Tryz.func159, Tryz.ntmps159
  go_wp2_with fail
  refine K.out.mono ?_
  rintro e w1 ⟨rfl, hb1'⟩
  go_wp2
  go_ret
  exact ⟨by simp, hb1'⟩
set_option maxHeartbeats 2000000 in
theorem bneeds_any {S : Nat → Addr} {l : List RuleL} {P : List Nat} {m : List Ent} {D : BPl} {st : Nat → St} (w : World) (h : BAt S l P m D w st) (hP : PartOk l P) {i : Nat} (hi : i ∈ P) (hn : ∀ r ∈ l, r.ins.length ≤ 1000) :
    Calls Tryz.prog 160 #[ptrV D.b, ptrV (D.sb i)] w fun e w' => ∃ u, e = .returned u ∧ w'.ownsRow w.heap.size 149 1 u (needsL l P i).length (((needsL l P i).map D.sb).map ptrV) ∧ Below w.heap.size w w' := by
  have hc := h.at_ hi
  have h3 := (hc 3).trans (show _ = some (D.iv i) from rfl)
  have hlk : Hid (∀ wl, Below w.heap.size w wl → BAt S l P m D wl st) := Hd (fun wl hb => h.below hb)
  have hins := ownsRow_reads (h.stat.ins i hi)
  have HIN := Hd (fun wl (hb : Below w.heap.size w wl) => hins.below0 hb)
  have hlen : (l.getD i noR).ins.length ≤ 1000 := by
    rw [getD_at (hP.lt i hi)]
    exact hn _ (List.getElem_mem _)
  obtain ⟨a, c, hv, -, -⟩ := id hins
  rw [List.length_map] at hv
  have HNL : Hid (needsL l P i = colB (byL l P) (l.getD i noR).ins) := Hd rfl
  have HBY := Hd (fun s k => (byL_look hP s k).1)
  generalize (l.getD i noR).ins = ins at *
  rw [hv] at h3 HIN
  clear hc h hins hv hn
  go_enter Tryz.func160, Tryz.ntmps160
  go_wp2_with fail
  go_loopw [5, 16] (fun uv iv wl => ∃ j : Nat, j ≤ ins.length ∧ iv = .int .i64 j ∧ wl.ownsRow w.heap.size 149 1 uv (colB (byL l P) (ins.take j)).length (((colB (byL l P) (ins.take j)).map D.sb).map ptrV) ∧ Below w.heap.size w wl) (fun _ iv _ => ins.length - (intOf iv).toNat)
  case atStart => exact ⟨0, by omega, rfl, World.ownsRow_nil _ _ _ _, Below.refl _ _⟩
  case round =>
    obtain ⟨j, hj, rfl, hown, hbj⟩ := hrel
    have HO := Hd hown
    have HB := Hd hbj
    have hzj := hbj.size
    by_cases hlt : j < ins.length
    · have hlc : ((j : Int) < (ins.length : Int)) = True := eq_true (by omega)
      obtain ⟨b, o, hix, hce⟩ := (HIN.out _ hbj).at (P := Tryz.prog) Tryz.underlying33 (by kernel_rfl) j (by simpa using hlt)
      simp only [List.getElem_map] at hce
      have HTK : Hid (ins.take (j + 1) = ins.take j ++ [ins[j]]) := Hd (List.take_succ_eq_append_getElem hlt)
      have hcl : (colB (byL l P) (ins.take j)).length ≤ 1000 := by
        have h1 : (colB (byL l P) (ins.take j)).length ≤ (ins.take j).length := List.length_filterMap_le _ _
        rw [List.length_take] at h1
        omega
      generalize ins[j] = s at *
      have hat := hlk.out wr hbj
      obtain ⟨-, hd1, hd2, -⟩ := hat.cells
      have hl1 := hat.stat.bm.lookup (P := Tryz.prog) byKey byUnd byZero s true
      simp only [if_true] at hl1
      cases hk : mlook s (byL l P) with
      | none =>
        rw [hk] at hl1
        simp only [Option.map_none, Option.getD_none, Option.isSome_none] at hl1
        have HCS : Hid (colB (byL l P) (ins.take (j + 1)) = colB (byL l P) (ins.take j)) := Hd (by rw [HTK.out, colB_app, colB_none hk, List.append_nil])
        clear hown hbj hk hat hd1
        go_wp2
        go_roundw
        case rel => exact ⟨j + 1, by omega, by go_num, by rw [HCS.out]; exact HO.out, HB.out⟩
        case measure => simp [intOf]; omega
      | some k =>
        rw [hk] at hl1
        simp only [Option.map_some, Option.getD_some, Option.isSome_some] at hl1
        have HCS : Hid (colB (byL l P) (ins.take (j + 1)) = colB (byL l P) (ins.take j) ++ [k]) := Hd (by rw [HTK.out, colB_app, colB_some hk])
        have hkP := (HBY.out s k hk).1
        have hl2 := hat.stat.lm.lookup (P := Tryz.prog) needKey stepUnd stepZero (k : Int) false
        rw [stepM_look, if_pos hkP] at hl2
        simp only [Bool.false_eq_true, if_false, Option.map_some, Option.getD_some] at hl2
        clear hown hbj hk hat hkP
        go_wp2_with (first
          | (at_builtin
             refine wpList_app _ rfl _ _ 233 rfl tySteps w.heap.size _ _ _ rfl (HO.out.alloc _) ⟨wr.heap.size, 0, none⟩ 1 1 [ptrV (D.sb k)] rfl rfl (news_one ?_) ?_ (by decide) ?_ ?_ ?_
             · rw [cell_of_heap (heap_alloc_here wr _)]; rfl
             · intro u hu; simp at hu; subst hu; rfl
             · omega
             · simp; omega
             intro v6 w6 ho6 hg6 hloc6
             have HO6 : Hid (w6.ownsRow w.heap.size 149 1 v6 (colB (byL l P) (ins.take (j + 1))).length (((colB (byL l P) (ins.take (j + 1))).map D.sb).map ptrV)) := Hd (by rw [HCS.out]; simpa using ho6)
             have HB6 : Hid (Below w.heap.size w w6) := Hd ((HB.out.alloc hzj _).grown hg6 (by simp; omega) (fun q hq => (HO.out.lt q hq).1))
             clear ho6 hg6 hloc6))
        go_wp2
        go_roundw
        case rel => exact ⟨j + 1, by omega, by go_num, HO6.out, HB6.out⟩
        case measure => simp [intOf]; omega
    · obtain rfl : j = ins.length := by omega
      have hlc : ((ins.length : Int) < (ins.length : Int)) = False := eq_false (by omega)
      rw [List.take_length, ← HNL.out] at HO
      clear hown hbj
      go_wp2
      go_ret
      exact ⟨_, rfl, HO.out, HB.out⟩
def askB (D : BPl) (P : List Nat) (f : Nat → Bool) (q : Nat) : Bool := ((P.find? fun k => decide (D.sb k = q)).map f).getD false
theorem askB_at {D : BPl} {P : List Nat} (f : Nat → Bool) (hi : ∀ i ∈ P, ∀ j ∈ P, D.sb i = D.sb j → i = j) {k : Nat} (hk : k ∈ P) : askB D P f (D.sb k) = f k := by
  unfold askB
  cases hq : P.find? (fun j => decide (D.sb j = D.sb k)) with
  | none =>
    have := List.find?_eq_none.1 hq k hk
    simp at this
  | some j =>
    have h1 := List.find?_some hq
    have h2 := List.mem_of_find?_eq_some hq
    have : j = k := hi j h2 k hk (by simpa using h1)
    subst this
    rfl
theorem askB_any {D : BPl} {P xs : List Nat} (f : Nat → Bool) (hi : ∀ i ∈ P, ∀ j ∈ P, D.sb i = D.sb j → i = j) (hx : ∀ k ∈ xs, k ∈ P) : (xs.map D.sb).any (askB D P f) = xs.any f := by
  rw [List.any_map]
  rw [Bool.eq_iff_iff, List.any_eq_true, List.any_eq_true]
  constructor
  · rintro ⟨k, hk, h⟩
    exact ⟨k, hk, by rw [← askB_at f hi (hx k hk)]; exact h⟩
  · rintro ⟨k, hk, h⟩
    exact ⟨k, hk, by simp only [Function.comp_apply]; rw [askB_at f hi (hx k hk)]; exact h⟩
theorem bready1_any (q : Nat) (z : Int) (W : World) (hc : W.cell? ⟨q, 4, none⟩ = some (.int .i64 z)) :
    Calls Tryz.prog 161 #[ptrV q] W fun e w' => e = .returned (.bool (z != 2)) ∧ Below W.heap.size W w' := by
  go_enter Tryz.func161, Tryz.ntmps161
  go_wp2
  go_ret
  exact ⟨rfl, Below.refl _ _⟩
theorem bfail1_any (q : Nat) (z : Int) (W : World) (hc : W.cell? ⟨q, 4, none⟩ = some (.int .i64 z)) :
    Calls Tryz.prog 162 #[ptrV q] W fun e w' => e = .returned (.bool (decide (3 ≤ z))) ∧ Below W.heap.size W w' := by
  obtain ⟨b, hb, hb2⟩ : ∃ b, (3 ≤ z) = (b = true) ∧ decide (3 ≤ z) = b := ⟨decide (3 ≤ z), by simp, rfl⟩
  rw [hb2]
  clear hb2
  go_enter Tryz.func162, Tryz.ntmps162
  go_wp2
  go_ret
  exact ⟨by simp, Below.refl _ _⟩
theorem ready_bool {l : List RuleL} {P : List Nat} {st : Nat → St} (hP : PartOk l P) {i : Nat} (hi : i ∈ P) : readyB l st i = (((st i).state : Int) == 1 && !((needsL l P i).any fun k => ((st k).state : Int) != 2)) := by
  have hbn : ∀ x : Int, (x != 2) = !(x == 2) := fun _ => rfl
  simp only [hbn]
  have h1 : ∀ (n : Nat) (m : Nat), ((n : Int) == (m : Int)) = decide (n = m) := fun n m => by
    rw [Bool.eq_iff_iff, beq_iff_eq, decide_eq_true_eq]
    omega
  rw [Bool.eq_iff_iff, readyB_iff]
  unfold ReadyP
  rw [Bool.and_eq_true, Bool.not_eq_true', List.any_eq_false]
  have h2 := h1 (st i).state 1
  rw [show ((1 : Nat) : Int) = 1 from rfl] at h2
  rw [h2, decide_eq_true_eq]
  refine and_congr Iff.rfl ⟨fun h k hk => ?_, fun h k hk => ?_⟩
  · have h3 := h1 (st k).state 2
    rw [show ((2 : Nat) : Int) = 2 from rfl] at h3
    rw [h3, h k ((mem_needsL hP hi).1 hk)]
    decide
  · have h4 := h k ((mem_needsL hP hi).2 hk)
    have h3 := h1 (st k).state 2
    rw [show ((2 : Nat) : Int) = 2 from rfl] at h3
    rw [h3] at h4
    simpa using h4
set_option maxHeartbeats 1000000 in
theorem bready_any {S : Nat → Addr} {l : List RuleL} {P : List Nat} {m : List Ent} {D : BPl} {st : Nat → St} (w : World) (h : BAt S l P m D w st) (hP : PartOk l P) {i : Nat} (hi : i ∈ P) (hn : ∀ r ∈ l, r.ins.length ≤ 1000) :
    Calls Tryz.prog 92 #[ptrV D.b, ptrV (D.sb i)] w fun e w' => e = .returned (.bool (readyB l st i)) ∧ Below w.heap.size w w' := by
  have h4 := (h.at_ hi 4).trans (show _ = some (.int .i64 ((st i).state : Int)) from rfl)
  have KN := Hd (bneeds_any w h hP hi hn)
  have KA := Hd (fun (wl : World) (hb : Below w.heap.size w wl) (v : Value) (hr : Reads wl v (((needsL l P i).map D.sb).map ptrV)) =>
    anyStep_any (askB D P fun k => ((st k).state : Int) != 2) 161 v ((needsL l P i).map D.sb) wl hr ⟨fun _ _ => rfl, fun W x hx hW => by
      obtain ⟨k, hk, rfl⟩ := List.mem_map.1 hx
      have hkP := needsL_in hP hi k hk
      have hb2 := hb.trans (hW.mono hb.size)
      rw [askB_at _ h.stat.inj hkP]
      have := bready1_any (D.sb k) ((st k).state : Int) W (((h.below hb2).at_ hkP 4).trans (show (stRow S (l.getD k noR) (D.iv k) (st k))[4]? = some (Value.int .i64 ((st k).state : Int)) from rfl))
      simpa using this⟩)
  have HE : Hid (((needsL l P i).map D.sb).any (askB D P fun k => ((st k).state : Int) != 2) = (needsL l P i).any fun k => ((st k).state : Int) != 2) := Hd (askB_any _ h.stat.inj (needsL_in hP hi))
  rw [ready_bool hP hi]
  rw [HE.out] at KA
  obtain ⟨b, hb⟩ : ∃ b, ((needsL l P i).any fun k => ((st k).state : Int) != 2) = b := ⟨_, rfl⟩
  rw [hb] at KA ⊢
  clear h hb HE
  by_cases h1 : (((st i).state : Int) == 1) = true
  · rw [h1]
    go_enter Tryz.func92, Tryz.ntmps92
    go_wp2_with fail
    refine KN.out.mono ?_
    rintro e w1 ⟨u, rfl, hown, hb1⟩
    have KA1 := Hd (KA.out w1 hb1 u (ownsRow_reads hown))
    have HB1 := Hd hb1
    clear hown hb1 KA
    go_wp2_with fail
    refine KA1.out.mono ?_
    rintro e w2 ⟨rfl, hb2⟩
    have HB2 := Hd (HB1.out.trans (hb2.mono HB1.out.size))
    clear hb2
    go_wp2
    go_ret
    exact ⟨by simp, HB2.out⟩
  · have h1' : (((st i).state : Int) == 1) = false := by simpa using h1
    rw [h1']
    go_enter Tryz.func92, Tryz.ntmps92
    go_wp2
    go_ret
    exact ⟨by simp, Below.refl _ _⟩
theorem erase_perm {α : Type} {l : List α} {i : Nat} (h : i < l.length) : (l[i] :: l.eraseIdx i).Perm l := by
  induction l generalizing i with
  | nil => cases h
  | cons a l ih =>
    cases i with
    | zero => exact List.Perm.refl _
    | succ i =>
      have hi : i < l.length := by simpa using h
      simp only [List.getElem_cons_succ, List.eraseIdx_cons_succ]
      exact (List.Perm.swap a l[i] _).trans ((ih hi).cons a)
theorem num_step {P lf out : List Nat} {f : Nat → Bool} (h : (out ++ lf.filter f).Perm (P.filter f)) {i : Nat} (hi : i < lf.length) : ((if f lf[i] = true then out ++ [lf[i]] else out) ++ (lf.eraseIdx i).filter f).Perm (P.filter f) := by
  refine List.Perm.trans ?_ h
  have hp := (erase_perm hi).filter f
  rw [List.filter_cons] at hp
  by_cases hf : f lf[i] = true
  · rw [if_pos hf] at hp ⊢
    rw [List.append_assoc, List.singleton_append]
    exact hp.append_left out
  · rw [if_neg hf] at hp ⊢
    exact hp.append_left out
theorem sort_perm {a b : List Nat} (h : a.Perm b) (hs : b.Pairwise (· < ·)) : sortI (intsB a) = intsB b := by
  refine List.Perm.eq_of_pairwise (le := fun a b => decide (a ≤ b) = true) (fun a b _ _ h1 h2 => ?_) ?_ ?_ ((List.mergeSort_perm _ _).trans (h.map _))
  · simp only [decide_eq_true_eq] at h1 h2
    omega
  · refine List.pairwise_mergeSort (fun a b c h1 h2 => ?_) (fun a b => ?_) _
    · simp only [decide_eq_true_eq] at *
      omega
    · rcases Int.le_total a b with h | h
      · simp [h]
      · simp [h]
  · refine List.pairwise_map.2 (hs.imp (fun {a b} hab => ?_))
    exact decide_eq_true (by show (a : Int) ≤ (b : Int); omega)
theorem stepM_erase (D : BPl) (lf : List Nat) (i : Nat) : (stepM D lf).eraseIdx i = stepM D (lf.eraseIdx i) := by
  unfold stepM
  rw [map_eraseIdx]
theorem stepM_len (D : BPl) (lf : List Nat) : (stepM D lf).length = lf.length := by simp [stepM]
theorem stepM_at (D : BPl) {lf : List Nat} {i : Nat} (hi : i < lf.length) (h : i < (stepM D lf).length) : (stepM D lf)[i] = ((lf[i] : Int), D.sb lf[i]) := by simp [stepM]
def AskF (g : Nat) (F : Array Value) (D : BPl) (P : List Nat) (f : Nat → Bool) (w : World) : Prop := (∀ (args : Array Value) (w : World), (callFunc g args).run Tryz.prog w = .ok (.enter g args) w) ∧ ∀ (W : World) (k : Nat), k ∈ P → Below w.heap.size w W → Calls Tryz.prog g (F ++ #[ptrV (D.sb k)]) W fun e w' => e = .returned (.bool (f k)) ∧ Below W.heap.size W w'
set_option maxHeartbeats 2000000 in
theorem bnumbers_any {S : Nat → Addr} {l : List RuleL} {P : List Nat} {m : List Ent} {D : BPl} {st : Nat → St} (w : World) (h : BAt S l P m D w st) (hP : PartOk l P) (g : Nat) (F : Array Value) (f : Nat → Bool) (hf : AskF g F D P f w) :
    Calls Tryz.prog 147 #[ptrV D.b, .func (.func g) F #[]] w fun e w' => ∃ u, e = .returned u ∧ w'.ownsRow w.heap.size 3 1 u (P.filter f).length ((intsB (P.filter f)).map (Value.int .i64)) ∧ Below w.heap.size w w' := by
  obtain ⟨-, hc1, -, -⟩ := h.cells
  have eg := hf.1
  have HF := Hd hf.2
  obtain ⟨w1, hrg, hR, hb1⟩ := Ranging.start (P := Tryz.prog) stepUnd h.stat.lm
  have HR1 := Hd hR
  have HB1 := Hd hb1
  have HRISE := Hd hP.rise
  have hmany := hP.many
  clear h hf hR hb1
  go_enter Tryz.func147, Tryz.ntmps147
  obtain ⟨r, hr⟩ : ∃ r, w.heap.size = r := ⟨_, rfl⟩
  have HRR := Hd hr
  have hz1 := HR1.out.lt.2
  rw [hr] at hrg HR1 hz1
  clear hr
  go_wp2_with fail
  go_loopw [5] (fun uv wl => ∃ lf out : List Nat, Ranging (Value.int .i64) ptrV D.lb r (stepM D P) (stepM D lf) wl ∧ (∀ k ∈ lf, k ∈ P) ∧ (out ++ lf.filter f).Perm (P.filter f) ∧ wl.ownsRow w1.heap.size 3 1 uv out.length ((intsB out).map (Value.int .i64)) ∧ Fr w1.heap.size (fun k => k = r) w1 wl) (fun _ wl => iterLeft wl D.lb r)
  case atStart => exact ⟨P, [], HR1.out, fun k hk => hk, by simp, World.ownsRow_nil _ _ _ _, Fr.refl _ _ _⟩
  case round =>
    obtain ⟨lf, out, hR, hsub, hperm, hown, hfr⟩ := hrel
    have HSUB := Hd hsub
    have HPM := Hd hperm
    have HO := Hd hown
    have HFR := Hd hfr
    have HI := Hd (iterLeft_of hR)
    have hol : out.length ≤ 40 := by
      have h1 := hperm.length_eq
      rw [List.length_append] at h1
      have h2 := List.length_filter_le f P
      omega
    have HBW : Hid (∀ wl, Fr w1.heap.size (fun k => k = r) w1 wl → Below w.heap.size w wl) := Hd (fun wl h => HB1.out.trans ((h.mono (S' := fun k => k = r) (B' := w.heap.size) (by have := HB1.out.size; omega) (fun _ _ h => h)).below (fun k hk e => by have := HRR.out; omega)))
    clear hsub hperm hown
    rcases hR.next (P := Tryz.prog) 0 with ⟨h0, hnx⟩ | ⟨i, hi, w3, hnx, hR3, hF3, hz3, hen⟩
    · have h00 : lf = [] := List.map_eq_nil_iff.1 h0
      subst h00
      have HSRT : Hid (sortI (intsB out) = intsB (P.filter f)) := Hd (sort_perm (by have := HPM.out; simpa using this) (List.Pairwise.filter _ HRISE.out))
      have HBF := Hd (HBW.out _ hfr)
      have KS := Hd (sortI_any u5 (intsB out) w1.heap.size wr (by simpa [intsB] using HO.out) (by simp [intsB]; omega))
      clear hR hfr h0
      go_wp2_with fail
      refine KS.out.mono ?_
      rintro e w5 ⟨rfl, ho5, hg5⟩
      rw [HSRT.out] at ho5
      have HO5 := Hd ho5
      have HB5 := Hd (HBF.out.grown hg5 HBF.out.size (fun q hq => by have := (HO.out.lt q hq).1; have := HB1.out.size; omega))
      clear ho5 hg5
      go_wp2
      go_ret
      exact ⟨_, rfl, by have h := HO5.out; rw [show (intsB (P.filter f)).length = (P.filter f).length by simp [intsB]] at h; exact ownsRow_base h HB1.out.size, HB5.out⟩
    · have hil : i < lf.length := by rw [stepM_len] at hi; exact hi
      rw [stepM_at D hil hi] at hnx hen
      rw [stepM_erase] at hR3
      have HR3 := Hd hR3
      have hF3' : Fr w1.heap.size (fun k => k = r) w1 w3 := hfr.trans (hF3.mono hfr.size (fun _ _ h => h))
      have HF3 := Hd hF3'
      have HNS := Hd (num_step HPM.out hil)
      have HKP := Hd (HSUB.out _ (List.getElem_mem hil))
      have HSB : Hid (∀ k ∈ lf.eraseIdx i, k ∈ P) := Hd (fun k hk => HSUB.out k (List.mem_of_mem_eraseIdx hk))
      have HLL : Hid ((lf.eraseIdx i).length < lf.length) := Hd (by rw [List.length_eraseIdx, if_pos hil]; omega)
      have KC := Hd (HF.out w3 lf[i] HKP.out (HBW.out _ hF3'))
      have HO3 : Hid (w3.ownsRow w1.heap.size 3 1 u5 out.length ((intsB out).map (Value.int .i64))) := Hd (ownsRow_fr HO.out hF3 (fun q hq => by have := HO.out.lt q hq; exact ⟨this.2, by omega⟩))
      clear hR hR3 hF3 hfr hi hF3'
      generalize lf[i] = k at *
      generalize lf.eraseIdx i = lf2 at *
      clear hil
      cases hfk : f k with
      | true =>
        rw [hfk] at KC
        rw [hfk, if_pos rfl] at HNS
        go_wp2_with fail
        refine KC.out.mono ?_
        rintro e w4 ⟨rfl, hb4⟩
        have HR4 := Hd (HR3.out.of_blocks (hb4.block _ HR3.out.lt.1) (hb4.block _ HR3.out.lt.2))
        have HF4 : Hid (Fr w1.heap.size (fun k => k = r) w1 w4) := Hd (HF3.out.trans ((Fr.of_below hb4).mono HF3.out.size (fun _ _ h => h)))
        have HO4 := Hd (ownsRow_fr (S := fun _ => False) HO3.out (Fr.of_below hb4) (fun q hq => ⟨(HO3.out.lt q hq).2, id⟩))
        have hz4 := HF4.out.size
        clear hb4
        go_wp2_with (first
          | (at_builtin
             refine wpList_app _ rfl _ _ 53 rfl tyInts w1.heap.size _ _ _ rfl (HO4.out.alloc _) ⟨w4.heap.size, 0, none⟩ 1 1 [intE k] rfl rfl (news_one ?_) ?_ (by decide) ?_ ?_ ?_
             · rw [cell_of_heap (heap_alloc_here w4 _)]; rfl
             · intro u hu; simp at hu; subst hu; rfl
             · omega
             · simp; omega
             intro v6 w6 ho6 hg6 hloc6
             have HO6 : Hid (w6.ownsRow w1.heap.size 3 1 v6 (out ++ [k]).length ((intsB (out ++ [k])).map (Value.int .i64))) := Hd (by simpa [intsB] using ho6)
             have hne : ∀ q, u5.ownBlock = some q → q ≠ r := fun q hq => by have := HO4.out.lt q hq; omega
             have HF6 : Hid (Fr w1.heap.size (fun k => k = r) w1 w6) := Hd ((HF4.out.alloc hz4 _).grown hg6 (by simp; omega) (fun q hq hlt => by have := HO4.out.lt q hq; omega))
             have HR6 : Hid (Ranging (Value.int .i64) ptrV D.lb r (stepM D P) (stepM D lf2) w6) := Hd (by
               have h1 := HR4.out.lt
               have h2 : ∀ b, b < w4.heap.size → u5.ownBlock ≠ some b → w6.heap[b]? = w4.heap[b]? := fun b hb hn => (hg6.block b (by simp; omega) (fun e => hn e.symm)).trans (Below.heap_alloc _ _ _ hb)
               refine HR4.out.of_blocks (h2 _ h1.1 (fun e => ?_)) (h2 _ h1.2 (fun e => hne _ e rfl))
               obtain ⟨cs, hcs⟩ := own_typed HO4.out e
               obtain ⟨es, clock, since, seen, c0, hb, -⟩ := HR4.out
               rw [hb] at hcs
               cases hcs)
             clear ho6 hg6 hloc6 hne))
        go_wp2
        go_roundw
        case rel => exact ⟨lf2, out ++ [k], HR6.out, HSB.out, HNS.out, HO6.out, HF6.out⟩
        case measure => rw [iterLeft_of HR6.out, HI.out, stepM_len, stepM_len]; exact HLL.out
      | false =>
        rw [hfk] at KC
        rw [hfk, if_neg (by decide)] at HNS
        go_wp2_with fail
        refine KC.out.mono ?_
        rintro e w4 ⟨rfl, hb4⟩
        have HR4 := Hd (HR3.out.of_blocks (hb4.block _ HR3.out.lt.1) (hb4.block _ HR3.out.lt.2))
        have HF4 : Hid (Fr w1.heap.size (fun k => k = r) w1 w4) := Hd (HF3.out.trans ((Fr.of_below hb4).mono HF3.out.size (fun _ _ h => h)))
        have HO4 := Hd (ownsRow_fr (S := fun _ => False) HO3.out (Fr.of_below hb4) (fun q hq => ⟨(HO3.out.lt q hq).2, id⟩))
        clear hb4
        go_wp2
        go_roundw
        case rel => exact ⟨lf2, out, HR4.out, HSB.out, HNS.out, HO4.out, HF4.out⟩
        case measure => rw [iterLeft_of HR4.out, HI.out, stepM_len, stepM_len]; exact HLL.out
def stName : Nat → List UInt8
  | 1 => [119, 97, 105, 116, 115]
  | 2 => [100, 111, 110, 101]
  | 3 => [102, 97, 105, 108, 101, 100]
  | 4 => [108, 101, 102, 116]
  | _ => []
section
variable {S : Nat → Addr} {l : List RuleL} {P : List Nat} {m : List Ent} {D : BPl} {w : World} {st : Nat → St}
theorem bReady_any (w : World) (h : BAt S l P m D w st) (hP : PartOk l P) (hn : ∀ r ∈ l, r.ins.length ≤ 1000) :
    Calls Tryz.prog 106 #[ptrV D.b] w fun e w' => ∃ u, e = .returned u ∧ w'.ownsRow w.heap.size 3 1 u (readyL l P st).length ((intsB (readyL l P st)).map (Value.int .i64)) ∧ Below w.heap.size w w' := by
  have K := Hd (bnumbers_any w h hP 92 #[ptrV D.b] (readyB l st) ⟨fun _ _ => rfl, fun W k hk hW => bready_any W (h.below hW) hP hk hn⟩)
  clear h
  go_enter Tryz.func106, Tryz.ntmps106
  go_wp2_with fail
  refine K.out.mono ?_
  rintro e w1 ⟨u, rfl, ho, hb⟩
  have HO := Hd ho
  have HB := Hd hb
  clear ho hb
  go_wp2
  go_ret
  exact ⟨_, rfl, HO.out, HB.out⟩
theorem bState_any (w : World) (h : BAt S l P m D w st) {k : Nat} (hk : k ∈ P) (hs : 1 ≤ (st k).state ∧ (st k).state ≤ 4) :
    Calls Tryz.prog 73 #[ptrV D.b, intE k] w fun e w' => e = .returned (str (stName (st k).state)) ∧ Below w.heap.size w w' := by
  obtain ⟨-, hc1, -, -⟩ := h.cells
  have hlk := h.stat.lm.lookup (P := Tryz.prog) needKey stepUnd stepZero (k : Int) true
  rw [stepM_look, if_pos hk] at hlk
  simp only [if_true, Option.map_some, Option.getD_some, Option.isSome_some] at hlk
  have h4 := (h.at_ hk 4).trans (show (stRow S (l.getD k noR) (D.iv k) (st k))[4]? = some (Value.int .i64 ((st k).state : Int)) from rfl)
  generalize (st k).state = z at *
  have h4a := fun ob => (((Below.refl _ w).alloc (Nat.le_refl _) ob).cell (lt_of_cell h4)).trans h4
  clear h h4
  rcases (show z = 1 ∨ z = 2 ∨ z = 3 ∨ z = 4 by omega) with rfl | rfl | rfl | rfl
  case' inl => replace h4a : ∀ ob, (w.alloc ob).cell? ⟨D.sb k, 4, none⟩ = some (.int .i64 1) := h4a
  case' inr.inl => replace h4a : ∀ ob, (w.alloc ob).cell? ⟨D.sb k, 4, none⟩ = some (.int .i64 2) := h4a
  case' inr.inr.inl => replace h4a : ∀ ob, (w.alloc ob).cell? ⟨D.sb k, 4, none⟩ = some (.int .i64 3) := h4a
  case' inr.inr.inr => replace h4a : ∀ ob, (w.alloc ob).cell? ⟨D.sb k, 4, none⟩ = some (.int .i64 4) := h4a
  all_goals
    go_enter Tryz.func73, Tryz.ntmps73
    go_wp2
    go_ret
    exact ⟨rfl, (Below.refl _ w).alloc (Nat.le_refl _) _⟩
theorem step_none (h : BAt S l P m D w st) {i : Int} (hi : ∀ (k : Nat), k ∈ P → i ≠ (k : Int)) : (Instr.lookup 145 (.map (some D.lb)) (.int .i64 i) true).run Tryz.prog w = .ok (.tuple #[.pointer none, .bool false]) w := by
  have hlk := h.stat.lm.lookup (P := Tryz.prog) needKey stepUnd stepZero i true
  rw [stepM_none hi] at hlk
  simpa using hlk
theorem step_some (h : BAt S l P m D w st) {k : Nat} (hk : k ∈ P) : (Instr.lookup 145 (.map (some D.lb)) (intE k) true).run Tryz.prog w = .ok (.tuple #[ptrV (D.sb k), .bool true]) w := by
  have hlk := h.stat.lm.lookup (P := Tryz.prog) needKey stepUnd stepZero (k : Int) true
  rw [stepM_look, if_pos hk] at hlk
  simpa using hlk
theorem bStateNo_any (w : World) (h : BAt S l P m D w st) {i : Int} (hi : ∀ (k : Nat), k ∈ P → i ≠ (k : Int)) :
    Calls Tryz.prog 73 #[ptrV D.b, .int .i64 i] w fun e w' => e = .returned (str []) ∧ Below w.heap.size w w' := by
  obtain ⟨-, hc1, -, -⟩ := h.cells
  have hlk := step_none h hi
  clear h
  go_enter Tryz.func73, Tryz.ntmps73
  go_wp2
  go_ret
  exact ⟨rfl, Below.refl _ w⟩
def resOf (s : St) : List UInt8 × Bool := if s.state = 2 then (s.out, true) else ([], false)
theorem bResult_any (w : World) (h : BAt S l P m D w st) {k : Nat} (hk : k ∈ P) :
    Calls Tryz.prog 74 #[ptrV D.b, intE k] w fun e w' => e = .returned (.tuple #[str (resOf (st k)).1, .bool (resOf (st k)).2]) ∧ Below w.heap.size w w' := by
  obtain ⟨-, hc1, -, -⟩ := h.cells
  have hlk := step_some h hk
  have h4 := (h.at_ hk 4).trans (show (stRow S (l.getD k noR) (D.iv k) (st k))[4]? = some (Value.int .i64 ((st k).state : Int)) from rfl)
  have h6 := (h.at_ hk 6).trans (show (stRow S (l.getD k noR) (D.iv k) (st k))[6]? = some (str (st k).out) from rfl)
  unfold resOf
  generalize st k = s at *
  obtain ⟨z, hit, o, y⟩ := s
  simp only at h4 h6 ⊢
  clear h
  by_cases hz : z = 2
  · subst hz
    rw [if_pos rfl]
    replace h4 : w.cell? ⟨D.sb k, 4, none⟩ = some (.int .i64 2) := h4
    go_enter Tryz.func74, Tryz.ntmps74
    go_wp2
    go_ret2
    exact ⟨rfl, Below.refl _ w⟩
  · rw [if_neg hz]
    have hz2 : ((z : Int) == 2) = false := by simpa using (by omega : ¬ (z : Int) = 2)
    go_enter Tryz.func74, Tryz.ntmps74
    go_wp2
    go_ret2
    exact ⟨rfl, Below.refl _ w⟩
end
end Go.Proofs.YtgjialbmlhbngaaGreatDoor
