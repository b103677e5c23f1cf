/-
  The reference's Index and NeedsRule. What a right sheet's rules need, in plain words. slices.ContainsFunc, IndexFunc, Contains on ints; the edges as they read; rows of bools.
-/
import Derived.Test.YtgjialbmlhbngaaGreatDoorPkF
import Derived.Sort.OwnSortedInts
import Derived.Laws.MakeOwn

set_option maxRecDepth 100000
namespace Go.Proofs.YtgjialbmlhbngaaGreatDoor
open Go Go.RowKit Go.Kf Go.Sort Go.Proofs
def needB (l : List RuleL) (i k : Nat) : Bool := decide ((l.getD k ⟨[], [], [], []⟩).out ∈ (l.getD i ⟨[], [], [], []⟩).ins)
abbrev noR : RuleL := ⟨[], [], [], []⟩
def Right (l : List RuleL) : Prop := ∀ i r, l[i]? = some r → errAt l i r = 0
theorem Right.rule {l : List RuleL} (h : Right l) {i : Nat} (hi : i < l.length) : ruleErr l[i] = 0 ∧ l[i].out ∉ (l.take i).map RuleL.out := by
  have := h i l[i] (List.getElem?_eq_getElem hi)
  unfold errAt at this
  split at this
  · rename_i hne
    exact absurd this hne
  · rename_i hz
    split at this
    · cases this
    · rename_i hm
      exact ⟨Classical.byContradiction hz, hm⟩
theorem Right.outs {l : List RuleL} (h : Right l) {i j : Nat} (hi : i < l.length) (hj : j < l.length) (he : l[i].out = l[j].out) : i = j := by
  have key : ∀ {a b : Nat} (ha : a < l.length) (hb : b < l.length), a < b → l[a].out ≠ l[b].out := fun {a b} ha hb hab e => by
    refine (h.rule hb).2 (List.mem_map.2 ⟨l[a], ?_, e⟩)
    exact List.mem_iff_getElem.2 ⟨a, by rw [List.length_take]; omega, by rw [List.getElem_take]⟩
  rcases Nat.lt_trichotomy i j with hij | hij | hij
  · exact absurd he (key hi hj hij)
  · exact hij
  · exact absurd he.symm (key hj hi hij)
theorem ruleErr_nodup {r : RuleL} (h : ruleErr r = 0) : r.ins.Nodup := by
  have hd : dupB r = false := by
    unfold ruleErr at h
    split at h
    · cases h
    · split at h
      · rename_i h1
        exact absurd h h1
      · split at h
        · cases h
        · split at h
          · cases h
          · rename_i hd
            exact Bool.eq_false_iff.2 hd
  refine List.pairwise_iff_getElem.2 (fun i j hi hj hij e => ?_)
  have : dupB r = true := by
    unfold dupB
    refine List.any_eq_true.2 ⟨j, List.mem_range.2 hj, ?_⟩
    rw [List.getD_eq_getElem?_getD, List.getElem?_eq_getElem hj]
    have hm : r.ins[j] ∈ r.ins.take j := by
      rw [← e]
      exact List.mem_iff_getElem.2 ⟨i, by rw [List.length_take]; omega, by rw [List.getElem_take]⟩
    simp [hm]
  rw [hd] at this
  cases this
def edgesB (l : List RuleL) (i : Nat) : List Nat := (List.range l.length).filter (needB l i)
theorem mem_edges {l : List RuleL} {i k : Nat} (hi : i < l.length) : k ∈ edgesB l i ↔ ∃ hk : k < l.length, l[k].out ∈ l[i].ins := by
  unfold edgesB
  rw [List.mem_filter, List.mem_range]
  constructor
  · rintro ⟨hk, hn⟩
    refine ⟨hk, ?_⟩
    unfold needB at hn
    rw [decide_eq_true_eq, List.getD_eq_getElem?_getD, List.getD_eq_getElem?_getD, List.getElem?_eq_getElem hi, List.getElem?_eq_getElem hk] at hn
    exact hn
  · rintro ⟨hk, hn⟩
    refine ⟨hk, ?_⟩
    unfold needB
    rw [decide_eq_true_eq, List.getD_eq_getElem?_getD, List.getD_eq_getElem?_getD, List.getElem?_eq_getElem hi, List.getElem?_eq_getElem hk]
    exact hn
def ByIs (l : List RuleL) (i : Nat) (by_ : List (List UInt8 × Nat)) : Prop := ∀ s k, mlook s by_ = some k ↔ ∃ hk : k < l.length, k < i ∧ l[k].out = s
def colB (by_ : List (List UInt8 × Nat)) (ins : List (List UInt8)) : List Nat := ins.filterMap fun s => mlook s by_
theorem colB_perm {l : List RuleL} (h : Right l) {by_ : List (List UInt8 × Nat)} (hb : ByIs l l.length by_) {i : Nat} (hi : i < l.length) : (colB by_ l[i].ins).Perm (edgesB l i) := by
  have hn := ruleErr_nodup (h.rule hi).1
  refine (List.perm_ext_iff_of_nodup ?_ ?_).2 (fun k => ?_)
  · unfold colB
    refine List.pairwise_filterMap.2 (List.Pairwise.imp ?_ hn)
    intro a b hab k hk k' hk' e
    subst e
    obtain ⟨hk1, -, e1⟩ := (hb a k).1 hk
    obtain ⟨hk2, -, e2⟩ := (hb b k).1 hk'
    exact hab (e1.symm.trans e2)
  · unfold edgesB
    exact List.Pairwise.filter _ List.nodup_range
  · rw [mem_edges hi]
    unfold colB
    rw [List.mem_filterMap]
    constructor
    · rintro ⟨s, hs, hk⟩
      obtain ⟨hk1, -, e1⟩ := (hb s k).1 hk
      exact ⟨hk1, e1 ▸ hs⟩
    · rintro ⟨hk, hm⟩
      exact ⟨_, hm, (hb _ k).2 ⟨hk, hk, rfl⟩⟩
abbrev intsB (l : List Nat) : List Int := l.map Int.ofNat
def sortI (l : List Int) : List Int := l.mergeSort fun x y => decide (x ≤ y)
theorem edges_sorted {l : List RuleL} (h : Right l) {by_ : List (List UInt8 × Nat)} (hb : ByIs l l.length by_) {i : Nat} (hi : i < l.length) : sortI (intsB (colB by_ l[i].ins)) = intsB (edgesB l i) := by
  refine List.Perm.eq_of_pairwise (le := fun a b => decide (a ≤ b) = true) (fun a b _ _ h1 h2 => ?_) ?_ ?_ ((List.mergeSort_perm _ _).trans ((colB_perm h hb hi).map _))
  · simp only [decide_eq_true_eq] at h1 h2
    omega
  · refine List.pairwise_mergeSort (fun a b c h1 h2 => ?_) (fun a b => ?_) _
    · simp only [decide_eq_true_eq] at *
      omega
    · rcases Int.le_total a b with h | h
      · simp [h]
      · simp [h]
  · refine List.pairwise_map.2 ?_
    unfold edgesB
    refine List.Pairwise.imp (fun {a b} hab => ?_) (List.Pairwise.filter _ List.pairwise_lt_range)
    exact decide_eq_true (by show (a : Int) ≤ (b : Int); omega)
theorem ByIs.step {l : List RuleL} (h : Right l) {by_ : List (List UInt8 × Nat)} {i : Nat} (hb : ByIs l i by_) (hi : i < l.length) : ByIs l (i + 1) (mupd l[i].out i by_) := fun s k => by
  have hm : mlook s (mupd l[i].out i by_) = if s = l[i].out then some i else mlook s by_ := by
    rw [mlook_upd]
    by_cases h : l[i].out = s
    · rw [if_pos h, if_pos h.symm]
    · rw [if_neg h, if_neg (fun e => h e.symm)]
  rw [hm]
  by_cases hs : s = l[i].out
  · rw [if_pos hs]
    constructor
    · intro e
      obtain rfl := Option.some.inj e
      exact ⟨hi, by omega, hs.symm⟩
    · rintro ⟨hk, -, e⟩
      rw [h.outs hi hk (hs.symm.trans e.symm)]
  · rw [if_neg hs, hb]
    constructor
    · rintro ⟨hk, h1, e⟩
      exact ⟨hk, by omega, e⟩
    · rintro ⟨hk, h1, e⟩
      refine ⟨hk, ?_, e⟩
      rcases Nat.lt_or_ge k i with h2 | h2
      · exact h2
      · obtain rfl : k = i := by omega
        exact absurd e.symm hs
def VRow (t : TypeId) (w : World) (g : Nat) (vs : List Value) : Prop := w.heap[g]? = some (.cells vs.toArray t (0, 0))
theorem VRow.cell {t : TypeId} {w : World} {g : Nat} {vs : List Value} (h : VRow t w g vs) {k : Nat} {v : Value} (hk : vs[k]? = some v) : w.cell? ⟨g, k, none⟩ = some v := by
  rw [cell_of_heap h]
  simpa using hk
theorem VRow.frozen {t : TypeId} {w : World} {g : Nat} {vs : List Value} (h : VRow t w g vs) (k : Nat) : w.frozen? ⟨g, k, none⟩ = false := by simp [World.frozen?, show w.heap[g]? = _ from h]
theorem VRow.lt {t : TypeId} {w : World} {g : Nat} {vs : List Value} (h : VRow t w g vs) : g < w.heap.size := lt_of_heap h
theorem VRow.set {t : TypeId} {w : World} {g : Nat} {vs : List Value} (h : VRow t w g vs) (k : Nat) (v : Value) : VRow t (w.setCell ⟨g, k, none⟩ v) g (vs.set k v) := by
  unfold VRow
  rw [Kf.heap_setCell_same h]
  simp
theorem VRow.fr {t : TypeId} {w w' : World} {g B : Nat} {S : Nat → Prop} {vs : List Value} (h : VRow t w g vs) (hf : Fr B S w w') (hg : g < B) (hs : ¬ S g) : VRow t w' g vs := (hf.block g hg hs).trans h
theorem VRow.below0 {t : TypeId} {w w' : World} {g : Nat} {vs : List Value} (h : VRow t w g vs) (hb : Below w.heap.size w w') : VRow t w' g vs := (hb.block g h.lt).trans h
theorem sortI_any (v : Value) (l : List Int) (B : Nat) (w : World) (h : w.ownsRow B 3 1 v l.length (l.map (Value.int .i64))) (hl : l.length ≤ 1000000000) :
    Calls Tryz.prog 193 #[v] w fun e w' => e = .returned (.tuple #[]) ∧ w'.ownsRow B 3 1 v (sortI l).length ((sortI l).map (Value.int .i64)) ∧ w.grownBy w' v.ownBlock := by
  have hsl : (sortI l).length = l.length := List.length_mergeSort _
  rcases h.2 with ⟨rfl, h0⟩ | ⟨g, cap, cur, rfl, hg, hh, hn, hcap, hsz, htake⟩
  · obtain rfl := List.length_eq_zero_iff.1 h0
    refine (Tryz.slices_Sort_int_none none 0 w).mono ?_
    rintro e w' ⟨rfl, rfl⟩
    have e0 : sortI [] = [] := List.mergeSort_nil
    rw [e0]
    exact ⟨rfl, h, .refl _ _⟩
  · refine (Tryz.slices_Sort_int g 0 cap l w (holds_of_blockI hh (by simpa using htake)) (lt_of_heap hh) (by omega)).mono ?_
    rintro e w' ⟨rfl, n, os, rfl⟩
    refine ⟨rfl, ?_, grownBy_sortedI _⟩
    have := ownsRow_sortedI (n := n) (os := os) (ts := sortI l) hsl hg hh hn hcap hsz
    rw [hsl]
    exact this
structure Rows (B : Nat) (w : World) (g : Nat) (vs : List Value) (X : List (List Int)) : Prop where
  row : VRow 53 w g vs
  len : vs.length = X.length
  own : ∀ j (h : j < vs.length) (h2 : j < X.length), w.ownsRow B 3 1 vs[j] X[j].length (X[j].map (Value.int .i64))
  sep : ∀ j (h : j < vs.length), ∀ b, vs[j].ownBlock = some b → b ≠ g ∧ ∀ k (hk : k < vs.length), k ≠ j → vs[k].ownBlock ≠ some b
theorem Rows.below0 {B : Nat} {w w' : World} {g : Nat} {vs : List Value} {X : List (List Int)} (h : Rows B w g vs X) (hb : Below w.heap.size w w') : Rows B w' g vs X :=
  ⟨h.row.below0 hb, h.len, fun j h1 h2 => ownsRow_fr (S := fun _ => False) (h.own j h1 h2) (Fr.of_below hb) (fun k hk => ⟨((h.own j h1 h2).lt k hk).2, id⟩), h.sep⟩
theorem Rows.grown {B : Nat} {w w1 : World} {g : Nat} {vs : List Value} {X : List (List Int)} (h : Rows B w g vs X) {i : Nat} (hi : i < vs.length) (hg : w.grownBy w1 vs[i].ownBlock) :
    VRow 53 w1 g vs ∧ ∀ j (h1 : j < vs.length) (h2 : j < X.length), j ≠ i → w1.ownsRow B 3 1 vs[j] X[j].length (X[j].map (Value.int .i64)) :=
  ⟨h.row.fr (Fr.of_grown hg) h.row.lt (fun e => (h.sep i hi _ e).1 rfl), fun j h1 h2 hji => ownsRow_fr (h.own j h1 h2) (Fr.of_grown hg) (fun k hk => ⟨((h.own j h1 h2).lt k hk).2, fun e => (h.sep i hi k e).2 j h1 hji hk⟩)⟩
theorem Rows.sorted {B : Nat} {w w1 : World} {g : Nat} {vs : List Value} {X : List (List Int)} (h : Rows B w g vs X) {i : Nat} (hi : i < vs.length) {Y : List Int} (hg : w.grownBy w1 vs[i].ownBlock) (ho : w1.ownsRow B 3 1 vs[i] Y.length (Y.map (Value.int .i64))) : Rows B w1 g vs (X.set i Y) := by
  obtain ⟨hr, ho2⟩ := h.grown hi hg
  refine ⟨hr, by rw [List.length_set]; exact h.len, fun j h1 h2 => ?_, h.sep⟩
  by_cases hji : j = i
  · subst hji
    simpa using ho
  · rw [List.length_set] at h2
    have := ho2 j h1 h2 hji
    simpa [List.getElem_set, Ne.symm hji] using this
theorem Rows.put {B : Nat} {w w1 : World} {g : Nat} {vs : List Value} {X : List (List Int)} (h : Rows B w g vs X) {i : Nat} (hi : i < vs.length) {v' : Value} {Y : List Int} (hg : w.grownBy w1 vs[i].ownBlock) (ho : w1.ownsRow B 3 1 v' Y.length (Y.map (Value.int .i64)))
    (hloc : v'.ownBlock = vs[i].ownBlock ∨ ∃ b0, w.heap.size ≤ b0 ∧ v'.ownBlock = some b0) : Rows B (w1.setCell ⟨g, i, none⟩ v') g (vs.set i v') (X.set i Y) := by
  obtain ⟨hr, ho2⟩ := h.grown hi hg
  have hng : ∀ b, v'.ownBlock = some b → b ≠ g := fun b hb => by
    rcases hloc with e | ⟨b0, h0, e⟩
    · rw [e] at hb
      exact (h.sep i hi b hb).1
    · rw [e] at hb
      obtain rfl := Option.some.inj hb
      have := h.row.lt
      omega
  have hfr : ∀ {v : Value} {xs : List Int} (hv : w1.ownsRow B 3 1 v xs.length (xs.map (Value.int .i64))), (∀ b, v.ownBlock = some b → b ≠ g) → (w1.setCell ⟨g, i, none⟩ v').ownsRow B 3 1 v xs.length (xs.map (Value.int .i64)) := fun hv hne =>
    ownsRow_fr hv (Fr.setCell (S := fun k => k = g) (p := ⟨g, i, none⟩) (Fr.refl w1.heap.size _ w1) (fun _ => rfl) v') (fun k hk => ⟨(hv.lt k hk).2, hne k hk⟩)
  refine ⟨hr.set i v', by rw [List.length_set, List.length_set]; exact h.len, fun j h1 h2 => ?_, fun j h1 b hb => ?_⟩
  · rw [List.length_set] at h1 h2
    by_cases hji : j = i
    · subst hji
      simp only [List.getElem_set_self]
      exact hfr ho hng
    · simp only [List.getElem_set, if_neg (Ne.symm hji)]
      exact hfr (ho2 j h1 h2 hji) (fun b hb => (h.sep j h1 b hb).1)
  · have h1' : j < vs.length := by rw [List.length_set] at h1; exact h1
    by_cases hji : j = i
    · subst hji
      rw [List.getElem_set_self] at hb
      refine ⟨hng b hb, fun k hk hkj => ?_⟩
      rw [List.length_set] at hk
      rw [List.getElem_set, if_neg (Ne.symm hkj)]
      rcases hloc with e | ⟨b0, h0, e⟩
      · rw [e] at hb
        exact (h.sep j hi b hb).2 k hk hkj
      · intro e2
        rw [e] at hb
        obtain rfl := Option.some.inj hb
        have := ((h.own k hk (by rw [← h.len]; exact hk)).lt _ e2).2
        omega
    · rw [List.getElem_set, if_neg (Ne.symm hji)] at hb
      refine ⟨(h.sep j h1' b hb).1, fun k hk hkj => ?_⟩
      have hk' : k < vs.length := by rw [List.length_set] at hk; exact hk
      by_cases hki : k = i
      · subst hki
        rw [List.getElem_set_self]
        intro e2
        rcases hloc with e | ⟨b0, h0, e⟩
        · rw [e] at e2
          exact (h.sep j h1' b hb).2 k hk' hkj e2
        · rw [e] at e2
          obtain rfl := Option.some.inj e2
          have := ((h.own j h1' (by rw [← h.len]; exact h1')).lt _ hb).2
          omega
      · rw [List.getElem_set, if_neg (Ne.symm hki)]
        exact (h.sep j h1' b hb).2 k hk' hkj
theorem rows_info : (Tryz.prog.info? 53).map (fun i => (i.zero, i.size, i.bytes)) = some (some (.slice none 0 0), 1, 24) := by kernel_rfl
theorem made_rows (n : Nat) : madeCells #[Value.slice none 0 0] n = (List.replicate n (Value.slice none 0 0)).toArray := by
  apply Array.ext
  · simp [size_madeCells]
  · intro i h1 h2
    simp [madeCells, Nat.mod_one]
theorem make_rows (n : Nat) (hn : n ≤ 1000000) (w : World) :
    (Instr.makeSlice 202 (.int .i64 (n : Int)) (.int .i64 (n : Int))).run Tryz.prog w = .ok (.slice (some ⟨w.heap.size, 0, none⟩) n n) (w.alloc (.cells (List.replicate n (Value.slice none 0 0)).toArray 53)) := by
  obtain ⟨i0, hi, hz0, hz1, hz2⟩ := info_parts rows_info
  have h := run_make (P := Tryz.prog) w 202 53 i0 (.slice none 0 0) Tryz.underlying202 hi hz0 .i64 .i64 (n : Int) (n : Int) (by omega) (by omega) (by rw [hz2]; omega) (by omega)
  rw [h, hz1]
  have e : ((n : Int)).toNat = n := by omega
  rw [e, Nat.mul_one]
  have e2 : (Value.slice none 0 0).cells = #[.slice none 0 0] := rfl
  rw [e2, made_rows]
theorem Rows.new (B : Nat) (w : World) (n : Nat) : Rows B (w.alloc (.cells (List.replicate n (Value.slice none 0 0)).toArray 53)) w.heap.size (List.replicate n (Value.slice none 0 0)) (List.replicate n []) :=
  ⟨heap_alloc_here w _, by simp, fun j h h2 => by
    simp only [List.getElem_replicate]
    exact World.ownsRow_nil _ _ _ _, fun j h b hb => by
    simp only [List.getElem_replicate] at hb
    cases hb⟩
abbrev intE (k : Nat) : Value := .int .i64 (k : Int)
theorem byKey : KeyBy Tryz.prog 9 str := KeyBy.string Tryz.underlying9
theorem byUnd : Tryz.prog.underlying 146 = some (.map 9 3) := Tryz.underlying146
theorem byZero (w : World) : (zeroValue 3).run Tryz.prog w = .ok (.int .i64 0) w := by kernel_rfl
theorem by_step {w : World} {b : Nat} {l : List (List UInt8 × Nat)} (h : MapIs str intE w b l) (k : List UInt8) (v : Nat) :
    ∃ W, (Instr.mapUpdate 146 (.map (some b)) (str k) (.int .i64 (v : Int))).run Tryz.prog w = .ok () W ∧ MapIs str intE W b (mupd k v l) ∧ Fr w.heap.size (fun q => q = b) w W ∧ W.heap.size = w.heap.size := by
  obtain ⟨es, c, h1, h2⟩ := MapIs.update byKey byUnd h k v
  exact ⟨_, h1, h2, Fr.putMap (S := fun q => q = b) (.refl _ _ _) (fun _ => rfl) _ _, by simp [Kf.putMap]⟩
def edgesX (l : List RuleL) (i : Nat) (Y : List Int) : List (List Int) := (List.range l.length).map fun j => if j < i then intsB (edgesB l j) else if j = i then Y else []
theorem edgesX_len (l : List RuleL) (i : Nat) (Y : List Int) : (edgesX l i Y).length = l.length := by simp [edgesX]
theorem edgesX_at (l : List RuleL) {i : Nat} (Y : List Int) (h : i < (edgesX l i Y).length) : (edgesX l i Y)[i] = Y := by simp [edgesX]
theorem edgesX_set (l : List RuleL) (i : Nat) (Y Z : List Int) : (edgesX l i Y).set i Z = edgesX l i Z := by
  apply List.ext_getElem
  · simp [edgesX]
  · intro j h1 h2
    rw [List.getElem_set]
    simp only [edgesX, List.getElem_map, List.getElem_range]
    by_cases hji : i = j
    · subst hji; simp
    · have hji2 : ¬ j = i := fun e => hji e.symm
      simp [hji, hji2]
theorem edgesX_next (l : List RuleL) (i : Nat) : edgesX l i (intsB (edgesB l i)) = edgesX l (i + 1) [] := by
  unfold edgesX
  refine List.map_congr_left (fun j _ => ?_)
  by_cases h1 : j < i
  · rw [if_pos h1, if_pos (by omega)]
  · by_cases h2 : j = i
    · subst h2; rw [if_neg h1, if_pos rfl, if_pos (by omega)]
    · rw [if_neg h1, if_neg h2, if_neg (by omega)]; simp
theorem edgesX_zero (l : List RuleL) : edgesX l 0 [] = List.replicate l.length [] := by
  apply List.ext_getElem
  · simp [edgesX]
  · intro j h1 h2
    simp [edgesX]
theorem edgesX_all (l : List RuleL) : edgesX l l.length [] = (List.range l.length).map fun i => intsB (edgesB l i) := by
  unfold edgesX
  refine List.map_congr_left (fun j hj => ?_)
  rw [if_pos (List.mem_range.1 hj)]
theorem colB_app (m : List (List UInt8 × Nat)) (x y : List (List UInt8)) : colB m (x ++ y) = colB m x ++ colB m y := by simp [colB]
theorem colB_none {m : List (List UInt8 × Nat)} {s : List UInt8} (h : mlook s m = none) : colB m [s] = [] := by simp [colB, h]
theorem colB_some {m : List (List UInt8 × Nat)} {s : List UInt8} {k : Nat} (h : mlook s m = some k) : colB m [s] = [k] := by simp [colB, h]
theorem Rows.base {B B' : Nat} {w : World} {g : Nat} {vs : List Value} {X : List (List Int)} (h : Rows B w g vs X) (hb : B' ≤ B) : Rows B' w g vs X :=
  ⟨h.row, h.len, fun j h1 h2 => ownsRow_base (h.own j h1 h2) hb, h.sep⟩
theorem tyInts : SliceTy Tryz.prog 53 3 (.int .i64 0) 8 := ⟨Tryz.underlying53, by kernel_rfl, rfl⟩
def EdgesAt (B : Nat) (w : World) (v : Value) (l : List RuleL) : Prop := ∃ g vs, v = .slice (some ⟨g, 0, none⟩) l.length l.length ∧ B ≤ g ∧ Rows B w g vs ((List.range l.length).map fun i => intsB (edgesB l i))
set_option maxHeartbeats 4000000 in
theorem edges_any (R : List RV) (v : Value) (w : World) (hR : RulesAt w v R) (hri : Right (R.map Prod.fst)) (hn : R.length ≤ 1000) (hl : ∀ x ∈ R, x.1.ins.length ≤ 1000) :
    Calls Tryz.prog 136 #[v] w fun e w' => ∃ v', e = .returned v' ∧ EdgesAt w.heap.size w' v' (R.map Prod.fst) ∧ Below w.heap.size w w' := by
  obtain ⟨a, c, hv, -, -⟩ := id hR.1
  rw [List.length_map] at hv
  subst hv
  have hmm := @run_makeMap Tryz.prog
  have m0 : MapIs str intE (w.alloc (.map #[] 0)) w.heap.size [] := MapIs.made w
  have f0 : Below w.heap.size w (w.alloc (.map #[] 0)) := (Below.refl _ w).alloc (Nat.le_refl _) _
  obtain ⟨W0, hW0⟩ : ∃ W, w.alloc (.map #[] 0) = W := ⟨_, rfl⟩
  have hz0 : W0.heap.size = w.heap.size + 1 := by rw [← hW0]; simp
  rw [hW0] at m0 f0
  have HR := Hd hR
  have HRI := Hd hri
  have HL := Hd hl
  have M0 := Hd m0
  have F0 := Hd f0
  have hml : (R.map Prod.fst).length = R.length := List.length_map _
  have HML := Hd hml
  clear hR hri hl m0 f0 hml
  go_enter Tryz.func136, Tryz.ntmps136
  go_wp2_with fail
  go_loopw [16] (fun iv wl => ∃ (i : Nat) (M : List (List UInt8 × Nat)), i ≤ R.length ∧ iv = .int .i64 i ∧ MapIs str intE wl w.heap.size M ∧ ByIs (R.map Prod.fst) i M ∧ Below w.heap.size w wl) (fun iv _ => R.length - (intOf iv).toNat)
  case atStart => exact ⟨0, [], by omega, rfl, M0.out, fun s k => Iff.intro (fun h => by cases h) (fun h => by obtain ⟨_, h, _⟩ := h; omega), F0.out⟩
  case round =>
    obtain ⟨i, M, hi, rfl, hm, hby, hbi⟩ := hrel
    have HBY := Hd hby
    have HBi := Hd hbi
    clear hby
    by_cases hlt : i < R.length
    · have hlc : ((i : Int) < (R.length : Int)) = True := eq_true (by omega)
      have hri2 := HR.out.below0 hbi
      obtain ⟨b, o, hix, -, hce⟩ := hri2.1.at (P := Tryz.prog) Tryz.underlying22 (by kernel_rfl) i (by simpa using hlt)
      simp only [List.getElem_map] at hce
      have hc0 := hce 0 _ rfl
      have hc1 := hce 1 _ rfl
      have hc2 := hce 2 _ rfl
      have hc3 := hce 3 _ rfl
      simp only [Nat.add_zero] at hc0
      have HST : Hid (∀ x, R[i] = x → ByIs (R.map Prod.fst) (i + 1) (mupd x.1.out i M)) := Hd (fun x hx => by
        have h1 : i < (R.map Prod.fst).length := by rw [HML.out]; exact hlt
        have := ByIs.step HRI.out HBY.out h1
        rw [List.getElem_map, hx] at this
        exact this)
      have hrx := (hri2.2 _ (List.getElem_mem hlt)).1
      clear hce hri2
      generalize hx : R[i] = x at *
      have HST2 := Hd (HST.out x rfl)
      clear hx HST
      obtain ⟨r, u⟩ := x
      simp only at hc0 hc1 hc2 hc3 hrx HST2
      obtain ⟨au, cu, hu, -, -⟩ := id hrx
      rw [List.length_map] at hu
      subst hu
      obtain ⟨W2, hW2⟩ : ∃ W2, wr.alloc (.cells #[str r.out, str r.kind, str r.word, .slice au r.ins.length cu] 35) = W2 := ⟨_, rfl⟩
      have hA : Below wr.heap.size wr W2 := hW2 ▸ (Below.refl _ wr).alloc (Nat.le_refl _) _
      have hq0 : W2.cell? ⟨wr.heap.size, 0, none⟩ = some (str r.out) := by rw [← hW2, cell_of_heap (heap_alloc_here wr _)]; rfl
      have hm2 : MapIs str intE W2 w.heap.size M := hm.of_block (hA.block _ hm.lt)
      obtain ⟨W3, hup, hm3, hf3, hz3⟩ := by_step hm2 r.out i
      have HM3 := Hd hm3
      have HB3 : Hid (Below w.heap.size w W3) := Hd ((hbi.trans (hA.mono hbi.size)).trans ((hf3.mono (S' := fun q => q = w.heap.size) (hbi.trans (hA.mono hbi.size)).size (fun _ _ h => h)).below (fun k hk e => by omega)))
      clear hm hm2 hm3 hf3 hrx hA hbi
      go_wp2
      go_roundw
      case rel => exact ⟨i + 1, _, by omega, by go_num, HM3.out, HST2.out, HB3.out⟩
      case measure => simp [intOf]; omega
    · obtain rfl : i = R.length := by omega
      have hlc : ((R.length : Int) < (R.length : Int)) = False := eq_false (by omega)
      have hmk := make_rows R.length (by omega) wr
      obtain ⟨W1, hW1⟩ : ∃ W, wr.alloc (.cells (List.replicate R.length (Value.slice none 0 0)).toArray 53) = W := ⟨_, rfl⟩
      have hrw := Rows.new (w.heap.size + 1) wr R.length
      have hA : Below wr.heap.size wr W1 := hW1 ▸ (Below.refl _ wr).alloc (Nat.le_refl _) _
      rw [hW1] at hmk hrw
      have hX0 : Rows (w.heap.size + 1) W1 wr.heap.size (List.replicate R.length (Value.slice none 0 0)) (edgesX (R.map Prod.fst) 0 []) := by
        rw [edgesX_zero, HML.out]
        exact hrw
      have HX0 := Hd hX0
      have hm1 : MapIs str intE W1 w.heap.size M := hm.of_block (hA.block _ hm.lt)
      have HM1 := Hd hm1
      have HB1 := Hd (hbi.trans (hA.mono hbi.size))
      have hgB := hbi.size
      have hmne : w.heap.size < wr.heap.size := hm.lt
      have HBY2 : Hid (ByIs (R.map Prod.fst) (R.map Prod.fst).length M) := Hd (by rw [HML.out]; exact HBY.out)
      clear hrw hX0 hm hm1 hA hbi HBY HBi hW1
      generalize hg : wr.heap.size = g at *
      clear hg
      go_wp2_with fail
      go_loopw [31] (fun iv wl => ∃ (i : Nat) (vs : List Value), i ≤ R.length ∧ iv = .int .i64 i ∧ MapIs str intE wl w.heap.size M ∧ Rows (w.heap.size + 1) wl g vs (edgesX (R.map Prod.fst) i []) ∧ Below w.heap.size w wl) (fun iv _ => R.length - (intOf iv).toNat)
      case atStart => exact ⟨0, _, by omega, rfl, HM1.out, HX0.out, HB1.out⟩
      case round =>
        obtain ⟨i, vs, hi, rfl, hm, hrw, hbi⟩ := hrel
        by_cases hlt : i < R.length
        · have hlc : ((i : Int) < (R.length : Int)) = True := eq_true (by omega)
          have hri2 := HR.out.below0 hbi
          obtain ⟨b, o, hix, -, hce⟩ := hri2.1.at (P := Tryz.prog) Tryz.underlying22 (by kernel_rfl) i (by simpa using hlt)
          simp only [List.getElem_map] at hce
          have hc0 := hce 0 _ rfl
          have hc1 := hce 1 _ rfl
          have hc2 := hce 2 _ rfl
          have hc3 := hce 3 _ rfl
          simp only [Nat.add_zero] at hc0
          have hrx := (HR.out.2 _ (List.getElem_mem hlt)).1
          have hi' : i < (R.map Prod.fst).length := by rw [HML.out]; exact hlt
          have HST : Hid (∀ x, R[i] = x → sortI (intsB (colB M x.1.ins)) = intsB (edgesB (R.map Prod.fst) i)) := Hd (fun x hx => by
            have := edges_sorted HRI.out HBY2.out hi'
            rw [List.getElem_map, hx] at this
            exact this)
          have HLI : Hid (∀ x, R[i] = x → x.1.ins.length ≤ 1000) := Hd (fun x hx => HL.out x (hx ▸ List.getElem_mem hlt))
          clear hce hri2
          generalize hx : R[i] = x at *
          have HST2 := Hd (HST.out x rfl)
          have hli := HLI.out x rfl
          clear hx HST HLI
          obtain ⟨r, u⟩ := x
          simp only at hc0 hc1 hc2 hc3 hrx HST2 hli
          obtain ⟨au, cu, hu, -, -⟩ := id hrx
          rw [List.length_map] at hu
          subst hu
          obtain ⟨W2, hW2⟩ : ∃ W2, wr.alloc (.cells #[str r.out, str r.kind, str r.word, .slice au r.ins.length cu] 35) = W2 := ⟨_, rfl⟩
          have hA : Below wr.heap.size wr W2 := hW2 ▸ (Below.refl _ wr).alloc (Nat.le_refl _) _
          have hq3 : W2.cell? ⟨wr.heap.size, 3, none⟩ = some (.slice au r.ins.length cu) := by rw [← hW2, cell_of_heap (heap_alloc_here wr _)]; rfl
          have HM2 : Hid (MapIs str intE W2 w.heap.size M) := Hd (hm.of_block (hA.block _ hm.lt))
          have HX2 : Hid (Rows (w.heap.size + 1) W2 g vs (edgesX (R.map Prod.fst) i [])) := Hd (hrw.below0 hA)
          have HB2 := Hd (hbi.trans (hA.mono hbi.size))
          have HU := Hd hrx
          clear hm hrw hbi hrx hA
          go_wp2_with fail
          go_loopw [39] (fun jv wl => ∃ (k : Nat) (vs : List Value), k ≤ r.ins.length ∧ jv = .int .i64 k ∧ MapIs str intE wl w.heap.size M ∧ Rows (w.heap.size + 1) wl g vs (edgesX (R.map Prod.fst) i (intsB (colB M (r.ins.take k)))) ∧ Below w.heap.size w wl) (fun jv _ => r.ins.length - (intOf jv).toNat)
          case atStart => exact ⟨0, _, by omega, rfl, HM2.out, HX2.out, HB2.out⟩
          case round =>
            obtain ⟨k, vs, hk, rfl, hm, hrw, hbk⟩ := hrel
            have hrk := HU.out.below0 hbk
            have HMk := Hd hm
            have HXk := Hd hrw
            have HBk := Hd hbk
            have hvl : vs.length = R.length := by rw [hrw.len, edgesX_len, HML.out]
            have hiv : i < vs.length := by omega
            have hgi : wr.cell? ⟨g, i, none⟩ = some vs[i] := hrw.row.cell (List.getElem?_eq_getElem hiv)
            have hzk := hbk.size
            have hgk := hrw.row.lt
            have hox : wr.ownsRow (w.heap.size + 1) 3 1 vs[i] (intsB (colB M (r.ins.take k))).length ((intsB (colB M (r.ins.take k))).map (Value.int .i64)) := by
              have := hrw.own i hiv (by rw [edgesX_len, HML.out]; exact hlt)
              rw [edgesX_at] at this
              exact this
            have HOX := Hd hox
            have hidx := idx_at (P := Tryz.prog) (T := 202) (E := 53) Tryz.underlying202 (by kernel_rfl) g R.length R.length i hlt
            by_cases hkl : k < r.ins.length
            · have hlc2 : ((k : Int) < (r.ins.length : Int)) = True := eq_true (by omega)
              obtain ⟨b2, o2, hix2, hce2⟩ := hrk.at (P := Tryz.prog) Tryz.underlying33 (by kernel_rfl) k (by simpa using hkl)
              simp only [List.getElem_map] at hce2
              have hlk := hm.lookup (P := Tryz.prog) byKey byUnd byZero r.ins[k] true
              have HSN : Hid (colB M (r.ins.take (k + 1)) = colB M (r.ins.take k) ++ colB M [r.ins[k]]) := Hd (by rw [List.take_succ_eq_append_getElem hkl, colB_app])
              clear hm hrw hbk hrk hox
              generalize r.ins[k] = s at *
              cases hml : mlook s M with
              | none =>
                rw [hml] at hlk
                rw [colB_none hml, List.append_nil] at HSN
                simp only [Option.map_none, Option.getD_none, Option.isSome_none, if_true] at hlk
                go_wp2
                go_roundw
                case rel => exact ⟨k + 1, vs, by omega, by go_num, HMk.out, by rw [HSN.out]; exact HXk.out, HBk.out⟩
                case measure => simp [intOf]; omega
              | some q =>
                rw [hml] at hlk
                rw [colB_some hml] at HSN
                simp only [Option.map_some, Option.getD_some, Option.isSome_some, if_true] at hlk
                have hcl : (intsB (colB M (r.ins.take k))).length ≤ 1000 := by
                  rw [List.length_map]
                  refine Nat.le_trans (List.length_filterMap_le _ _) ?_
                  rw [List.length_take]; omega
                go_wp2_with (first
                  | (at_builtin
                     refine wpList_app _ rfl _ _ 53 rfl tyInts (w.heap.size + 1) _ _ _ rfl (HOX.out.alloc _) ⟨wr.heap.size, 0, none⟩ 1 1 [intE q] rfl rfl (news_one ?_) ?_ (by decide) ?_ ?_ ?_
                     · rw [cell_of_heap (heap_alloc_here wr _)]; rfl
                     · intro u hu; simp at hu; subst hu; rfl
                     · omega
                     · simp; omega
                     intro v5 w5 ho5 hg5 hloc5
                     have hA5 : Below wr.heap.size wr (wr.alloc (.cells #[intE q] 3)) := (Below.refl _ wr).alloc (Nat.le_refl _) _
                     have ho5' : w5.ownsRow (w.heap.size + 1) 3 1 v5 (intsB (colB M (r.ins.take k) ++ [q])).length ((intsB (colB M (r.ins.take k) ++ [q])).map (Value.int .i64)) := by
                       simpa [intsB] using ho5
                     have hloc' : v5.ownBlock = vs[i].ownBlock ∨ ∃ b0, (wr.alloc (.cells #[intE q] 3)).heap.size ≤ b0 ∧ v5.ownBlock = some b0 := by
                       rcases hloc5 with h | h
                       · exact Or.inl h
                       · exact Or.inr ⟨_, Nat.le_refl _, h⟩
                     have hput := (HXk.out.below0 hA5).put hiv hg5 ho5' hloc'
                     rw [edgesX_set, ← HSN.out] at hput
                     have hrow5 := ((HXk.out.below0 hA5).grown hiv hg5).1
                     have hc5 : w5.cell? ⟨g, i, none⟩ = some vs[i] := hrow5.cell (List.getElem?_eq_getElem hiv)
                     have hf5 := hrow5.frozen i
                     obtain ⟨g5, cap5, rfl⟩ := ownsRow_some ho5 (by omega)
                     simp only [List.length_map] at hput
                     have HPUT := Hd hput
                     have HB5 : Hid (Below w.heap.size w w5) := Hd ((HBk.out.trans (hA5.mono hzk)).grown hg5 (by simp; omega) (fun q hq => Nat.le_of_succ_le (HOX.out.lt q hq).1))
                     have HM5 : Hid (MapIs str intE w5 w.heap.size M) := Hd ((HMk.out.of_block (hA5.block _ HMk.out.lt)).of_block ((Fr.of_grown hg5).block _ (by simp; have := HMk.out.lt; omega) (fun e => by have := (HOX.out.lt _ e).1; omega)))
                     clear ho5 hg5 hloc5 hA5 ho5' hloc' hput hrow5))
                go_wp2
                go_roundw
                case rel => exact ⟨k + 1, _, by omega, by go_num, HM5.out.of_block (Below.heap_setCell _ _ _ _ (by simp; omega)), HPUT.out, HB5.out.setCell (p := ⟨g, i, none⟩) hgB _⟩
                case measure => simp [intOf]; omega
            · obtain rfl : k = r.ins.length := by omega
              have hlc2 : ((r.ins.length : Int) < (r.ins.length : Int)) = False := eq_false (by omega)
              have hsz : (sortI (intsB (colB M r.ins))).length = (intsB (colB M r.ins)).length := List.length_mergeSort _
              have hcl : (intsB (colB M r.ins)).length ≤ 1000 := by
                rw [List.length_map]
                exact Nat.le_trans (List.length_filterMap_le _ _) (by omega)
              have hox2 := HOX.out
              rw [List.take_length] at hox2
              have K := Hd (sortI_any vs[i] (intsB (colB M r.ins)) (w.heap.size + 1) wr hox2 (by omega))
              have hX2 := HXk.out
              rw [List.take_length] at hX2
              have HX2' := Hd hX2
              clear hm hrw hbk hrk hox hox2 hX2
              go_wp2_with fail
              refine K.out.mono ?_
              rintro e w4 ⟨rfl, ho4, hg4⟩
              have hs4 := HX2'.out.sorted hiv hg4 ho4
              rw [edgesX_set, HST2.out, edgesX_next] at hs4
              have HS4 := Hd hs4
              have HM4 : Hid (MapIs str intE w4 w.heap.size M) := Hd (HMk.out.of_block ((Fr.of_grown hg4).block _ HMk.out.lt (fun e => by have := (HOX.out.lt _ e).1; omega)))
              have HB4 : Hid (Below w.heap.size w w4) := Hd (HBk.out.grown hg4 hzk (fun q hq => Nat.le_of_succ_le (HOX.out.lt q hq).1))
              clear hs4 hg4 ho4
              go_wp2
              go_roundw
              case rel => exact ⟨i + 1, _, by omega, by go_num, HM4.out, HS4.out, HB4.out⟩
              case measure => simp [intOf]; omega
        · obtain rfl : i = R.length := by omega
          have hlc : ((R.length : Int) < (R.length : Int)) = False := eq_false (by omega)
          have hE : EdgesAt w.heap.size wr (.slice (some ⟨g, 0, none⟩) R.length R.length) (R.map Prod.fst) := by
            have hx := hrw
            rw [← HML.out, edgesX_all] at hx
            exact ⟨g, vs, by rw [HML.out], by omega, hx.base (by omega)⟩
          have HE := Hd hE
          clear hm hrw hE
          go_wp2
          go_ret
          exact ⟨_, rfl, HE.out, hbi⟩
theorem fnGives_drew {g : Nat} {L args : Array Value} {r : Value} {W : World} (h : Calls Tryz.prog g (args ++ L) W fun e w' => e = .returned r ∧ w' = W) : FnGives Tryz.prog g L args r W :=
  h.mono fun _ _ ⟨h1, h2⟩ => ⟨h1, 0, h2⟩
def PredI (p : Nat → Bool) (g : Nat) (L : Array Value) (l : List Nat) (w : World) : Prop := (∀ (args : Array Value) (w : World), (callFunc g args).run Tryz.prog w = .ok (.enter g args) w) ∧ ∀ (W : World) (x : Nat), x ∈ l → Below w.heap.size w W → FnGives Tryz.prog g L #[intE x] (.bool (p x)) W
theorem cells_attach {w : World} {a : Option Addr} {n c : Nat} {l : List Nat} {x : Nat} {r : List Nat} (hl : l = x :: r) (hr : Reads w (.slice a n c) (l.map intE)) : ∃ b o, a = some ⟨b, o, none⟩ ∧ n = l.length ∧ l.length ≤ 9223372036854775807 ∧ ∀ j (hj : j < l.length), w.cell? ⟨b, o + j, none⟩ = some (intE l[j]) := by
  obtain ⟨a', c', e, hle, hc⟩ := hr
  cases e
  subst hl
  obtain ⟨b, o, rfl, hc0⟩ := hc 0 (intE x) rfl
  refine ⟨b, o, rfl, by rw [List.length_map], by simpa using hle, fun j hj => ?_⟩
  obtain ⟨b', o', e, hcj⟩ := hc j (intE (x :: r)[j]) (by rw [List.getElem?_map, List.getElem?_eq_getElem hj]; rfl)
  cases e
  exact hcj
theorem anyInt_any (p : Nat → Bool) (g : Nat) (L : Array Value) (v : Value) (l : List Nat) (w : World) (hr : Reads w v (l.map intE)) (hp : PredI p g L l w) :
    Calls Tryz.prog 191 #[v, .func (.func g) #[] L] w fun e w' => e = .returned (.bool (l.any p)) ∧ ∃ q, w' = w.drewN q := by
  obtain ⟨a, c, rfl, -, -⟩ := id hr
  cases hl : l with
  | nil =>
    refine (Tryz.slices_ContainsFunc_empty_f191 (α := Nat) a c _ w).mono ?_
    rintro e w' ⟨rfl, rfl⟩
    exact ⟨rfl, 0, rfl⟩
  | cons x r =>
    obtain ⟨b, o, rfl, hn, hle, hc⟩ := cells_attach hl hr
    letI : Inhabited {y : Nat // y ∈ l} := ⟨⟨x, by rw [hl]; exact List.mem_cons_self ..⟩⟩
    have K := Tryz.slices_ContainsFunc_f191 (α := {y : Nat // y ∈ l}) (fun y => intE y.1) (fun y => p y.1) g L hp.1 b o l.length c l.attach w (fun W y hb => hp.2 W y.1 y.2 hb) (by simp) hle (fun j hj => by
      have hj' : j < l.length := by simpa using hj
      rw [hc j hj', getElem!_pos l.attach j hj]
      simp)
    have e1 : (l.attach.take l.length).any (fun y => p y.1) = l.any p := by
      rw [List.take_of_length_le (by simp)]
      rw [Bool.eq_iff_iff, List.any_eq_true, List.any_eq_true]
      exact ⟨fun ⟨y, _, h⟩ => ⟨y.1, y.2, h⟩, fun ⟨y, hy, h⟩ => ⟨⟨y, hy⟩, by simp, h⟩⟩
    rw [e1] at K
    rw [List.length_map, ← hl]
    exact K
def idxI (p : Nat → Bool) (l : List Nat) : Int := if l.findIdx p < l.length then (l.findIdx p : Nat) else -1
theorem containsInt_any (x : Nat) (v : Value) (l : List Nat) (w : World) (hr : Reads w v (l.map intE)) :
    Calls Tryz.prog 152 #[v, intE x] w fun e w' => e = .returned (.bool (l.contains x)) ∧ w' = w := by
  obtain ⟨a, c, rfl, -, -⟩ := id hr
  cases hl : l with
  | nil =>
    refine (Tryz.slices_Contains_int_empty a c x w).mono ?_
    rintro e w' ⟨rfl, rfl⟩
    exact ⟨rfl, rfl⟩
  | cons y r =>
    obtain ⟨b, o, rfl, hn, hle, hc⟩ := cells_attach hl hr
    have K := Tryz.slices_Contains_int b o l.length c (intsB l) x w (by simp) hle (fun j hj => by
      have hj' : j < l.length := by simpa using hj
      rw [hc j hj', List.getD_eq_getElem?_getD, List.getElem?_map, List.getElem?_eq_getElem hj']
      rfl)
    have e1 : ((intsB l).take l.length).contains (x : Int) = l.contains x := by
      rw [List.take_of_length_le (by simp), Bool.eq_iff_iff, List.contains_iff_mem, List.contains_iff_mem, List.mem_map]
      exact ⟨fun ⟨z, hz, e⟩ => by have : z = x := Int.ofNat.inj e
                                  exact this ▸ hz, fun h => ⟨x, h, rfl⟩⟩
    rw [e1] at K
    rw [List.length_map, ← hl]
    exact K
def EdgesV (w : World) (v : Value) (n : Nat) (E : Nat → List Nat) : Prop := ∃ vs, Reads w v vs ∧ vs.length = n ∧ ∀ i (h : i < vs.length), Reads w vs[i] ((E i).map intE)
theorem EdgesV.below0 {w w' : World} {v : Value} {n : Nat} {E : Nat → List Nat} (h : EdgesV w v n E) (hb : Below w.heap.size w w') : EdgesV w' v n E := by
  obtain ⟨vs, h1, h2, h3⟩ := h
  exact ⟨vs, h1.below0 hb, h2, fun i hi => (h3 i hi).below0 hb⟩
theorem reads_ints {B : Nat} {w : World} {v : Value} {n : Nat} {l : List Nat} (h : w.ownsRow B 3 1 v n ((intsB l).map (Value.int .i64))) : Reads w v (l.map intE) := by
  have := ownsRow_reads h
  rw [List.map_map] at this
  exact this
theorem EdgesAt.view {B : Nat} {w : World} {v : Value} {l : List RuleL} (h : EdgesAt B w v l) (hl : l.length ≤ 1000) : EdgesV w v l.length (edgesB l) := by
  obtain ⟨g, vs, rfl, hg, hr⟩ := h
  have hvl : vs.length = l.length := by rw [hr.len]; simp
  refine ⟨vs, ⟨_, _, by rw [hvl], by omega, fun i u hu => ⟨g, 0, rfl, by rw [Nat.zero_add]; exact hr.row.cell hu⟩⟩, hvl, fun i hi => ?_⟩
  have h1 := hr.own i hi (by rw [← hr.len]; exact hi)
  rw [List.getElem_map, List.getElem_range] at h1
  exact reads_ints h1
theorem EdgesV.at {w : World} {a : Option Addr} {n m c : Nat} {E : Nat → List Nat} (h : EdgesV w (.slice a m c) n E) {i : Nat} (hi : i < n) : m = n ∧ n ≤ 9223372036854775807 ∧
    ∃ b o u, (∀ w', (Instr.indexAt 202 (.slice a n c) (.int .i64 i)).run Tryz.prog w' = .ok (.pointer (some ⟨b, o, none⟩)) w') ∧ w.cell? ⟨b, o, none⟩ = some u ∧ Reads w u ((E i).map intE) := by
  obtain ⟨vs, h1, rfl, h3⟩ := h
  obtain rfl := h1.len
  obtain ⟨b, o, h4, h5⟩ := h1.at (P := Tryz.prog) Tryz.underlying202 (by kernel_rfl) i hi
  exact ⟨rfl, h1.le, b, o, _, h4, h5, h3 i hi⟩
theorem bools_info : (Tryz.prog.info? 4).map (fun i => (i.zero, i.size, i.bytes)) = some (some (.bool false), 1, 1) := by kernel_rfl
theorem make_bools (n : Nat) (hn : n ≤ 1000000) (w : World) :
    (Instr.makeSlice 156 (.int .i64 (n : Int)) (.int .i64 (n : Int))).run Tryz.prog w = .ok (.slice (some ⟨w.heap.size, 0, none⟩) n n) (w.alloc (.cells ((List.replicate n false).map Value.bool).toArray 4)) := by
  obtain ⟨i0, hi, hz0, hz1, hz2⟩ := info_parts bools_info
  have h := run_make (P := Tryz.prog) w 156 4 i0 (.bool false) Tryz.underlying156 hi hz0 .i64 .i64 (n : Int) (n : Int) (by omega) (by omega) (by rw [hz2]; omega) (by omega)
  rw [h, hz1]
  have e : ((n : Int)).toNat = n := by omega
  rw [e, Nat.mul_one]
  have e2 : (Value.bool false).cells = #[.bool false] := rfl
  have e3 : madeCells #[Value.bool false] n = ((List.replicate n false).map Value.bool).toArray := by
    apply Array.ext
    · simp [size_madeCells]
    · intro i h1 h2
      simp [madeCells, Nat.mod_one]
  rw [e2, e3]
abbrev Bits (w : World) (g : Nat) (bs : List Bool) : Prop := VRow 4 w g (bs.map Value.bool)
theorem Bits.at {w : World} {g : Nat} {bs : List Bool} (h : Bits w g bs) {k : Nat} (hk : k < bs.length) : w.cell? ⟨g, k, none⟩ = some (.bool bs[k]) := h.cell (by rw [List.getElem?_map, List.getElem?_eq_getElem hk]; rfl)
theorem Bits.put {w : World} {g : Nat} {bs : List Bool} (h : Bits w g bs) (k : Nat) (b : Bool) : Bits (w.setCell ⟨g, k, none⟩ (.bool b)) g (bs.set k b) := by
  unfold Bits
  rw [List.map_set]
  exact h.set k _
def bitsOf (n : Nat) (l : List Nat) : List Bool := (List.range n).map fun i => l.contains i
theorem bitsOf_len (n : Nat) (l : List Nat) : (bitsOf n l).length = n := by simp [bitsOf]
theorem bitsOf_at {n : Nat} (l : List Nat) {i : Nat} (hi : i < (bitsOf n l).length) : (bitsOf n l)[i] = l.contains i := by simp [bitsOf]
theorem bitsOf_nil (n : Nat) : bitsOf n [] = List.replicate n false := by
  apply List.ext_getElem
  · simp [bitsOf]
  · intro i h1 h2; simp [bitsOf]
theorem bitsOf_set {n : Nat} (l : List Nat) (k : Nat) : (bitsOf n l).set k true = bitsOf n (l ++ [k]) := by
  apply List.ext_getElem
  · simp [bitsOf]
  · intro i h1 h2
    rw [List.getElem_set]
    by_cases h : k = i
    · subst h; simp [bitsOf]
    · have h' : ¬ i = k := fun e => h e.symm
      simp [bitsOf, h, h']
def candB (E : Nat → List Nat) (isB : Nat → Bool) (out : List Nat) (i : Nat) : Bool := isB i && (!out.contains i && !(E i).any fun j => !out.contains j)
def nextB (E : Nat → List Nat) (isB : Nat → Bool) (n : Nat) (out : List Nat) : Option Nat := (List.range n).find? (candB E isB out)
theorem nextB_hit {E : Nat → List Nat} {isB : Nat → Bool} {n : Nat} {out : List Nat} {i : Nat} (hi : i < n) (h : candB E isB out i = true) (hn : ∀ j, j < i → candB E isB out j = false) : nextB E isB n out = some i := by
  unfold nextB
  rw [List.find?_range_eq_some]
  exact ⟨h, List.mem_range.2 hi, fun j hj => by rw [hn j hj]; rfl⟩
theorem nextB_miss {E : Nat → List Nat} {isB : Nat → Bool} {n : Nat} {out : List Nat} (hn : ∀ j, j < n → candB E isB out j = false) : nextB E isB n out = none :=
  List.find?_eq_none.2 (fun x hx => by rw [hn x (List.mem_range.1 hx)]; decide)
theorem nextB_some {E : Nat → List Nat} {isB : Nat → Bool} {n : Nat} {out : List Nat} {k : Nat} (h : nextB E isB n out = some k) : k < n ∧ candB E isB out k = true :=
  ⟨List.mem_range.1 (List.mem_of_find?_eq_some h), List.find?_some h⟩
def orderGo (E : Nat → List Nat) (isB : Nat → Bool) (n : Nat) : Nat → List Nat → Option (List Nat)
  | 0, out => some out
  | f + 1, out => match nextB E isB n out with
    | none => none
    | some k => orderGo E isB n f (out ++ [k])
def manyB (isB : Nat → Bool) (n : Nat) : Nat := ((List.range n).filter isB).length
theorem manyB_le (isB : Nat → Bool) (n : Nat) : manyB isB n ≤ n := by
  unfold manyB
  exact Nat.le_trans (List.length_filter_le _ _) (by simp)
theorem manyB_succ (isB : Nat → Bool) (n : Nat) : manyB isB (n + 1) = manyB isB n + if isB n = true then 1 else 0 := by
  unfold manyB
  rw [List.range_succ, List.filter_append, List.length_append]
  congr 1
  by_cases h : isB n = true
  · simp [h]
  · simp [h]
def orderB (E : Nat → List Nat) (isB : Nat → Bool) (n : Nat) : Option (List Nat) := orderGo E isB n (manyB isB n) []
theorem orderGo_some {E : Nat → List Nat} {isB : Nat → Bool} {n f k : Nat} {out : List Nat} (h : nextB E isB n out = some k) : orderGo E isB n (f + 1) out = orderGo E isB n f (out ++ [k]) := by
  simp [orderGo, h]
theorem orderGo_none {E : Nat → List Nat} {isB : Nat → Bool} {n f : Nat} {out : List Nat} (h : nextB E isB n out = none) : orderGo E isB n (f + 1) out = none := by
  simp [orderGo, h]
def lenV : Value → Nat
  | .slice _ n _ => n
  | _ => 0
end Go.Proofs.YtgjialbmlhbngaaGreatDoor
