/-
  The reference: LeavesOf. What is wanted hangs on the leaves alone: in plain words. Package graph: Leaves at any rules. The walk of the law WantLeaves, at any files, more files, rules and out.
-/
import Derived.Test.YtpihjbfbnoepiaaGreatDoorPkS
import Derived.Test.YtpihjbfbnoepiaaGreatDoorPkH
import Derived.Test.YtpihjbfbnoepiaaGreatDoorPkI
import Derived.Test.YtpihjbfbnoepiaaGreatDoorPkO
import Derived.Test.YtpihjbfbnoepiaaGreatDoorPkQ

namespace Go.Proofs.YtpihjbfbnoepiaaGreatDoor
open Go Go.RowKit Go.Kf Go.Sort Go.Proofs

/-- The leaves laid so far. -/
structure LvSt (X M : List (List UInt8)) : Prop where
  nd : M.Nodup
  sort : M.Pairwise (· ≤ ·)
  mem : ∀ s, s ∈ M ↔ s ∈ X
theorem LvSt.zero : LvSt [] [] := ⟨List.nodup_nil, List.Pairwise.nil, fun _ => Iff.rfl⟩
theorem LvSt.lay {X M : List (List UInt8)} {s : List UInt8} (h : LvSt X M) (hs : s ∉ M) : LvSt (X ++ [s]) (layB M s) := by
  have hp := layB_perm M s
  refine ⟨(hp.nodup_iff).2 (List.nodup_cons.2 ⟨hs, h.nd⟩), layB_sorted s h.sort, fun t => ?_⟩
  rw [hp.mem_iff, List.mem_cons, List.mem_append, List.mem_singleton, h.mem]
  exact ⟨fun q => q.elim Or.inr Or.inl, fun q => q.elim Or.inr Or.inl⟩
theorem LvSt.skip {X M : List (List UInt8)} {s : List UInt8} (h : LvSt X M) (hs : s ∈ M) : LvSt (X ++ [s]) M := by
  refine ⟨h.nd, h.sort, fun t => ?_⟩
  rw [List.mem_append, List.mem_singleton, h.mem]
  exact ⟨Or.inl, fun q => q.elim id (fun e => e ▸ (h.mem s).1 hs)⟩
theorem LvSt.len {X M : List (List UInt8)} (h : LvSt X M) : M.length ≤ X.length := nodup_sub M X h.nd (fun s hs => (h.mem s).1 hs)
theorem mem_compactB {l : List (List UInt8)} {s : List UInt8} (h : s ∈ l) : s ∈ Lib.compact l := by
  have hin : ∀ j (hj : j < l.length), Lib.keeps l.toArray j = true → l[j] ∈ Lib.compact l := fun j hj hk =>
    List.mem_map.2 ⟨j, List.mem_filter.2 ⟨List.mem_range.2 hj, hk⟩, by rw [getElem!_pos l.toArray j (by simpa using hj)]; simp⟩
  have key : ∀ j (hj : j < l.length), l[j] ∈ Lib.compact l := by
    intro j
    induction j with
    | zero => exact fun hj => hin 0 hj (Lib.keeps_lt_one _ 0 (by omega))
    | succ j ih =>
      intro hj
      by_cases hk : Lib.keeps l.toArray (j + 1) = true
      · exact hin _ hj hk
      · have e : l[j + 1] = l[j] := by
          unfold Lib.keeps at hk
          rw [getElem!_pos l.toArray (j + 1) (by simpa using hj), getElem!_pos l.toArray (j + 1 - 1) (by simp; omega)] at hk
          simpa using hk
        rw [e]
        exact ih (by omega)
  obtain ⟨j, hj, rfl⟩ := List.mem_iff_getElem.1 h
  exact key j hj
theorem LvSt.leaves {l : List RuleL} {M : List (List UInt8)} (h : LvSt (looseAll (l.map RuleL.out) l) M) : M = leavesB l := by
  have hr := leaves_rise l
  have hn : (leavesB l).Nodup := hr.imp (fun hab => hab.2)
  refine List.Perm.eq_of_pairwise (le := fun a b => decide (a ≤ b) = true) (fun a b _ _ h1 h2 => ?_) (h.sort.imp (fun hab => by simpa using hab)) (hr.imp (fun hab => by simpa using hab.1)) ((List.perm_ext_iff_of_nodup h.nd hn).2 (fun s => ?_))
  · exact List.le_antisymm (by simpa using h1) (by simpa using h2)
  · rw [h.mem]
    unfold leavesB
    constructor
    · intro hs
      exact mem_compactB ((sortB_perm _).mem_iff.2 hs)
    · intro hs
      exact (sortB_perm _).mem_iff.1 (compact_mem hs)
/-- Is it made? -/
def madeB (l : List RuleL) (s : List UInt8) (j : Nat) : Bool := (l.take j).any fun r => r.out == s
theorem madeB_succ {l : List RuleL} {s : List UInt8} {j : Nat} (h : j < l.length) : madeB l s (j + 1) = (madeB l s j || (l[j].out == s)) := by
  unfold madeB
  rw [List.take_succ_eq_append_getElem h, List.any_append]
  simp
theorem madeB_all (l : List RuleL) (s : List UInt8) : madeB l s l.length = (l.map RuleL.out).contains s := by
  unfold madeB
  rw [List.take_length, Bool.eq_iff_iff, List.any_eq_true, List.contains_iff_mem, List.mem_map]
  constructor
  · rintro ⟨r, hr, e⟩
    exact ⟨r, hr, by simpa using e⟩
  · rintro ⟨r, hr, e⟩
    exact ⟨r, hr, by simpa using e⟩

end Go.Proofs.YtpihjbfbnoepiaaGreatDoor

namespace Go.Proofs.YtpihjbfbnoepiaaGreatDoor
open Go Go.RowKit Go.Kf Go.Sort Go.Proofs

/-- An order is there where what is needed can be numbered .. -/
theorem orderB_of_rank {E : Nat → List Nat} {isB : Nat → Bool} {n : Nat} (r : Nat → Nat) (h : ∀ i, i < n → isB i = true → ∀ j ∈ E i, j < n ∧ isB j = true ∧ r j < r i) : ∃ o, orderB E isB n = some o := by
  cases ho : orderB E isB n with
  | some o => exact ⟨o, rfl⟩
  | none =>
    exfalso
    unfold orderB at ho
    obtain ⟨o, h1, h2, h3⟩ := (orderGo_outs (manyB isB n) [] (outs_nil E isB n)).2 ho
    have key : ∀ k i, r i = k → i < n → isB i = true → i ∈ o := by
      intro k
      induction k using Nat.strongRecOn with
      | ind k ih =>
        intro i hk hi hb
        refine Classical.byContradiction (fun hm => ?_)
        have hc := h3 i hi
        rw [candB_iff.2 ⟨hb, hm, fun j hj => by
          obtain ⟨a, b, c⟩ := h i hi hb j hj
          exact ih (r j) (by omega) j rfl a b⟩] at hc
        cases hc
    have hs := nodup_sub ((List.range n).filter isB) o (List.Pairwise.filter _ List.nodup_range) (fun k hk => by
      obtain ⟨a, b⟩ := List.mem_filter.1 hk
      exact key _ k rfl (List.mem_range.1 a) b)
    have hm : ((List.range n).filter isB).length = manyB isB n := rfl
    simp only [List.length_nil, Nat.zero_add] at h2
    omega
theorem findIdx_at {o : List Nat} (hd : o.Nodup) {t : Nat} (ht : t < o.length) : o.findIdx (fun x => x == o[t]) = t := by
  rw [List.findIdx_eq ht]
  refine ⟨by simp, fun j hj => ?_⟩
  have : o[j] ≠ o[t] := fun e => by
    have := nodup_at hd e
    omega
  simpa using this
/-- .. and only there. -/
theorem rank_of_orderB {E : Nat → List Nat} {isB : Nat → Bool} {n : Nat} {o : List Nat} (h : orderB E isB n = some o) : ∃ r : Nat → Nat, ∀ i, i < n → isB i = true → ∀ j ∈ E i, j < n ∧ isB j = true ∧ r j < r i := by
  obtain ⟨h1, h2⟩ := order_mem h
  refine ⟨fun i => o.findIdx (fun x => x == i), fun i hi hb j hj => ?_⟩
  obtain ⟨t, ht, e⟩ := List.mem_iff_getElem.1 (h2 i hi hb)
  subst e
  obtain ⟨t', ht', e⟩ := List.mem_iff_getElem.1 (h1.back t ht j hj)
  rw [List.length_take] at ht'
  rw [List.getElem_take] at e
  subst e
  have h3 := h1.lt o[t'] (List.getElem_mem (by omega))
  refine ⟨h3.1, h3.2, ?_⟩
  show o.findIdx (fun x => x == o[t']) < o.findIdx (fun x => x == o[t])
  rw [findIdx_at h1.nd, findIdx_at h1.nd]
  omega

/-- A part of a sheet. -/
def partL (l : List RuleL) (P : List Nat) : List RuleL := P.map (fun k => l.getD k noR)
theorem partL_len (l : List RuleL) (P : List Nat) : (partL l P).length = P.length := by simp [partL]
theorem partL_at {l : List RuleL} {P : List Nat} (hP : ∀ k ∈ P, k < l.length) {b : Nat} (hb : b < P.length) (hb2 : b < (partL l P).length) : (partL l P)[b] = l[P[b]]'(hP _ (List.getElem_mem hb)) := by
  simp only [partL, List.getElem_map]
  rw [List.getD_eq_getElem?_getD, List.getElem?_eq_getElem (hP _ (List.getElem_mem hb))]
  rfl
theorem partL_right {l : List RuleL} {P : List Nat} (hr : RightS l) (hP : ∀ k ∈ P, k < l.length) (hd : P.Nodup) : RightS (partL l P) := by
  refine ⟨by rw [partL_len]; exact Nat.le_trans (nodup_le _ _ hd hP) hr.1, fun i r hi => ?_⟩
  obtain ⟨hi2, rfl⟩ := List.getElem?_eq_some_iff.1 hi
  have hiP : i < P.length := by rw [partL_len] at hi2; exact hi2
  rw [partL_at hP hiP]
  have h1 := hr.2.rule (hP _ (List.getElem_mem hiP))
  unfold errAt
  rw [if_neg (fun h => h h1.1), if_neg (fun hm => ?_)]
  obtain ⟨q, hq, e⟩ := List.mem_map.1 hm
  obtain ⟨j, hj, rfl⟩ := List.mem_iff_getElem.1 hq
  rw [List.length_take] at hj
  rw [List.getElem_take, partL_at hP (by omega)] at e
  have h2 := hr.2.outs _ _ e
  have := nodup_at hd h2
  omega
theorem mem_partL_edges {l : List RuleL} {P : List Nat} (hP : ∀ k ∈ P, k < l.length) {a b : Nat} (ha : a < P.length) : b ∈ edgesB (partL l P) a ↔ ∃ hb : b < P.length, P[b] ∈ edgesB l P[a] := by
  have ha2 : a < (partL l P).length := by rw [partL_len]; exact ha
  rw [mem_edges ha2]
  constructor
  · rintro ⟨hb, hm⟩
    have hbP : b < P.length := by rw [partL_len] at hb; exact hb
    rw [partL_at hP hbP, partL_at hP ha] at hm
    exact ⟨hbP, (mem_edges (hP _ (List.getElem_mem ha))).2 ⟨hP _ (List.getElem_mem hbP), hm⟩⟩
  · rintro ⟨hb, hm⟩
    obtain ⟨h1, h2⟩ := (mem_edges (hP _ (List.getElem_mem ha))).1 hm
    have hb2 : b < (partL l P).length := by rw [partL_len]; exact hb
    refine ⟨hb2, ?_⟩
    rw [partL_at hP hb, partL_at hP ha]
    exact h2
theorem partL_out {l : List RuleL} {P : List Nat} {s : List UInt8} (hP : ∀ k ∈ P, k < l.length) (h : s ∉ l.map RuleL.out) : s ∉ (partL l P).map RuleL.out := fun hm => by
  obtain ⟨q, hq, rfl⟩ := List.mem_map.1 hm
  obtain ⟨k, hk, rfl⟩ := List.mem_map.1 hq
  have hkl := hP k hk
  refine h (List.mem_map.2 ⟨l[k], List.getElem_mem hkl, ?_⟩)
  rw [List.getD_eq_getElem?_getD, List.getElem?_eq_getElem hkl]
  rfl
theorem leaf_in {l : List RuleL} {r : RuleL} (hr : r ∈ l) {s : List UInt8} (hs : s ∈ r.ins) (hn : s ∉ l.map RuleL.out) : s ∈ leavesB l := by
  unfold leavesB
  refine mem_compactB ((sortB_perm _).mem_iff.2 ?_)
  unfold looseAll
  refine List.mem_flatten.2 ⟨looseB (l.map RuleL.out) r.ins, List.mem_map.2 ⟨r, hr, rfl⟩, ?_⟩
  unfold looseB
  refine List.mem_filter.2 ⟨hs, ?_⟩
  rw [Bool.not_eq_true']
  exact Bool.eq_false_iff.2 (fun h => hn (List.contains_iff_mem.1 h))
theorem place_one {l : List RuleL} {out : List UInt8} {i : Nat} (h : PlacesAt l [out] [i]) : ∃ hi : i < l.length, l[i].out = out := by
  have hi := h.1 i (List.mem_singleton_self i)
  refine ⟨hi, ?_⟩
  have h2 := h.2
  rw [List.map_singleton, List.getD_eq_getElem?_getD, List.getElem?_eq_getElem hi, Option.getD_some] at h2
  exact List.singleton_inj.1 h2
theorem needL_lt {n : Nat} {N : List Nat} : ∀ k ∈ needL n N, k < n := fun _ hk => List.mem_range.1 (List.mem_filter.1 hk).1

/-- The part that is needed for an out, where the leaves are the same: it has an order just where the whole has one, and wants the same. -/
theorem part_wants {l : List RuleL} {out : List UInt8} {i : Nat} {N : List Nat} {T T' : Look} (hr : RightS l) (hpl : PlacesAt l [out] [i]) (hN : ∀ k, k ∈ N ↔ Reach (edgesB l) [i] k)
    (hT : ∀ s ∈ leavesB (partL l (needL l.length N)), T s = T' s) :
    RightS (partL l (needL l.length N)) ∧ out ∈ (partL l (needL l.length N)).map RuleL.out ∧ ∀ i' N', PlacesAt (partL l (needL l.length N)) [out] [i'] → (∀ k, k ∈ N' ↔ Reach (edgesB (partL l (needL l.length N))) [i'] k) →
      ((∃ o, orderB (edgesB l) (fun k => (needL l.length N).contains k) l.length = some o) ↔ ∃ o, orderB (edgesB (partL l (needL l.length N))) (fun k => (needL (partL l (needL l.length N)).length N').contains k) (partL l (needL l.length N)).length = some o) ∧
      ∀ o, orderB (edgesB l) (fun k => (needL l.length N).contains k) l.length = some o → wantV l T out = wantV (partL l (needL l.length N)) T' out := by
  have hE : ∀ a, ∀ b ∈ edgesB l a, b < l.length := fun a b hb => edges_lt _ a b hb
  have hlt : ∀ k ∈ N, k < l.length := fun k hk => ((hN k).1 hk).lt hE hpl.1
  have hmP : ∀ k, k ∈ needL l.length N ↔ k ∈ N := fun k => mem_needL hlt
  have hPd := needL_nodup l.length N
  have hPl : ∀ k ∈ needL l.length N, k < l.length := needL_lt
  generalize needL l.length N = P at *
  have hrs := partL_right hr hPl hPd
  obtain ⟨hi, hio⟩ := place_one hpl
  have hiP : i ∈ P := (hmP i).2 ((hN i).2 (.base (List.mem_singleton_self i)))
  have hcl : ∀ k ∈ P, ∀ j ∈ edgesB l k, j ∈ P := fun k hk j hj => (hmP j).2 ((hN j).2 (.step ((hN k).1 ((hmP k).1 hk)) hj))
  refine ⟨hrs, ?_, fun i' N' hpl' hN' => ?_⟩
  · obtain ⟨b, hb, e⟩ := List.mem_iff_getElem.1 hiP
    have hb2 : b < (partL l P).length := by rw [partL_len]; exact hb
    refine List.mem_map.2 ⟨(partL l P)[b], List.getElem_mem hb2, ?_⟩
    rw [partL_at hPl hb, ← hio]
    simp only [e]
  have hE' : ∀ a, ∀ b ∈ edgesB (partL l P) a, b < (partL l P).length := fun a b hb => edges_lt _ a b hb
  have hlt' : ∀ k ∈ N', k < (partL l P).length := fun k hk => ((hN' k).1 hk).lt hE' hpl'.1
  have hmP' : ∀ k, k ∈ needL (partL l P).length N' ↔ k ∈ N' := fun k => mem_needL hlt'
  generalize hP' : needL (partL l P).length N' = P' at *
  obtain ⟨hi', hio'⟩ := place_one hpl'
  have hiP2 : i' < P.length := by rw [partL_len] at hi'; exact hi'
  have hPi : P[i'] = i := by
    rw [partL_at hPl hiP2] at hio'
    exact hr.2.outs (hPl _ (List.getElem_mem hiP2)) hi (hio'.trans hio.symm)
  have hback : ∀ k, Reach (edgesB l) [i] k → ∃ b, ∃ hb : b < P.length, P[b] = k ∧ b ∈ P' := by
    intro k hk
    induction hk with
    | base hk =>
      obtain rfl := List.mem_singleton.1 hk
      exact ⟨i', hiP2, hPi, (hmP' i').2 ((hN' i').2 (.base (List.mem_singleton_self i')))⟩
    | step hj hk ih =>
      obtain ⟨b, hb, e, hbm⟩ := ih
      rename_i j k
      have hkP := hcl j ((hmP j).2 ((hN j).2 hj)) k hk
      obtain ⟨c, hc, e2⟩ := List.mem_iff_getElem.1 hkP
      refine ⟨c, hc, e2, (hmP' c).2 ((hN' c).2 (.step ((hN' b).1 ((hmP' b).1 hbm)) ((mem_partL_edges hPl hb).2 ⟨hc, ?_⟩)))⟩
      rw [e, e2]
      exact hk
  have hrank : (∃ o, orderB (edgesB l) (fun k => P.contains k) l.length = some o) → ∃ o, orderB (edgesB (partL l P)) (fun k => P'.contains k) (partL l P).length = some o := by
    rintro ⟨o, ho⟩
    obtain ⟨r, hrk⟩ := rank_of_orderB ho
    refine orderB_of_rank (fun b => r (P.getD b 0)) (fun a ha hab b hb => ?_)
    have haP : a < P.length := by rw [partL_len] at ha; exact ha
    obtain ⟨hbP, hbe⟩ := (mem_partL_edges hPl haP).1 hb
    obtain ⟨h1, h2, h3⟩ := hrk P[a] (hPl _ (List.getElem_mem haP)) (List.contains_iff_mem.2 (List.getElem_mem haP)) P[b] hbe
    refine ⟨by rw [partL_len]; exact hbP, List.contains_iff_mem.2 ((hmP' b).2 ((hN' b).2 (.step ((hN' a).1 ((hmP' a).1 (List.contains_iff_mem.1 hab))) hb))), ?_⟩
    simp only [List.getD_eq_getElem?_getD, List.getElem?_eq_getElem haP, List.getElem?_eq_getElem hbP, Option.getD_some]
    exact h3
  refine ⟨⟨hrank, ?_⟩, fun o ho => ?_⟩
  · rintro ⟨o, ho⟩
    obtain ⟨r, hrk⟩ := rank_of_orderB ho
    refine orderB_of_rank (fun k => r (P.findIdx (fun x => x == k))) (fun k hk hkb j hj => ?_)
    have hkP := List.contains_iff_mem.1 hkb
    have hjP := hcl k hkP j hj
    obtain ⟨a, ha, ea, ham⟩ := hback k ((hN k).1 ((hmP k).1 hkP))
    obtain ⟨b, hb, eb, hbm⟩ := hback j ((hN j).1 ((hmP j).1 hjP))
    subst ea
    subst eb
    obtain ⟨-, -, h3⟩ := hrk a (by rw [partL_len]; exact ha) (List.contains_iff_mem.2 ham) b ((mem_partL_edges hPl ha).2 ⟨hb, hj⟩)
    refine ⟨hPl _ hjP, List.contains_iff_mem.2 hjP, ?_⟩
    show r (P.findIdx (fun x => x == P[b])) < r (P.findIdx (fun x => x == P[a]))
    rw [findIdx_at hPd, findIdx_at hPd]
    exact h3
  · obtain ⟨o', ho'⟩ := hrank ⟨o, ho⟩
    obtain ⟨h1, h2⟩ := order_mem ho
    obtain ⟨h1', h2'⟩ := order_mem ho'
    have key : ∀ (t : Nat) (ht : t < o.length) (hn : o[t] < l.length), wantV l T l[o[t]].out = wantV (partL l P) T' l[o[t]].out := by
      intro t
      induction t using Nat.strongRecOn with
      | ind t ih =>
        intro ht hn
        have hoP : o[t] ∈ P := List.contains_iff_mem.1 (h1.lt _ (List.getElem_mem ht)).2
        obtain ⟨b, hb, eb, hbm⟩ := hback _ ((hN _).1 ((hmP _).1 hoP))
        have hb2 : b < (partL l P).length := by rw [partL_len]; exact hb
        have hpb : (partL l P)[b] = l[o[t]] := by
          rw [partL_at hPl hb]
          simp only [eb]
        have hw' := wantV_rule (T := T') hrs.2 h1' hb2 (h2' b hb2 (List.contains_iff_mem.2 hbm))
        rw [hpb] at hw'
        rw [wantV_rule hr.2 h1 hn (List.getElem_mem ht), hw']
        congr 1
        refine List.map_congr_left (fun s hs => ?_)
        rcases out_cases l s with ⟨j, hj, rfl⟩ | hno
        · obtain ⟨t', ht', e⟩ := List.mem_iff_getElem.1 (h1.back t ht j ((mem_edges hn).2 ⟨hj, hs⟩))
          rw [List.length_take] at ht'
          rw [List.getElem_take] at e
          subst e
          exact ih t' (by omega) (by omega) hj
        · rw [wantV_leaf hno, wantV_leaf (partL_out hPl hno)]
          have hsl : s ∈ leavesB (partL l P) := leaf_in (List.getElem_mem hb2) (by rw [hpb]; exact hs) (partL_out hPl hno)
          unfold leafT
          rw [hT s hsl]
    have hio2 : i ∈ o := h2 i hi (List.contains_iff_mem.2 hiP)
    obtain ⟨t, ht, e⟩ := List.mem_iff_getElem.1 hio2
    have := key t ht (by rw [e]; exact hi)
    simp only [e] at this
    rw [hio] at this
    exact this
end Go.Proofs.YtpihjbfbnoepiaaGreatDoor

namespace Go.Proofs.YtpihjbfbnoepiaaGreatDoor
open Go Go.RowKit Go.Kf Go.Sort Go.Proofs

theorem any_outs (R : List RV) (s : List UInt8) : (R.any fun x => x.1.out == s) = ((R.map Prod.fst).map RuleL.out).contains s := by
  rw [Bool.eq_iff_iff, List.any_eq_true, List.contains_iff_mem, List.map_map, List.mem_map]
  constructor
  · rintro ⟨x, hx, e⟩
    exact ⟨x, hx, by simpa using e⟩
  · rintro ⟨x, hx, e⟩
    exact ⟨x, hx, by simpa using e⟩
/-- What Leaves answers. -/
def LeavesAns (S : Nat → Addr) (l : List RuleL) (B : Nat) (e : Ending) (w' : World) : Prop :=
  (RightS l ∧ ∃ u, e = .returned (.tuple #[u, .nilIface]) ∧ w'.ownsRow B 9 1 u (leavesB l).length ((leavesB l).map str)) ∨ ∃ T x, e = .returned (.tuple #[.slice none 0 0, .iface T x]) ∧ SheetBad S l B (.iface T x) w'

set_option maxRecDepth 100000 in
set_option maxHeartbeats 4000000 in
theorem gleaves_any (R : List RV) (v : Value) (w : World) (S : Nat → Addr) (hR : RulesAt w v R) (hcap : Roomy v) (hm : Ml w) (hE : KErr w S) (hN : NErr w) (ht : Tab w)
    (hb : ∀ x ∈ R, x.1.out.length ≤ 1000000 ∧ x.1.word.length ≤ 100000 ∧ (∀ s ∈ x.1.ins, s.length ≤ 1000000) ∧ x.1.ins.length ≤ 1000) (hn : R.length ≤ 100000) :
    Calls Tryz.prog 21 #[v] w fun e w' => LeavesAns S (R.map Prod.fst) w.heap.size e w' ∧ Below w.heap.size w w' := by
  obtain ⟨a, c, hv, -, -⟩ := id hR.1
  rw [List.length_map] at hv
  subst hv
  have KS := Lib.hid (sheet_any R (.slice a R.length c) w S hR hcap hm hE hN ht hb hn)
  have HR := Lib.hid hR
  have HB := Lib.hid hb
  have hml : (R.map Prod.fst).length = R.length := List.length_map _
  have HML := Lib.hid hml
  obtain ⟨OUTS, hOUTS⟩ : ∃ o, (R.map Prod.fst).map RuleL.out = o := ⟨_, rfl⟩
  have HOUTS := Lib.hid hOUTS
  have HANY : Hid (∀ s, (R.any fun x => x.1.out == s) = OUTS.contains s) := Lib.hid (fun s => by rw [any_outs, hOUTS])
  have HLN : Hid (∀ i, (looseAll OUTS ((R.map Prod.fst).take i)).length ≤ 1000 * R.length) := Lib.hid (fun i => by
    refine Nat.le_trans (loose_len _ (fun r hr => ?_)) ?_
    · obtain ⟨x, hx, rfl⟩ := List.mem_map.1 (List.mem_of_mem_take hr)
      exact (hb x hx).2.2.2
    · rw [List.length_take, hml]
      exact Nat.mul_le_mul_left _ (by omega))
  clear hR hcap hm hE hN ht hb hml hOUTS
  go_enter Tryz.func21, Tryz.ntmps21
  go_wp2_with fail
  refine KS.out.mono ?_
  rintro e w1 ⟨hs, hb1⟩
  rcases sheet_split hs with ⟨hrs, rfl⟩ | ⟨T, x, rfl, hbad⟩
  case inr =>
    have HB1 := Lib.hid hb1
    have HBAD := Lib.hid hbad
    clear hs hb1 hbad
    go_wp2
    go_ret2
    exact ⟨Or.inr ⟨T, x, rfl, HBAD.out⟩, HB1.out⟩
  case inl =>
    have HRS := Lib.hid hrs
    have h40 : R.length ≤ 40 := by have := hrs.1; rw [HML.out] at this; exact this
    have HB1 := Lib.hid hb1
    have hz1 := hb1.size
    have HW : Hid (∀ wl, Below w1.heap.size w1 wl → Below w.heap.size w wl) := Lib.hid (fun wl h => HB1.out.trans (h.mono HB1.out.size))
    clear hs hb1 hrs KS
    go_wp2_with fail
    go_loopw [5, 17] (fun ov iv wl => ∃ i : Nat, i ≤ R.length ∧ iv = .int .i64 i ∧ wl.ownsRow w1.heap.size 9 1 ov (looseAll OUTS ((R.map Prod.fst).take i)).length ((looseAll OUTS ((R.map Prod.fst).take i)).map str) ∧ Below w1.heap.size w1 wl) (fun _ iv _ => R.length - (intOf iv).toNat)
    case atStart => exact ⟨0, by omega, rfl, World.ownsRow_nil _ _ _ _, Below.refl _ _⟩
    case round =>
      obtain ⟨i, hi, rfl, hown, hbi⟩ := hrel
      have HOW := Lib.hid hown
      have HBI := Lib.hid hbi
      have hzi := hbi.size
      by_cases hlt : i < R.length
      · have hlc : ((i : Int) < (R.length : Int)) = True := eq_true (by omega)
        have hri2 := HR.out.below0 (HW.out _ hbi)
        obtain ⟨b, o, hix, -, hce⟩ := hri2.1.at (P := Tryz.prog) Tryz.underlying23 (by kernel_rfl) i (by simpa using hlt)
        simp only [List.getElem_map] at hce
        have hc0 := hce 0 _ rfl
        have hc1 := hce 1 _ rfl
        have hc2 := hce 2 _ rfl
        have hc3 := hce 3 _ rfl
        simp only [Nat.add_zero] at hc0
        have hin := List.getElem_mem hlt
        have hrv := (HR.out.2 _ hin).1
        have hil := (HB.out _ hin).2.2.2
        have HTK : Hid (∀ x, R[i] = x → looseAll OUTS ((R.map Prod.fst).take (i + 1)) = looseAll OUTS ((R.map Prod.fst).take i) ++ looseB OUTS x.1.ins) := Lib.hid (fun x hx => by
          rw [List.take_succ_eq_append_getElem (by rw [HML.out]; exact hlt), looseAll_snoc, List.getElem_map, hx])
        clear hce hin hri2
        generalize hx : R[i] = x at *
        have HTK2 := Lib.hid (HTK.out x rfl)
        clear hx HTK
        obtain ⟨r, u⟩ := x
        simp only at hc0 hc1 hc2 hc3 hrv hil HTK2
        obtain ⟨au, cu, hu, -, -⟩ := id hrv
        rw [List.length_map] at hu
        subst hu
        obtain ⟨W2, hW2⟩ : ∃ W2, wr.alloc (.cells #[str r.out, str r.kind, str r.word, .slice au r.ins.length cu] 39) = W2 := ⟨_, rfl⟩
        have hA : Below wr.heap.size wr W2 := hW2 ▸ (Below.refl _ wr).alloc (Nat.le_refl _) _
        have hq3 : W2.cell? ⟨wr.heap.size, 3, none⟩ = some (.slice au r.ins.length cu) := by rw [← hW2, cell_of_heap (heap_alloc_here wr _)]; rfl
        have hz2 : W2.heap.size = wr.heap.size + 1 := by rw [← hW2]; simp
        have HA := Lib.hid hA
        have HU := Lib.hid hrv
        have HO2 := Lib.hid (ownsRow_fr (S := fun _ => False) hown (Fr.of_below hA) (fun k hk => ⟨(hown.lt k hk).2, id⟩))
        have HB2 := Lib.hid (hbi.trans (hA.mono hzi))
        have hpl := HLN.out i
        clear hown hbi hrv hA
        go_wp2_with fail
        go_loopw [5, 24] (fun ov jv wl => ∃ k : Nat, k ≤ r.ins.length ∧ jv = .int .i64 k ∧ wl.ownsRow w1.heap.size 9 1 ov (looseAll OUTS ((R.map Prod.fst).take i) ++ looseB OUTS (r.ins.take k)).length ((looseAll OUTS ((R.map Prod.fst).take i) ++ looseB OUTS (r.ins.take k)).map str) ∧ Below w1.heap.size w1 wl) (fun _ jv _ => r.ins.length - (intOf jv).toNat)
        case atStart => exact ⟨0, by omega, rfl, by rw [List.take_zero, show looseB OUTS [] = [] from rfl, List.append_nil]; exact HO2.out, HB2.out⟩
        case round =>
          obtain ⟨k, hk, rfl, hown, hbk⟩ := hrel
          have HOK := Lib.hid hown
          have HBK := Lib.hid hbk
          have hzk := hbk.size
          by_cases hkl : k < r.ins.length
          · have hlc2 : ((k : Int) < (r.ins.length : Int)) = True := eq_true (by omega)
            obtain ⟨b2, o2, hix2, hce2⟩ := (HU.out.below0 (HW.out _ hbk)).at (P := Tryz.prog) Tryz.underlying37 (by kernel_rfl) k (by simpa using hkl)
            simp only [List.getElem_map] at hce2
            have HSN : Hid (looseB OUTS (r.ins.take (k + 1)) = looseB OUTS (r.ins.take k) ++ if OUTS.contains r.ins[k] then [] else [r.ins[k]]) := Lib.hid (by rw [List.take_succ_eq_append_getElem hkl, looseB_snoc])
            generalize r.ins[k] = s at *
            obtain ⟨W4, hW4⟩ : ∃ W, wr.alloc (.cells #[str s] 9) = W := ⟨_, rfl⟩
            have hA4 : Below wr.heap.size wr W4 := hW4 ▸ (Below.refl _ wr).alloc (Nat.le_refl _) _
            have hq0 : W4.cell? ⟨wr.heap.size, 0, none⟩ = some (str s) := by rw [← hW4, cell_of_heap (heap_alloc_here wr _)]; rfl
            have hz4 : W4.heap.size = wr.heap.size + 1 := by rw [← hW4]; simp
            have hB4 : Below w1.heap.size w1 W4 := hbk.trans (hA4.mono hzk)
            have KA := anyRule_any (fun x => x.1.out == s) 96 (.pointer (some ⟨wr.heap.size, 0, none⟩)) (.slice a R.length c) R W4 (HR.out.below0 (HW.out _ hB4)).1
              ⟨fun _ _ => rfl, fun W x hW => leaves1_any x wr.heap.size s W ((hW.cell (p := ⟨wr.heap.size, 0, none⟩) (by simp; omega)).trans hq0)⟩
            rw [HANY.out] at KA
            have HB4 := Lib.hid hB4
            have HA4 := Lib.hid hA4
            have HQ0 := Lib.hid hq0
            have hlk : (looseAll OUTS ((R.map Prod.fst).take i) ++ looseB OUTS (r.ins.take k)).length ≤ 1000000 := by
              have h1 : (looseB OUTS (r.ins.take k)).length ≤ (r.ins.take k).length := List.length_filter_le _ _
              rw [List.length_take] at h1
              rw [List.length_append]
              omega
            clear hown hbk hA4 hB4
            cases hco : OUTS.contains s with
            | true =>
              rw [hco] at KA HSN
              have KA1 := Lib.hid KA
              simp only [if_true, List.append_nil] at HSN
              clear KA hco
              go_wp2_with fail
              refine KA1.out.mono ?_
              rintro e w5 ⟨rfl, hb5⟩
              have HF5 : Hid (Below wr.heap.size wr w5) := Lib.hid (HA4.out.trans (hb5.mono (by omega)))
              clear hb5
              go_wp2
              go_roundw
              case rel => exact ⟨k + 1, by omega, by go_num, by rw [HSN.out]; exact ownsRow_fr (S := fun _ => False) HOK.out (Fr.of_below HF5.out) (fun k hk => ⟨(HOK.out.lt k hk).2, id⟩), HBK.out.trans (HF5.out.mono hzk)⟩
              case measure => simp [intOf]; omega
            | false =>
              rw [hco] at KA HSN
              have KA1 := Lib.hid KA
              simp only [Bool.false_eq_true, if_false] at HSN
              clear KA hco
              go_wp2_with fail
              refine KA1.out.mono ?_
              rintro e w5 ⟨rfl, hb5⟩
              have hq5 : w5.cell? ⟨wr.heap.size, 0, none⟩ = some (str s) := (hb5.cell (p := ⟨wr.heap.size, 0, none⟩) (by simp; omega)).trans HQ0.out
              have HF5 : Hid (Below wr.heap.size wr w5) := Lib.hid (HA4.out.trans (hb5.mono (by omega)))
              have hz5 := HF5.out.size
              have HO5 := Lib.hid (ownsRow_fr (S := fun _ => False) HOK.out (Fr.of_below HF5.out) (fun k hk => ⟨(HOK.out.lt k hk).2, id⟩))
              clear hb5 hq0
              go_wp2_with (first
                | (at_builtin
                   refine wpList_app _ rfl _ _ 37 rfl tyStrsA w1.heap.size _ _ _ rfl (HO5.out.alloc _) ⟨w5.heap.size, 0, none⟩ 1 1 [str s] rfl rfl (news_one ?_) ?_ (by decide) ?_ ?_ ?_
                   · rw [cell_of_heap (heap_alloc_here w5 _)]; rfl
                   · intro u hu; simp at hu; subst hu; rfl
                   · omega
                   · simp; omega
                   intro v6 w6 ho6 hg6 hloc6
                   have HO6 : Hid (w6.ownsRow w1.heap.size 9 1 v6 (looseAll OUTS ((R.map Prod.fst).take i) ++ looseB OUTS (r.ins.take (k + 1))).length ((looseAll OUTS ((R.map Prod.fst).take i) ++ looseB OUTS (r.ins.take (k + 1))).map str)) := Lib.hid (by
                     rw [HSN.out, ← List.append_assoc, List.length_append, List.map_append]
                     exact ho6)
                   have HG6 : Hid (∀ B, B ≤ w1.heap.size → Below B w5 w6) := Lib.hid (fun B hB => ((Below.refl _ w5).alloc (by omega) _).grown hg6 (by simp; omega) (fun q hq => by have := (HO5.out.lt q hq).1; omega))
                   clear ho6 hg6 hloc6))
              go_wp2
              go_roundw
              case rel => exact ⟨k + 1, by omega, by go_num, HO6.out, (HBK.out.trans (HF5.out.mono hzk)).trans (HG6.out _ (Nat.le_refl _))⟩
              case measure => simp [intOf]; omega
          · obtain rfl : k = r.ins.length := by omega
            have hlc2 : ((r.ins.length : Int) < (r.ins.length : Int)) = False := eq_false (by omega)
            have hown2 := hown
            rw [List.take_length, ← HTK2.out] at hown2
            have HO9 := Lib.hid hown2
            clear hown hbk hown2
            go_wp2
            go_roundw
            case rel => exact ⟨i + 1, by omega, by go_num, HO9.out, HBK.out⟩
            case measure => simp [intOf]; omega
      · obtain rfl : i = R.length := by omega
        have hlc : ((R.length : Int) < (R.length : Int)) = False := eq_false (by omega)
        have hown2 := hown
        rw [← HML.out, List.take_length] at hown2
        have hll : (looseAll OUTS (R.map Prod.fst)).length ≤ 1000 * R.length := by have h := HLN.out (R.map Prod.fst).length; rw [List.take_length] at h; exact h
        have KQ := Lib.hid (sort_any u5 (looseAll OUTS (R.map Prod.fst)) w1.heap.size wr hown2 (by omega))
        have HLO := Lib.hid hown2
        have HSL : Hid (∀ w2, w2.ownsRow w1.heap.size 9 1 u5 (sortB (looseAll OUTS (R.map Prod.fst))).length ((sortB (looseAll OUTS (R.map Prod.fst))).map str) → Calls Tryz.prog 98 #[u5] w2 fun e w' => ∃ v', e = .returned v' ∧ w'.ownsRow w1.heap.size 9 1 v' (leavesB (R.map Prod.fst)).length ((leavesB (R.map Prod.fst)).map str) ∧ w2.grownBy w' u5.ownBlock) := Lib.hid (fun w2 h => by
          have h1 := compact_any u5 _ w1.heap.size w2 h (by rw [(sortB_perm _).length_eq]; omega)
          unfold leavesB
          rw [HOUTS.out]
          exact h1)
        clear hown hbi hown2
        go_wp2_with fail
        refine KQ.out.mono ?_
        rintro e w2 ⟨rfl, ho2, hg2⟩
        have HC := Lib.hid (HSL.out w2 ho2)
        have HG2 := Lib.hid (HBI.out.grown hg2 hzi (fun q hq => (HLO.out.lt q hq).1))
        have HLT := Lib.hid (fun q hq => (ho2.lt q hq).1)
        clear ho2 hg2
        go_wp2_with fail
        refine HC.out.mono ?_
        rintro e w3 ⟨v3, rfl, ho3, hg3⟩
        have HO3 := Lib.hid (ownsRow_base ho3 hz1)
        have HG3 := Lib.hid (HW.out _ (HG2.out.grown hg3 HG2.out.size (fun q hq => HLT.out q hq)))
        clear ho3 hg3
        go_wp2
        go_ret2
        exact ⟨Or.inl ⟨HRS.out, _, rfl, HO3.out⟩, HG3.out⟩
end Go.Proofs.YtpihjbfbnoepiaaGreatDoor

namespace Go.Proofs.YtpihjbfbnoepiaaGreatDoor
open Go Go.RowKit Go.Kf Go.Sort Go.Proofs

theorem tw_bound2 {m L : List Ent} (h : Tw m L) : ∀ p b, mlook p m = some b → b.length ≤ 2000 := fun q b hq => by
  rw [h.look] at hq
  exact (h.path _ ((mlook_iff h.nodup).1 hq)).2.2
theorem fn_needs2 {n : Nat} {N M : List Nat} (h : ∀ k, k ∈ N ↔ k ∈ M) (hl : ∀ k ∈ N, k < n) : (fun k => (needL n N).contains k) = fun k => M.contains k := by
  funext k
  rw [Bool.eq_iff_iff, List.contains_iff_mem, List.contains_iff_mem, mem_needL hl]
  exact h k
/-- More files, those that are no leaves. -/
def moreM (lv : List (List UInt8)) (ms m : List Ent) : List Ent := ms.foldl (fun m x => if x.1 ∈ lv then m else putM x.1 x.2 m) m
theorem moreM_snoc (lv : List (List UInt8)) (ms m : List Ent) (x : Ent) : moreM lv (ms ++ [x]) m = if x.1 ∈ lv then moreM lv ms m else putM x.1 x.2 (moreM lv ms m) := by simp [moreM]
theorem moreM_look {lv : List (List UInt8)} {s : List UInt8} (hs : s ∈ lv) : ∀ (ms m : List Ent), mlook s (moreM lv ms m) = mlook s m := by
  intro ms
  induction ms with
  | nil => intro m; rfl
  | cons x ms ih =>
    intro m
    show mlook s (moreM lv ms (if x.1 ∈ lv then m else putM x.1 x.2 m)) = _
    rw [ih]
    split
    · rfl
    · rename_i hx
      unfold putM
      split
      · rw [mlook_upd, if_neg (fun e => hx (by rw [e]; exact hs))]
      · rfl
theorem moreM_tw {lv : List (List UInt8)} : ∀ (ms : List Ent) {m L : List Ent}, Tw m L → (∀ x ∈ ms, x.1.length ≤ 100) → ∃ L', Tw (moreM lv ms m) L' := by
  intro ms
  induction ms with
  | nil => intro m L h _; exact ⟨L, h⟩
  | cons x ms ih =>
    intro m L h hx
    show ∃ L', Tw (moreM lv ms (if x.1 ∈ lv then m else putM x.1 x.2 m)) L'
    split
    · exact ih h (fun y hy => hx y (List.mem_cons_of_mem _ hy))
    · exact ih (h.put (hx x List.mem_cons_self)) (fun y hy => hx y (List.mem_cons_of_mem _ hy))

/-- What Of answers where an out is made. -/
def WForm (S : Nat → Addr) (l : List RuleL) (T : Look) (out : List UInt8) (s : List UInt8) (ev : Value) : Prop :=
  ∃ i N, PlacesAt l [out] [i] ∧ (∀ k, k ∈ N ↔ Reach (edgesB l) [i] k) ∧
    ((∃ o, orderB (edgesB l) (fun k => (needL l.length N).contains k) l.length = some o ∧ s = (wantV l T out).2 ∧ ev = errN S (wantV l T out).1) ∨
     (orderB (edgesB l) (fun k => (needL l.length N).contains k) l.length = none ∧ s = [] ∧ ev = errI (S 8)))
theorem wof_form {S : Nat → Addr} {l : List RuleL} {T : Look} {out : List UInt8} {B : Nat} {e : Ending} {w' : World} (h : WOfAns S l T out B e w') (hr : RightS l) (hm : out ∈ l.map RuleL.out) : ∃ s ev, e = .returned (.tuple #[str s, ev]) ∧ WForm S l T out s ev := by
  rcases h with ⟨-, ⟨i, N, h1, h2, ⟨o, ho, rfl⟩ | ⟨ho, rfl⟩⟩ | ⟨hno, -⟩⟩ | ⟨T', x, -, hbad⟩
  · exact ⟨_, _, rfl, i, N, h1, h2, Or.inl ⟨o, ho, rfl, rfl⟩⟩
  · exact ⟨_, _, rfl, i, N, h1, h2, Or.inr ⟨ho, rfl, rfl⟩⟩
  · exact absurd hm hno
  · exact absurd hr hbad.wrong
theorem wforms_same {S : Nat → Addr} {l : List RuleL} {T T' : Look} {out s s' : List UInt8} {ev ev' : Value} {i : Nat} {N : List Nat} (hr : RightS l) (hpl : PlacesAt l [out] [i]) (hN : ∀ k, k ∈ N ↔ Reach (edgesB l) [i] k)
    (hT : ∀ s ∈ leavesB (partL l (needL l.length N)), T s = T' s) (hb : ∀ p b, T p = some b → b.length ≤ 2000) (h : WForm S l T out s ev) (h' : WForm S (partL l (needL l.length N)) T' out s' ev') :
    s = s' ∧ ev = ev' ∧ (ev = .nilIface ∨ (∃ ad, ev = errI ad) ∧ s = []) := by
  obtain ⟨i1, N1, p1, r1, h1⟩ := h
  obtain ⟨i2, N2, p2, r2, h2⟩ := h'
  rw [same_needs hr.2 p1 hpl r1 hN] at h1
  obtain ⟨-, -, hpw⟩ := part_wants hr hpl hN hT
  obtain ⟨hiff, hw⟩ := hpw i2 N2 p2 r2
  rcases h1 with ⟨o, ho, rfl, rfl⟩ | ⟨ho, rfl, rfl⟩
  · obtain ⟨o', ho'⟩ := hiff.1 ⟨o, ho⟩
    rcases h2 with ⟨o2, -, rfl, rfl⟩ | ⟨hn, -⟩
    · rw [hw o ho]
      refine ⟨rfl, rfl, ?_⟩
      have hok := toldOk_want (l := l) (T := T) hb out
      rw [hw o ho] at hok
      unfold errN
      split
      · exact Or.inl rfl
      · rename_i hne
        exact Or.inr ⟨⟨_, rfl⟩, hok.err hne⟩
    · rw [ho'] at hn; cases hn
  · rcases h2 with ⟨o2, ho2, -⟩ | ⟨hn, rfl, rfl⟩
    · obtain ⟨o', ho'⟩ := hiff.2 ⟨o2, ho2⟩
      rw [ho] at ho'; cases ho'
    · exact ⟨rfl, rfl, Or.inr ⟨⟨_, rfl⟩, rfl⟩⟩

set_option maxRecDepth 100000 in
set_option maxHeartbeats 8000000 in
theorem wantLeaves_all (fs ms : List Ent) (vf vm : Value) (R : List RV) (v : Value) (out : List UInt8) (w : World) (S : Nat → Addr) (hfr : ReadsK 2 w vf (fs.map fileRow)) (hmr : ReadsK 2 w vm (ms.map fileRow)) (hr : ReadsK 4 w v (R.map rvRow)) (hi : ∀ x ∈ R, Reads w x.2 (x.1.ins.map str) ∧ NilOr x.2) (hm : Ml w) (hE : KErr w S) (hEL : LErr w S) (hTE : TErr w S) (hN : NErr w) (ht : Tab w) :
    Calls Tryz.prog 3 #[vf, vm, v, str out] w fun e w' => e = .returned (.bool true) ∧ Below w.heap.size w w' := by
  have hrow : ∀ r ∈ R.map rvRow, r ≠ [] := fun r hr => by obtain ⟨x, -, rfl⟩ := List.mem_map.1 hr; simp [rvRow]
  have hrowf : ∀ (fs : List Ent), ∀ r ∈ fs.map fileRow, r ≠ [] := fun fs r hr => by obtain ⟨x, -, rfl⟩ := List.mem_map.1 hr; simp [fileRow]
  obtain ⟨a, c, hv, hle, -⟩ := id hr
  rw [List.length_map] at hv hle
  subst hv
  obtain ⟨am, cm, hvm, hlem, -⟩ := id hmr
  rw [List.length_map] at hvm hlem
  subst hvm
  have KW := Lib.hid (wanted_any w S hm hE hEL hTE hN ht)
  have KLF := Lib.hid (fun w1 (hb : Below w.heap.size w w1) => longFiles2_any vf fs w1 (readsK_below0 hfr (hrowf fs) hb))
  have KLM := Lib.hid (fun w1 (hb : Below w.heap.size w w1) => longFiles2_any (.slice am ms.length cm) ms w1 (readsK_below0 hmr (hrowf ms) hb))
  have KL := Lib.hid (fun w1 (hb : Below w.heap.size w w1) => longRules_any R (.slice a R.length c) 12 w1 (readsK_below0 hr hrow hb) (fun x hx => (hi x hx).1.below0 hb) (by decide))
  have KT := Lib.hid (fun w1 (hb : Below w.heap.size w w1) (hF : FewFiles fs) => fileTree2_any vf fs w1 S (readsK_below0 hfr (hrowf fs) hb) hF (hm.below hb (Nat.le_refl _)) (hTE.below hb (Nat.le_refl _)))
  have KO := Lib.hid (fun w1 (hb : Below w.heap.size w w1) (hs : ∀ x ∈ R, ShortR x.1) (hn : R.length ≤ 1000) => ownRules_any R (.slice a R.length c) w1 (readsK_below0 hr hrow hb) (fun x hx => ⟨(hi x hx).1.below0 hb, (hi x hx).2, by have := (hs x hx).2.2.2.1; omega⟩) hn)
  have KND := Lib.hid (fun w1 (hb : Below w.heap.size w w1) (R' : List RV) (v' vo : Value) (h : ∃ B, OwnAt B w1 v' R') (hre : Reads w1 vo ([out].map str)) (hs : ∀ x ∈ R', ShortR x.1) (h2 : R'.length ≤ 1000) =>
    gneeds_any R' v' [out] vo w1 S (own_rulesT h).1 (own_rulesT h).2 hre (by simp) (hm.below hb (Nat.le_refl _)) (hE.below hb (Nat.le_refl _)) (hEL.below hb (Nat.le_refl _)) (hN.below hb (Nat.le_refl _)) (tab_below ht hb (Nat.le_refl _)) (short_bounds hs) (by omega))
  have KLV := Lib.hid (fun w1 (hb : Below w.heap.size w w1) (R' : List RV) (v' : Value) (h : ∃ B, OwnAt B w1 v' R') (hs : ∀ x ∈ R', ShortR x.1) (h2 : R'.length ≤ 1000) =>
    gleaves_any R' v' w1 S (own_rulesT h).1 (own_rulesT h).2 (hm.below hb (Nat.le_refl _)) (hE.below hb (Nat.le_refl _)) (hN.below hb (Nat.le_refl _)) (tab_below ht hb (Nat.le_refl _)) (short_bounds hs) (by omega))
  have KOF := Lib.hid (fun w1 (hb : Below w.heap.size w w1) (tb mb : Nat) (m : List Ent) (R' : List RV) (v' : Value) (h : ∃ B, OwnAt B w1 v' R') (hs : ∀ x ∈ R', ShortR x.1) (h2 : R'.length ≤ 1000) (hT : TAt w1 tb mb m) (hf : ∀ p b, mlook p m = some b → b.length ≤ 2000) =>
    wof_any (S := S) w1 out (own_rulesT h).1 (own_rulesT h).2 hT (hm.below hb (Nat.le_refl _)) (hE.below hb (Nat.le_refl _)) (hEL.below hb (Nat.le_refl _)) (hN.below hb (Nat.le_refl _)) (tab_below ht hb (Nat.le_refl _)) (short_bounds hs) hf h2)
  have HRC := Lib.hid (fun w1 (hb : Below w.heap.size w w1) => (⟨readsK_below0 hr hrow hb, fun x hx => ⟨(hi x hx).1.below0 hb, (hi x hx).2⟩⟩ : ReadsK 4 w1 (.slice a R.length c) (R.map rvRow) ∧ ∀ x ∈ R, Reads w1 x.2 (x.1.ins.map str) ∧ NilOr x.2))
  have HMR := Lib.hid (fun w1 (hb : Below w.heap.size w w1) => readsK_below0 hmr (hrowf ms) hb)
  have HM := Lib.hid (fun w1 (hb : Below w.heap.size w w1) => hm.below hb (Nat.le_refl _))
  have HTE := Lib.hid (fun w1 (hb : Below w.heap.size w w1) => hTE.below hb (Nat.le_refl _))
  have hml : (R.map Prod.fst).length = R.length := List.length_map _
  have HML := Lib.hid hml
  clear hfr hmr hr hi hm hE hEL hTE hN ht hrow hrowf hml
  go_enter Tryz.func3, Tryz.ntmps3
  go_wp2_with fail
  refine KW.out.mono ?_
  rintro e w1 ⟨rfl, hb1⟩
  have HB1 := Lib.hid hb1
  clear hb1
  go_wp2_with fail
  refine (KLF.out w1 HB1.out).mono ?_
  rintro e w2 ⟨rfl, rfl | ⟨rfl, hff⟩⟩
  · go_wp2
    go_ret
    exact ⟨rfl, HB1.out⟩
  have HFF := Lib.hid hff
  clear hff
  go_wp2_with fail
  refine (KLM.out w1 HB1.out).mono ?_
  rintro e w2 ⟨rfl, rfl | ⟨rfl, hfm⟩⟩
  · go_wp2
    go_ret
    exact ⟨rfl, HB1.out⟩
  have HFM := Lib.hid hfm
  clear hfm
  go_wp2_with fail
  refine (KL.out w1 HB1.out).mono ?_
  rintro e w2 ⟨rfl, rfl | ⟨rfl, hn, hs⟩⟩
  · go_wp2
    go_ret
    exact ⟨rfl, HB1.out⟩
  have HS := Lib.hid hs
  have hn41 : R.length ≤ 41 := by omega
  clear hn hs
  by_cases hol : 100 < out.length
  · have hol2 : (100 < (out.length : Int)) = True := eq_true (by omega)
    go_wp2
    go_ret
    exact ⟨rfl, HB1.out⟩
  have hol2 : (100 < (out.length : Int)) = False := eq_false (by omega)
  have KT1 := Lib.hid (KT.out w1 HB1.out HFF.out)
  go_wp2_with fail
  refine KT1.out.mono ?_
  rintro e w2 ⟨tb, mb, rb, lv, rfl, htc⟩
  have HTW := Lib.hid (files_tw' HFF.out)
  have HB2 := Lib.hid (HB1.out.trans (htc.b.mono HB1.out.size))
  have HTA := Lib.hid htc.t
  have hz2 := HB2.out.size
  have KT2 := Lib.hid (KT.out w2 HB2.out HFF.out)
  generalize hfm : filesM fs = m at *
  generalize hfl : filesL fs = L at *
  clear htc hfm hfl KT1
  go_wp2_with fail
  refine KT2.out.mono ?_
  rintro e w3 ⟨tb2, mb2, rb2, lv2, rfl, htc⟩
  have HP3 := Lib.hid htc.b
  have HB3 := Lib.hid (HB2.out.trans (htc.b.mono HB2.out.size))
  have HTB := Lib.hid htc.t
  have HF3 := Lib.hid htc.f
  have hz3 := htc.b.size
  have KO3 := Lib.hid (KO.out w3 HB3.out HS.out (by omega))
  clear htc KT2
  go_wp2_with fail
  refine KO3.out.mono ?_
  rintro e w4 ⟨v4, R4, rfl, he4, ho4, hb4⟩
  have HE4 := Lib.hid he4
  have HP4 := Lib.hid (HP3.out.trans (hb4.mono HP3.out.size))
  have HQ4 := Lib.hid hb4
  have HB4 := Lib.hid (HB3.out.trans (hb4.mono HB3.out.size))
  have hl4 : R4.length = R.length := by have := congrArg List.length he4; simpa using this
  have HO4 := Lib.hid ho4
  clear he4 ho4 hb4 KO3
  go_wp2_with fail
  obtain ⟨W5, hW5⟩ : ∃ W, w4.alloc (.cells #[str out] 9) = W := ⟨_, rfl⟩
  have hA5 : Below w4.heap.size w4 W5 := hW5 ▸ (Below.refl _ w4).alloc (Nat.le_refl _) _
  have hre : Reads W5 (.slice (some ⟨w4.heap.size, 0, none⟩) 1 1) ([out].map str) := by
    refine ⟨_, 1, rfl, by simp, fun i u hi => ⟨w4.heap.size, 0, rfl, ?_⟩⟩
    match i, hi with
    | 0, hi =>
      simp at hi
      subst hi
      rw [← hW5]
      exact (cell_of_heap (heap_alloc_here w4 _) 0).trans rfl
  have HB5 := Lib.hid (HB4.out.trans (hA5.mono HB4.out.size))
  have HP5 := Lib.hid (HP4.out.trans (hA5.mono HP4.out.size))
  have HTB5 := Lib.hid ((HTB.out.below HQ4.out).below hA5)
  have KN5 := Lib.hid (KND.out W5 HB5.out R4 v4 _ ⟨_, HO4.out.fr hA5⟩ hre (short_other HS.out HE4.out) (by omega))
  rw [hW5]
  clear hA5 hre hW5
  refine KN5.out.mono ?_
  rintro e w6 ⟨ha6, hb6⟩
  rw [HE4.out] at ha6
  have HB6 := Lib.hid (HB5.out.trans (hb6.mono HB5.out.size))
  have HP6 := Lib.hid (HP5.out.trans (hb6.mono HP5.out.size))
  have HTB6 := Lib.hid (HTB5.out.below hb6)
  rcases ha6 with ⟨hrs, hok | hno⟩ | ⟨T, x, rfl, hbad⟩
  case inr =>
    clear hbad hb6
    go_wp2
    go_ret
    exact ⟨rfl, HB6.out⟩
  case inl.inr =>
    obtain ⟨i, g, hi, h1, h2, rfl, -, -⟩ := hno
    clear h1 h2 hb6
    go_wp2
    go_ret
    exact ⟨rfl, HB6.out⟩
  case inl.inl =>
    obtain ⟨ks, N, u, hpl, hN, rfl, hown⟩ := hok
    obtain ⟨i0, rfl⟩ : ∃ i, ks = [i] := List.length_eq_one_iff.1 hpl.len
    have HRS := Lib.hid hrs
    have HPL := Lib.hid hpl
    have HN := Lib.hid hN
    have HPLT : Hid (∀ k ∈ needL (R.map Prod.fst).length N, k < R.length) := Lib.hid (fun k hk => by have := needL_lt k hk; rw [HML.out] at this; exact this)
    obtain ⟨P, hPE⟩ : ∃ P, needL (R.map Prod.fst).length N = P := ⟨_, rfl⟩
    have HPE := Lib.hid hPE
    rw [hPE] at hown HPLT
    have HRP := Lib.hid (reads_ints hown)
    have hPlen : P.length ≤ 41 := by have := needL_len (R.map Prod.fst).length N; rw [hPE, HML.out] at this; omega
    obtain ⟨ap, cp, hup, -, -⟩ := id HRP.out
    rw [List.length_map] at hup
    subst hup
    have hz6 := hb6.size
    clear hrs hpl hN hown hPE hb6 KN5
    obtain ⟨RP, hRP⟩ : ∃ RP : Nat → List RV, RP = fun j => (P.take j).map (fun k => R.getD k (noR, .slice none 0 0)) := ⟨_, rfl⟩
    have HRP0 : Hid (RP 0 = []) := Lib.hid (by rw [hRP]; rfl)
    have HRPS : Hid (∀ j (hj : j < P.length) (hl : P[j] < R.length), RP (j + 1) = RP j ++ [R[P[j]]]) := Lib.hid (fun j hj hl => by
      rw [hRP]
      simp only
      rw [List.take_succ_eq_append_getElem hj, List.map_append, List.map_singleton, List.getD_eq_getElem?_getD, List.getElem?_eq_getElem hl]
      rfl)
    have HRPL : Hid (∀ j, j ≤ P.length → (RP j).length = j) := Lib.hid (fun j hj => by rw [hRP]; simp; omega)
    have HRPF : Hid ((RP P.length).map Prod.fst = partL (R.map Prod.fst) P) := Lib.hid (by
      rw [hRP]
      unfold partL
      simp only [List.take_length, List.map_map]
      refine List.map_congr_left (fun k hk => ?_)
      have hk2 := HPLT.out k hk
      have hk3 : k < (R.map Prod.fst).length := by rw [HML.out]; exact hk2
      simp only [Function.comp_apply]
      rw [List.getD_eq_getElem?_getD, List.getElem?_eq_getElem hk2, List.getD_eq_getElem?_getD, List.getElem?_eq_getElem hk3, Option.getD_some, Option.getD_some, List.getElem_map])
    have HRPM : Hid (∀ x ∈ RP P.length, x ∈ R) := Lib.hid (fun x hx => by
      rw [hRP] at hx
      simp only [List.take_length] at hx
      obtain ⟨k, hk, rfl⟩ := List.mem_map.1 hx
      have hk2 := HPLT.out k hk
      rw [List.getD_eq_getElem?_getD, List.getElem?_eq_getElem hk2]
      exact List.getElem_mem hk2)
    clear hRP
    go_wp2_with fail
    go_loopw [16, 17] (fun pv iv wl => ∃ j : Nat, j ≤ P.length ∧ iv = .int .i64 j ∧ wl.ownsRow w6.heap.size 39 4 pv j ((RP j).map rvRow).flatten ∧ Below w6.heap.size w6 wl) (fun _ iv _ => P.length - (intOf iv).toNat)
    case atStart => exact ⟨0, by omega, rfl, by rw [HRP0.out]; exact World.ownsRow_nil _ _ _ _, Below.refl _ _⟩
    case round =>
      obtain ⟨j, hj, rfl, hown, hbj⟩ := hrel
      have HO := Lib.hid hown
      have HB := Lib.hid hbj
      have hzj := hbj.size
      by_cases hlt : j < P.length
      · have hlc : ((j : Int) < (P.length : Int)) = True := eq_true (by omega)
        obtain ⟨b, o, hix, hce⟩ := (HRP.out.below0 hbj).at (P := Tryz.prog) Tryz.underlying31 (by kernel_rfl) j (by simpa using hlt)
        simp only [List.getElem_map] at hce
        have hkR := HPLT.out _ (List.getElem_mem hlt)
        have HSJ := Lib.hid (HRPS.out j hlt hkR)
        obtain ⟨b2, o2, hix2, -, hce2⟩ := (HRC.out wr (HB6.out.trans (hbj.mono HB6.out.size))).1.at (P := Tryz.prog) Tryz.underlying23 (by kernel_rfl) P[j] (by simpa using hkR)
        simp only [List.getElem_map] at hce2
        generalize P[j] = k at *
        have e1 : ((k : Int) < 0) = False := eq_false (by omega)
        have e2 : ((R.length : Int) ≤ (k : Int)) = False := eq_false (by omega)
        have hc0 := hce2 0 _ rfl
        have hc1 := hce2 1 _ rfl
        have hc2 := hce2 2 _ rfl
        have hc3 := hce2 3 _ rfl
        simp only [Nat.add_zero] at hc0
        have hx3 := ((HRC.out w (Below.refl _ _)).2 _ (List.getElem_mem hkR)).1
        generalize R[k] = x at *
        obtain ⟨⟨x0, x1, x2, x4⟩, x3⟩ := x
        obtain ⟨au, cu, hx3, -, -⟩ := hx3
        simp only at hc0 hc1 hc2 hc3 HSJ hx3
        rw [List.length_map] at hx3
        subst hx3
        clear hown hbj hce2
        go_wp2_with (first
          | (at_builtin
             refine wpList_appK _ rfl (.tmp 95) (.tmp 103) 23 rfl tyRules w6.heap.size _ j _ rfl (HO.out.alloc _) ⟨wr.heap.size, 0, none⟩ 1 1 [str x0, str x1, str x2, .slice au x4.length cu] rfl rfl (news_block wr [str x0, str x1, str x2, .slice au x4.length cu] _) ?_ (by decide) ?_ ?_ ?_
             · intro u hu; simp at hu; rcases hu with rfl | rfl | rfl | rfl <;> rfl
             · omega
             · simp; omega
             intro v7 w7 ho7 hg7 hloc7
             have HO7 : Hid (w7.ownsRow w6.heap.size 39 4 v7 (j + 1) ((RP (j + 1)).map rvRow).flatten) := Lib.hid (by
               rw [HSJ.out, List.map_append, List.flatten_append]
               simpa [rvRow] using ho7)
             have HB7 : Hid (Below w6.heap.size w6 w7) := Lib.hid ((HB.out.alloc hzj _).grown hg7 (by simp; omega) (fun q hq => (HO.out.lt q hq).1))
             clear ho7 hg7 hloc7))
        go_wp2
        go_roundw
        case rel => exact ⟨j + 1, by omega, by go_num, HO7.out, HB7.out⟩
        case measure => simp [intOf]; omega
      · obtain rfl : j = P.length := by omega
        have hlc : ((P.length : Int) < (P.length : Int)) = False := eq_false (by omega)
        have HBW := Lib.hid (HB6.out.trans (hbj.mono HB6.out.size))
        have HPW := Lib.hid (HP6.out.trans (hbj.mono HP6.out.size))
        have hro := ownsRow_readsK hown (by rw [List.length_map]; exact HRPL.out _ (Nat.le_refl _)) (fun r hr => by obtain ⟨x, -, rfl⟩ := List.mem_map.1 hr; rfl)
        obtain ⟨apt, cpt, hpt, -, -⟩ := id hro
        rw [List.length_map, HRPL.out _ (Nat.le_refl _)] at hpt
        subst hpt
        have hlen6 := HRPL.out _ (Nat.le_refl P.length)
        have KOP := Lib.hid (fun (wl : World) (hw : Below w.heap.size w wl) (ho : wl.ownsRow w6.heap.size 39 4 (.slice apt P.length cpt) P.length ((RP P.length).map rvRow).flatten) =>
          ownRules_any (RP P.length) (.slice apt P.length cpt) wl (ownsRow_readsK ho (by rw [List.length_map]; exact hlen6) (fun r hr => by obtain ⟨x, -, rfl⟩ := List.mem_map.1 hr; rfl))
            (fun x hx => by
              have h1 := (HRC.out wl hw).2 x (HRPM.out x hx)
              have h2 := (HS.out x (HRPM.out x hx)).2.2.2.1
              exact ⟨h1.1, h1.2, by omega⟩) (by omega))
        have KO7 := Lib.hid (KOP.out wr HBW.out hown)
        clear hown hbj hro
        go_wp2_with fail
        refine KO7.out.mono ?_
        rintro e w7 ⟨v7, R7, rfl, he7, ho7, hb7⟩
        have HE7 := Lib.hid he7
        have HP7 := Lib.hid (HPW.out.trans (hb7.mono HPW.out.size))
        have HQ7 := Lib.hid (HB.out.trans (hb7.mono HB.out.size))
        have HB7 := Lib.hid (HBW.out.trans (hb7.mono HBW.out.size))
        have hl7 : R7.length = P.length := by have := congrArg List.length he7; simpa [hlen6] using this
        have HS7 : Hid (∀ x ∈ RP P.length, ShortR x.1) := Lib.hid (fun x hx => HS.out x (HRPM.out x hx))
        have KLV7 := Lib.hid (KLV.out w7 HB7.out R7 v7 ⟨_, ho7⟩ (short_other HS7.out he7) (by omega))
        have HO7 : Hid (w7.ownsRow w6.heap.size 39 4 (.slice apt P.length cpt) P.length ((RP P.length).map rvRow).flatten) := Lib.hid (ownsRow_fr (S := fun _ => False) HO.out (Fr.of_below hb7) (fun q hq => ⟨(HO.out.lt q hq).2, id⟩))
        clear he7 ho7 hb7 KO7
        go_wp2_with fail
        refine KLV7.out.mono ?_
        rintro e w8 ⟨ha8, hb8⟩
        rw [HE7.out, HRPF.out] at ha8
        have hpw := Lib.hid (part_wants (out := out) (i := i0) (N := N) (T := fun p => mlook p m) (T' := fun p => mlook p m) HRS.out HPL.out HN.out (fun _ _ => rfl))
        rw [HPE.out] at hpw
        have HRSP : Hid (RightS (partL (R.map Prod.fst) P)) := Lib.hid hpw.out.1
        rcases ha8 with ⟨-, u8v, rfl, how8⟩ | ⟨T, x, -, hbad⟩
        case inr => exact absurd HRSP.out hbad.wrong
        case inl =>
          obtain ⟨LV, hLV⟩ : ∃ LV, leavesB (partL (R.map Prod.fst) P) = LV := ⟨_, rfl⟩
          have HLV := Lib.hid hLV
          rw [hLV] at how8
          have HO8 := Lib.hid (ownsRow_fr (S := fun _ => False) HO7.out (Fr.of_below hb8) (fun q hq => ⟨(HO7.out.lt q hq).2, id⟩))
          have HP8 := Lib.hid (HP7.out.trans (hb8.mono HP7.out.size))
          have HQ8 := Lib.hid (HQ7.out.trans (hb8.mono HQ7.out.size))
          have HB8 := Lib.hid (HB7.out.trans (hb8.mono HB7.out.size))
          have HOW8 := Lib.hid how8
          have HZ8 := Lib.hid hb8.size
          clear hb8 how8 hLV hpw KLV7
          have HT8 := Lib.hid (HTB6.out.below HQ8.out)
          have hmb2 : w2.heap.size ≤ mb2 := HF3.out.2.1
          have hmb3 : mb2 < w6.heap.size := HTB6.out.lt.2
          have hz78 := HQ7.out.size
          have hz8 := HZ8.out
          have HFW : Hid (∀ wl, Fr w8.heap.size (fun k => k = mb2) w8 wl → Below w2.heap.size w2 wl ∧ Below w.heap.size w wl) := Lib.hid (fun wl hf => by
            have h2 : Below w2.heap.size w8 wl := (hf.mono (S' := fun k => k = mb2) (B' := w2.heap.size) (by have := HP8.out.size; omega) (fun _ _ h => h)).below (fun k hk e => by omega)
            have h3 := HP8.out.trans h2
            exact ⟨h3, HB2.out.trans (h3.mono HB2.out.size)⟩)
          have HRL : Hid (∀ wl, Fr w8.heap.size (fun k => k = mb2) w8 wl → Reads wl u8v (LV.map str)) := Lib.hid (fun wl hf =>
            ownsRow_reads (ownsRow_fr HOW8.out hf (fun k hk => by have := HOW8.out.lt k hk; exact ⟨this.2, by omega⟩)))
          have HMW := Lib.hid (fun j => moreM_tw (lv := LV) (ms.take j) HTW.out (fun x hx => (HFM.out.2 x (List.mem_of_mem_take hx)).1))
          obtain ⟨al, cl, hul, -, -⟩ := id (HRL.out w8 (Fr.refl _ _ _))
          rw [List.length_map] at hul
          subst hul
          have h30 := HFM.out.1
          go_wp2_with fail
          go_loopw [19] (fun iv wl => ∃ j : Nat, j ≤ ms.length ∧ iv = .int .i64 j ∧ TAt wl tb2 mb2 (moreM LV (ms.take j) m) ∧ Fr w8.heap.size (fun k => k = mb2) w8 wl) (fun iv _ => ms.length - (intOf iv).toNat)
          case atStart => exact ⟨0, by omega, rfl, HT8.out, Fr.refl _ _ _⟩
          case round =>
            obtain ⟨j, hj, rfl, hta, hfj⟩ := hrel
            have HTJ := Lib.hid hta
            have HFJ := Lib.hid hfj
            have hbw := (HFW.out wr hfj).2
            by_cases hlt : j < ms.length
            · have hlc : ((j : Int) < (ms.length : Int)) = True := eq_true (by omega)
              obtain ⟨b, o, hix, -, hce⟩ := (HMR.out w (Below.refl _ _)).at (P := Tryz.prog) Tryz.underlying22 (by kernel_rfl) j (by simpa using hlt)
              simp only [List.getElem_map] at hce
              have h0 := hce 0 _ rfl
              have h1 := hce 1 _ rfl
              simp only [Nat.add_zero] at h0
              have HSN := Lib.hid (moreM_snoc LV (ms.take j) m ms[j])
              rw [← List.take_succ_eq_append_getElem hlt] at HSN
              have HLN := Lib.hid (HFM.out.2 _ (List.getElem_mem hlt))
              generalize ms[j] = x at *
              obtain ⟨p, cb⟩ := x
              simp only at h0 h1 HSN HLN
              have hlb := lt_of_cell h0
              have hlb1 := lt_of_cell h1
              have HCE : Hid (∀ wl, Below w.heap.size w wl → wl.cell? ⟨b, o, none⟩ = some (str p) ∧ wl.cell? ⟨b, o + 1, none⟩ = some (str cb)) := Lib.hid (fun wl hb => ⟨(hb.cell hlb).trans h0, (hb.cell hlb1).trans h1⟩)
              obtain ⟨h2, h3⟩ := HCE.out wr hbw
              have KI := Lib.hid (rindex_any p LV (.slice al LV.length cl) wr (HRL.out wr hfj))
              have HIM := Lib.hid (idxL_mem p LV)
              clear hce h0 h1
              by_cases hm : p ∈ LV
              · have hz : (idxL p LV < 0) = False := eq_false (by
                  have := HIM.out
                  rw [decide_eq_true hm] at this
                  have := of_decide_eq_true this
                  omega)
                rw [if_pos hm] at HSN
                generalize idxL p LV = z at *
                clear hta hfj
                go_wp2_with fail
                refine KI.out.mono ?_
                rintro e w9 ⟨rfl, rfl⟩
                go_wp2
                go_roundw
                case rel => exact ⟨j + 1, by omega, by go_num, by rw [HSN.out]; exact HTJ.out, HFJ.out⟩
                case measure => simp [intOf]; omega
              · have hz : (idxL p LV < 0) = True := eq_true (by
                  have := HIM.out
                  rw [decide_eq_false hm] at this
                  have := of_decide_eq_false this
                  omega)
                rw [if_neg hm] at HSN
                generalize idxL p LV = z at *
                have KP : Hid (∀ wl, Below wr.heap.size wr wl → Calls Tryz.prog 23 #[.pointer (some ⟨tb2, 0, none⟩), str p, str cb] wl fun e w' => e = .returned (codeV S (putC p cb (moreM LV (ms.take j) m))) ∧ TAt w' tb2 mb2 (putM p cb (moreM LV (ms.take j) m)) ∧ Fr w8.heap.size (fun k => k = mb2) w8 w') := Lib.hid (fun wl hbl => by
                  obtain ⟨L', htw⟩ := HMW.out j
                  have hf2 : Fr w8.heap.size (fun k => k = mb2) w8 wl := HFJ.out.trans ((Fr.of_below hbl).mono HFJ.out.size (fun _ _ h => h))
                  refine (put_tree tb2 mb2 _ p cb wl S (HTJ.out.below hbl) (HM.out wl (HFW.out wl hf2).2) (HTE.out wl (HFW.out wl hf2).2) (by have := HLN.out.1; omega) (by have := htw.many; have := htw.len; omega) (fun y hy => by have := htw.keyLen hy; omega)).mono ?_
                  rintro e w' ⟨h1, h2, h3⟩
                  exact ⟨h1, h2, hf2.trans (h3.mono hf2.size (fun _ _ h => h))⟩)
                clear hta hfj
                go_wp2_with fail
                refine KI.out.mono ?_
                rintro e w9 ⟨rfl, rfl⟩
                go_wp2_with fail
                go_region_held3 (fun w' => w'.cell? ⟨b, o, none⟩ = some (str p) ∧ w'.cell? ⟨b, o + 1, none⟩ = some (str cb))
                  (first | exact HCE.out _ (HFW.out _ hF4).2 | exact HCE.out _ (HFW.out _ HFJ.out).2 | exact HCE.out _ (HFW.out _ HFJ.out.drew).2)
                  (first
                    | (go_at_call 23
                       refine (KP.out _ ?_).mono ?_
                       · first | exact (Below.refl _ _) | exact (Below.refl _ _).drew
                       rintro e w4' ⟨rfl, hT4, hF4⟩))
                have HT4 := Lib.hid hT4
                have HF4 := Lib.hid hF4
                clear hT4 hF4 h2 h3
                go_wp2
                go_roundw
                case rel => exact ⟨j + 1, by omega, by go_num, by rw [HSN.out]; exact HT4.out, HF4.out⟩
                case measure => simp [intOf]; omega
            · obtain rfl : j = ms.length := by omega
              have hlc : ((ms.length : Int) < (ms.length : Int)) = False := eq_false (by omega)
              rw [List.take_length] at HTJ
              have HW9 := Lib.hid (HFW.out wr hfj)
              have HOJ : Hid (wr.ownsRow w6.heap.size 39 4 (.slice apt P.length cpt) P.length ((RP P.length).map rvRow).flatten) := Lib.hid (ownsRow_fr HO8.out hfj (fun k hk => by have := HO8.out.lt k hk; exact ⟨by omega, by omega⟩))
              have KO9 := Lib.hid (KO.out wr hbw HS.out (by omega))
              clear hta hfj hbw
              go_wp2_with fail
              refine KO9.out.mono ?_
              rintro e w9 ⟨v9, R9, rfl, he9, ho9, hb9⟩
              have HE9 := Lib.hid he9
              have HB9 := Lib.hid (HW9.out.2.trans (hb9.mono HW9.out.2.size))
              have HP9 := Lib.hid (HW9.out.1.trans (hb9.mono HW9.out.1.size))
              have HQ9 := Lib.hid hb9
              have hl9 : R9.length = R.length := by have := congrArg List.length he9; simpa using this
              have KOF9 := Lib.hid (KOF.out w9 HB9.out tb mb m R9 v9 ⟨_, ho9⟩ (short_other HS.out he9) (by omega) (HTA.out.below HP9.out) (tw_bound2 HTW.out))
              clear he9 ho9 hb9 KO9
              go_wp2_with fail
              refine KOF9.out.mono ?_
              rintro e w10 ⟨ha10, hb10⟩
              rw [HE9.out] at ha10
              obtain ⟨s10, ev10, rfl, hwf10⟩ := wof_form ha10 HRS.out (places_made HPL.out out (List.mem_singleton_self _))
              have HWF10 := Lib.hid hwf10
              have HQ10 := Lib.hid (HQ9.out.trans (hb10.mono HQ9.out.size))
              have HB10 := Lib.hid (HB9.out.trans (hb10.mono HB9.out.size))
              have HO10 := Lib.hid (ownsRow_fr (S := fun _ => False) HOJ.out (Fr.of_below HQ10.out) (fun q hq => ⟨(HOJ.out.lt q hq).2, id⟩))
              have KO10 := Lib.hid (KOP.out w10 HB10.out HO10.out)
              clear ha10 hwf10 hb10 KOF9
              go_wp2_with fail
              refine KO10.out.mono ?_
              rintro e w11 ⟨v11, R11, rfl, he11, ho11, hb11⟩
              have HE11 := Lib.hid he11
              have HB11 := Lib.hid (HB10.out.trans (hb11.mono HB10.out.size))
              have HQ11 := Lib.hid (HQ10.out.trans (hb11.mono HQ10.out.size))
              have hl11 : R11.length = P.length := by have := congrArg List.length he11; simpa [hlen6] using this
              have HLV2 : Hid (∀ s ∈ leavesB (partL (R.map Prod.fst) P), mlook s m = mlook s (moreM LV ms m)) := Lib.hid (fun s hs => by rw [HLV.out] at hs; exact (moreM_look hs ms m).symm)
              obtain ⟨LU, hLU⟩ := HMW.out ms.length
              rw [List.take_length] at hLU
              have KOF11 := Lib.hid (KOF.out w11 HB11.out tb2 mb2 (moreM LV ms m) R11 v11 ⟨_, ho11⟩ (short_other HS7.out he11) (by omega) (HTJ.out.below HQ11.out) (tw_bound2 hLU))
              clear he11 ho11 hb11 KO10 hLU
              go_wp2_with fail
              refine KOF11.out.mono ?_
              rintro e w12 ⟨ha12, hb12⟩
              rw [HE11.out, HRPF.out] at ha12
              have hpw2 := part_wants (out := out) (i := i0) (N := N) (T := fun p => mlook p m) (T' := fun p => mlook p (moreM LV ms m)) HRS.out HPL.out HN.out (by rw [HPE.out]; exact HLV2.out)
              rw [HPE.out] at hpw2
              obtain ⟨s12, ev12, rfl, hwf12⟩ := wof_form ha12 hpw2.1 hpw2.2.1
              have HB12 := Lib.hid (HB11.out.trans (hb12.mono HB11.out.size))
              obtain ⟨rfl, rfl, hev⟩ := wforms_same (T' := fun p => mlook p (moreM LV ms m)) HRS.out HPL.out HN.out (by rw [HPE.out]; exact HLV2.out) (tw_bound2 HTW.out) HWF10.out (by rw [HPE.out]; exact hwf12)
              clear ha12 hwf12 hb12 hpw2 KOF11 HWF10
              rcases hev with rfl | ⟨⟨ad, rfl⟩, rfl⟩
              · go_wp2
                go_ret
                exact ⟨by simp, HB12.out⟩
              · go_wp2
                go_ret
                exact ⟨by simp, HB12.out⟩
end Go.Proofs.YtpihjbfbnoepiaaGreatDoor
