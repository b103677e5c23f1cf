/-
  A slice of the call's own that may be cut at its head: reads, tail, append. What Needs, Leaves, Order and Cycle stand on: a sheet's answer, outs' places, the map of those needed. Cycle or order, in plain words.
-/
import Derived.Test.YtpihjbfbnoepiaaGreatDoorPkG
import Derived.ArgAppend

namespace Go.Kf
open Go Go.RowKit

/-- A slice (elements of one cell) of the call's own, cut at its head or not. -/
def OwnQ (w : World) (base : Nat) (v : Value) (xs : List Value) : Prop :=
  (v = .slice none 0 0 ∧ xs = []) ∨ ∃ ad g o cap, v = .slice (some ad) xs.length cap ∧ ad.block = g ∧ (0 < cap → ad = ⟨g, o, none⟩) ∧ base ≤ g ∧ g < w.heap.size ∧ xs.length ≤ cap ∧ cap ≤ maxLen ∧
    (∀ j, j < cap → (w.cell? ⟨g, o + j, none⟩).isSome = true ∧ w.frozen? ⟨g, o + j, none⟩ = false) ∧ ∀ j u, xs[j]? = some u → w.cell? ⟨g, o + j, none⟩ = some u
theorem OwnQ.nil (w : World) (base : Nat) : OwnQ w base (.slice none 0 0) [] := Or.inl ⟨rfl, rfl⟩
theorem OwnQ.reads {w : World} {base : Nat} {v : Value} {xs : List Value} (h : OwnQ w base v xs) : Reads w v xs := by
  rcases h with ⟨rfl, rfl⟩ | ⟨ad, g, o, cap, rfl, -, ha, -, -, hle, hcm, -, hc⟩
  · exact ⟨none, 0, rfl, by simp, fun i u hi => by simp at hi⟩
  · refine ⟨some ad, cap, rfl, by unfold maxLen at hcm; omega, fun i u hi => ⟨g, o, ?_, hc i u hi⟩⟩
    have := (List.getElem?_eq_some_iff.1 hi).1
    rw [ha (by omega)]
theorem OwnQ.lt {w : World} {base : Nat} {v : Value} {xs : List Value} (h : OwnQ w base v xs) : ∀ k, v.ownBlock = some k → base ≤ k ∧ k < w.heap.size := fun k hk => by
  rcases h with ⟨rfl, rfl⟩ | ⟨ad, g, o, cap, rfl, hg, -, hb, hlt, -⟩
  · cases hk
  · obtain rfl := Option.some.inj hk
    exact ⟨by omega, by omega⟩
theorem OwnQ.fr {w w' : World} {base B : Nat} {S : Nat → Prop} {v : Value} {xs : List Value} (h : OwnQ w base v xs) (hf : Fr B S w w') (hv : ∀ k, v.ownBlock = some k → k < B ∧ ¬ S k) : OwnQ w' base v xs := by
  rcases h with ⟨rfl, rfl⟩ | ⟨ad, g, o, cap, rfl, hg, ha, hb, hlt, hle, hcm, hs, hc⟩
  · exact OwnQ.nil _ _
  · obtain ⟨h1, h2⟩ := hv ad.block rfl
    rw [hg] at h1 h2
    refine Or.inr ⟨ad, g, o, cap, rfl, hg, ha, hb, Nat.lt_of_lt_of_le hlt hf.size, hle, hcm, fun j hj => ?_, fun j u hj => ?_⟩
    · rw [hf.cell (p := ⟨g, o + j, none⟩) h1 h2, hf.frozen (p := ⟨g, o + j, none⟩) h1 h2]
      exact hs j hj
    · exact (hf.cell (p := ⟨g, o + j, none⟩) h1 h2).trans (hc j u hj)
theorem OwnQ.below {w w' : World} {base : Nat} {v : Value} {xs : List Value} (h : OwnQ w base v xs) (hb : Below w.heap.size w w') : OwnQ w' base v xs :=
  h.fr (S := fun _ => False) (Fr.of_below hb) (fun k hk => ⟨(h.lt k hk).2, id⟩)
theorem OwnQ.of_row {w : World} {base n : Nat} {e : TypeId} {v : Value} {xs : List Value} (h : w.ownsRow base e 1 v n xs) : OwnQ w base v xs := by
  have hl := h.1
  rcases h.2 with ⟨rfl, rfl⟩ | ⟨g, cap, cur, rfl, hg, hh, hn, hcap, hsz, htake⟩
  · obtain rfl : xs = [] := List.length_eq_zero_iff.1 (by omega)
    exact OwnQ.nil _ _
  · refine Or.inr ⟨⟨g, 0, none⟩, g, 0, cap, by rw [show xs.length = n by omega], rfl, fun _ => rfl, hg, lt_of_heap hh, by omega, hcap, fun j hj => ⟨?_, ?_⟩, fun j u hj => ?_⟩
    · rw [cell_of_heap hh, Nat.zero_add, Array.getElem?_eq_getElem (by omega)]; rfl
    · simp [World.frozen?, hh]
    · have := h.cells rfl j u hj
      rw [Addr.add_lit] at this
      exact this
/-- Its tail, as the model cuts it. -/
theorem OwnQ.tail {w : World} {base n c : Nat} {a : Option Addr} {x : Value} {xs : List Value} (h : OwnQ w base (.slice a n c) (x :: xs)) : 1 ≤ c ∧ n = xs.length + 1 ∧ ∃ ad, a = some ad ∧ OwnQ w base (.slice (if c = 1 then some ad else some (ad.add 1)) xs.length (c - 1)) xs := by
  rcases h with ⟨-, h⟩ | ⟨ad, g, o, cap, e, hg, ha, hb, hlt, hle, hcm, hs, hc⟩
  · cases h
  · cases e
    rw [List.length_cons] at hle
    refine ⟨by omega, rfl, ad, rfl, Or.inr ?_⟩
    obtain rfl := ha (by omega)
    by_cases h1 : c = 1
    · rw [if_pos h1]
      exact ⟨_, g, o + 1, c - 1, rfl, hg, fun h => by omega, hb, hlt, by omega, by omega, fun j hj => by omega, fun j u hj => by
        have := (List.getElem?_eq_some_iff.1 hj).1
        omega⟩
    · rw [if_neg h1]
      refine ⟨_, g, o + 1, c - 1, rfl, by simp [Addr.add], fun _ => Addr.add_lit _ _ _, hb, hlt, by omega, by omega, fun j hj => ?_, fun j u hj => ?_⟩
      · rw [show o + 1 + j = o + (j + 1) by omega]
        exact hs (j + 1) (by omega)
      · rw [show o + 1 + j = o + (j + 1) by omega]
        exact hc (j + 1) u (by simpa using hj)
/-- The same, its address written out. -/
theorem OwnQ.tail2 {w : World} {base n c : Nat} {a : Option Addr} {x : Value} {xs : List Value} (h : OwnQ w base (.slice a n c) (x :: xs)) : 1 ≤ c ∧ ∃ g o, a = some ⟨g, o, none⟩ ∧ OwnQ w base (.slice (if c = 1 then some ⟨g, o, none⟩ else some ⟨g, o + 1, none⟩) xs.length (c - 1)) xs := by
  obtain ⟨h1, -, ad, rfl, hq⟩ := h.tail
  rcases h with ⟨-, h⟩ | ⟨ad', g, o, cap, e, hg, ha, -⟩
  · cases h
  · cases e
    obtain rfl := ha (by omega)
    exact ⟨h1, g, o, rfl, hq⟩
theorem grownBy_setCells (b : Nat) : ∀ (vs : List Value) (o : Nat) (w : World), w.grownBy (w.setCells b o vs) (some b)
  | [], _, w => ⟨rfl, rfl, rfl, Nat.le_refl _, fun _ _ _ => rfl⟩
  | v :: r, o, w => by
    have ih := grownBy_setCells b r (o + 1) (w.setCell ⟨b, o, none⟩ v)
    have hz : (w.setCell ⟨b, o, none⟩ v).heap.size = w.heap.size := by simp [World.setCell]
    refine ⟨ih.os, ih.tape, ih.output, by have := ih.size; rw [hz] at this; exact this, fun k hk hne => ?_⟩
    exact (ih.block k (by rw [hz]; exact hk) hne).trans (Below.heap_setCell _ _ _ _ (fun e => hne (congrArg some e)))
theorem OwnQ.app {P : Program} {T e : TypeId} {z : Value} {bytes : Nat} (hT : SliceTy P T e z bytes) (ty : TypeId) {w : World} {base : Nat} {v x : Value} {xs ys : List Value} (h : OwnQ w base v xs) (hb : base ≤ w.heap.size) (hx : Reads w x ys) (h1 : ∀ u ∈ ys, u.oneCell' = true) (hby : bytes ≤ 128) (hlen : xs.length + ys.length ≤ 1000000000) :
    ∃ v' w', (Builtin.append_ #[T, T] ty #[v, x]).run P w = .ok v' w' ∧ OwnQ w' base v' (xs ++ ys) ∧ w.grownBy w' v.ownBlock ∧ (v'.ownBlock = v.ownBlock ∨ ∃ b0, w.heap.size ≤ b0 ∧ v'.ownBlock = some b0) := by
  obtain ⟨i, hi, hz0, hz1, hz2⟩ := info_parts hT.info
  have hbb : (xs.length + ys.length) * bytes ≤ 140737488355328 := Nat.le_trans (Nat.mul_le_mul hlen hby) (by decide)
  have hmx : xs.length + ys.length ≤ maxLen := by unfold maxLen; omega
  obtain ⟨a, c, rfl, -, hcell⟩ := id hx
  cases ys with
  | nil =>
    have hf : (Builtin.firstCells i.size 0 (.slice a 0 c)).run P w = .ok #[] w := by
      cases a with
      | none => simp [Builtin.firstCells]
      | some a => exact run_firstCells_some (P := P) w i.size 0 a 0 c [] (by simp) (fun j u hj => by simp at hj)
    refine ⟨v, w, ?_, by rw [List.append_nil]; exact h, .refl _ _, Or.inl rfl⟩
    rcases h with ⟨rfl, rfl⟩ | ⟨ad, g, o, cap, rfl, hg, ha, hb, hlt, hle, hcm, hs, hc⟩
    · simp [Builtin.append_, run_underlying hT.und, sizeOf, typeInfo, hi, Builtin.lenOf, hf]
    · simp [Builtin.append_, run_underlying hT.und, sizeOf, typeInfo, hi, Builtin.lenOf, hf, hle, storeCells]
  | cons y0 yr =>
    obtain ⟨b2, o2, rfl, -⟩ := hcell 0 y0 rfl
    have hn : ∀ j u, (y0 :: yr)[j]? = some u → w.cell? ((⟨b2, o2, none⟩ : Addr).add j) = some u := fun j u hj => by
      obtain ⟨b, o, e, hc⟩ := hcell j u hj
      cases e
      rw [Addr.add_lit]
      exact hc
    rcases h with ⟨rfl, rfl⟩ | ⟨ad, g, o, cap, rfl, hg, ha, hb', hlt, hle, hcm, hs, hc⟩
    · obtain ⟨v', w', hr, ho, hgr, -⟩ := run_append_own (P := P) w base T ty e i z 1 bytes hT.und hi hz0 hz1 hz2 hT.one (by decide) _ 0 [] (World.ownsRow_nil w base e 1) ⟨b2, o2, none⟩ (y0 :: yr).length c (y0 :: yr) (by simp) hn h1 (by simpa using hmx) (by simpa using hbb) hb
      refine ⟨v', w', hr, OwnQ.of_row ho, hgr, ?_⟩
      obtain ⟨g', cap', rfl⟩ := ownsRow_some ho (by simp)
      rcases Nat.lt_or_ge g' w.heap.size with hlt | hge
      · have hb0 := hgr.block g' hlt (by simp [Value.ownBlock])
        refine Or.inr ⟨g', ?_, rfl⟩
        obtain ⟨v2, w2, hr2, ho2, -⟩ := run_append_own (P := P) w w.heap.size T ty e i z 1 bytes hT.und hi hz0 hz1 hz2 hT.one (by decide) _ 0 [] (World.ownsRow_nil w w.heap.size e 1) ⟨b2, o2, none⟩ (y0 :: yr).length c (y0 :: yr) (by simp) hn h1 (by simpa using hmx) (by simpa using hbb) (Nat.le_refl _)
        rw [hr] at hr2
        cases hr2
        exact (ho2.lt g' rfl).1
      · exact Or.inr ⟨g', hge, rfl⟩
    · by_cases hroom : xs.length + (y0 :: yr).length ≤ cap
      · have hcp : 0 < cap := by simp at hroom; omega
        obtain rfl := ha hcp
        have hcs : ∀ j, j < (y0 :: yr).length → (w.cell? ⟨g, o + xs.length * 1 + j, none⟩).isSome = true := fun j hj => by
          have := (hs (xs.length + j) (by omega)).1
          rwa [show o + (xs.length + j) = o + xs.length * 1 + j by omega] at this
        have hfs : ∀ j, j < (y0 :: yr).length → w.frozen? ⟨g, o + xs.length * 1 + j, none⟩ = false := fun j hj => by
          have := (hs (xs.length + j) (by omega)).2
          rwa [show o + (xs.length + j) = o + xs.length * 1 + j by omega] at this
        have hr := run_append_room_cells (P := P) w T ty e i hT.und hi g o xs.length cap ⟨b2, o2, none⟩ (y0 :: yr).length c (y0 :: yr) (by rw [hz1]; omega) hn h1 hroom (by rw [hz1]; exact hcs) (by rw [hz1]; exact hfs)
        rw [hz1] at hr
        have hgb := grownBy_setCells g (y0 :: yr) (o + xs.length * 1) w
        have hxl : (xs ++ y0 :: yr).length = xs.length + (y0 :: yr).length := List.length_append
        have hin := World.cell?_setCells_in g (y0 :: yr) (o + xs.length * 1) w hcs
        refine ⟨_, _, hr, Or.inr ⟨⟨g, o, none⟩, g, o, cap, by rw [hxl], rfl, fun _ => rfl, hb', Nat.lt_of_lt_of_le hlt hgb.size, by omega, hcm, fun j hj => ⟨?_, by rw [World.frozen?_setCells]; exact (hs j hj).2⟩, fun j u hj => ?_⟩, hgb, Or.inl rfl⟩
        · by_cases hj1 : j < xs.length
          · rw [World.cell?_setCells_out _ _ _ _ _ (fun _ _ => Or.inl (by simp; omega))]
            exact (hs j hj).1
          · by_cases hj2 : j < xs.length + (y0 :: yr).length
            · have := hin (j - xs.length) (by omega)
              rw [show o + xs.length * 1 + (j - xs.length) = o + j by omega] at this
              rw [this]; rfl
            · rw [World.cell?_setCells_out _ _ _ _ _ (fun _ _ => Or.inr (by simp at hj2 ⊢; omega))]
              exact (hs j hj).1
        · by_cases hj1 : j < xs.length
          · rw [List.getElem?_append_left hj1] at hj
            rw [World.cell?_setCells_out _ _ _ _ _ (fun _ _ => Or.inl (by simp; omega))]
            exact hc j u hj
          · rw [List.getElem?_append_right (by omega)] at hj
            obtain ⟨hj2, rfl⟩ := List.getElem?_eq_some_iff.1 hj
            have := hin (j - xs.length) hj2
            rw [show o + xs.length * 1 + (j - xs.length) = o + j by omega] at this
            exact this
      · have hold : ∀ j u, xs[j]? = some u → w.cell? (ad.add j) = some u := fun j u hj => by
          have hjl := (List.getElem?_eq_some_iff.1 hj).1
          rw [ha (by omega), Addr.add_lit]
          exact hc j u hj
        obtain ⟨v', w', hr, ho, hgr⟩ := run_append_arg_grows (P := P) w T ty e i z 1 bytes hT.und hi hz0 hz1 hz2 hT.one (by decide) ad xs.length cap xs (by omega) hold ⟨b2, o2, none⟩ (y0 :: yr).length c (y0 :: yr) (by omega) hn (by omega) hmx hbb
        refine ⟨v', w', hr, OwnQ.of_row (ownsRow_base ho hb), ⟨hgr.os, hgr.tape, hgr.output, hgr.size, fun k hk _ => hgr.block k hk (by simp)⟩, ?_⟩
        obtain ⟨g', cap', rfl⟩ := ownsRow_some ho (by simp; omega)
        exact Or.inr ⟨g', (ho.lt g' rfl).1, rfl⟩
/-- append in a region that goes by the text. -/
theorem wpList_appQ {P : Program} (w : World) {ops : Array Oper} {rest : List Oper} {o : Oper} {a : Act} {Q : Exit → Act → World → Prop}
    (hg : o.guard = none) (s x : Operand) (T : TypeId) (hop : o.op = Op.call { callee := Callee.builtin Builtin.append, args := #[s, x], argTypes := #[T, T] })
    {e : TypeId} {z : Value} {bytes : Nat} (hT : SliceTy P T e z bytes) (base : Nat) (v u : Value) (xs ys : List Value) (hs : a.eval s = v) (hown : OwnQ w base v xs) (hx : a.eval x = u) (hr : Reads w u ys) (h1 : ∀ u ∈ ys, u.oneCell' = true)
    (hby : bytes ≤ 128) (hlen : xs.length + ys.length ≤ 1000000000) (hbase : base ≤ w.heap.size)
    (h : ∀ v' w', OwnQ w' base v' (xs ++ ys) → w.grownBy w' v.ownBlock → (v'.ownBlock = v.ownBlock ∨ ∃ b0, w.heap.size ≤ b0 ∧ v'.ownBlock = some b0) → wpList P ops Q rest (a.put o.dst v') w') :
    wpList P ops Q (o :: rest) a w := by
  obtain ⟨v', w', hrun, h2, h3, h4⟩ := OwnQ.app hT o.type hown hbase hr h1 hby hlen
  refine wpList_plain hg fun K hK => ?_
  unfold Oper.wp
  simp [execOp, hop, resolve, invoke, builtin, hs, hx, hrun, Result.andThen]
  exact hK _ _ (h v' w' h2 h3 h4)
end Go.Kf

/-
  What is reached from some rules, in plain words.
-/
namespace Go.Proofs.YtpihjbfbnoepiaaGreatDoor
/-- What is reached from ks by E. -/
inductive Reach (E : Nat → List Nat) (ks : List Nat) : Nat → Prop
  | base {k : Nat} : k ∈ ks → Reach E ks k
  | step {i k : Nat} : Reach E ks i → k ∈ E i → Reach E ks k
theorem Reach.lt {E : Nat → List Nat} {n : Nat} {ks : List Nat} (hE : ∀ i, ∀ k ∈ E i, k < n) (hk : ∀ k ∈ ks, k < n) {k : Nat} (h : Reach E ks k) : k < n := by
  cases h with
  | base h => exact hk _ h
  | step _ h => exact hE _ _ h
theorem nodup_le : ∀ (n : Nat) (N : List Nat), N.Nodup → (∀ k ∈ N, k < n) → N.length ≤ n
  | 0, N, _, h => by
    cases N with
    | nil => simp
    | cons k N => exact absurd (h k List.mem_cons_self) (by omega)
  | n + 1, N, hn, h => by
    by_cases hm : n ∈ N
    · have h1 := nodup_le n (N.erase n) (hn.erase n) (fun k hk => by
        have := (hn.mem_erase_iff).1 hk
        have := h k this.2
        omega)
      rw [List.length_erase_of_mem hm] at h1
      omega
    · have h1 := nodup_le n N hn (fun k hk => by
        have h2 := h k hk
        have : k ≠ n := fun e => hm (e ▸ hk)
        omega)
      omega
/-- What is done, what is to do. -/
structure Bfs (E : Nat → List Nat) (ks N todo : List Nat) : Prop where
  nd : N.Nodup
  done : ∀ k ∈ N, Reach E ks k
  left : ∀ k ∈ todo, Reach E ks k
  start : ∀ k ∈ ks, k ∈ N ∨ k ∈ todo
  shut : ∀ k ∈ N, ∀ j ∈ E k, j ∈ N ∨ j ∈ todo
theorem Bfs.zero (E : Nat → List Nat) (ks : List Nat) : Bfs E ks [] ks :=
  ⟨List.nodup_nil, fun k h => (by cases h), fun k h => .base h, fun k h => Or.inr h, fun k h => (by cases h)⟩
theorem Bfs.skip {E : Nat → List Nat} {ks N t : List Nat} {k : Nat} (h : Bfs E ks N (k :: t)) (hk : k ∈ N) : Bfs E ks N t := by
  have key : ∀ j, j ∈ N ∨ j ∈ k :: t → j ∈ N ∨ j ∈ t := fun j hj => by
    rcases hj with hj | hj
    · exact Or.inl hj
    · rcases List.mem_cons.1 hj with rfl | hj
      · exact Or.inl hk
      · exact Or.inr hj
  exact ⟨h.nd, h.done, fun j hj => h.left j (List.mem_cons_of_mem _ hj), fun j hj => key j (h.start j hj), fun i hi j hj => key j (h.shut i hi j hj)⟩
theorem Bfs.add {E : Nat → List Nat} {ks N t : List Nat} {k : Nat} (h : Bfs E ks N (k :: t)) (hk : k ∉ N) : Bfs E ks (N ++ [k]) (t ++ E k) := by
  have hr := h.left k List.mem_cons_self
  have key : ∀ j, j ∈ N ∨ j ∈ k :: t → j ∈ N ++ [k] ∨ j ∈ t ++ E k := fun j hj => by
    rcases hj with hj | hj
    · exact Or.inl (List.mem_append_left _ hj)
    · rcases List.mem_cons.1 hj with rfl | hj
      · exact Or.inl (List.mem_append_right _ List.mem_cons_self)
      · exact Or.inr (List.mem_append_left _ hj)
  refine ⟨?_, fun j hj => ?_, fun j hj => ?_, fun j hj => key j (h.start j hj), fun i hi j hj => ?_⟩
  · rw [List.nodup_append]
    refine ⟨h.nd, by simp, fun a ha b hb e => ?_⟩
    obtain rfl := List.mem_singleton.1 hb
    exact hk (e ▸ ha)
  · rcases List.mem_append.1 hj with hj | hj
    · exact h.done j hj
    · obtain rfl := List.mem_singleton.1 hj
      exact hr
  · rcases List.mem_append.1 hj with hj | hj
    · exact h.left j (List.mem_cons_of_mem _ hj)
    · exact .step hr hj
  · rcases List.mem_append.1 hi with hi | hi
    · exact key j (h.shut i hi j hj)
    · obtain rfl := List.mem_singleton.1 hi
      exact Or.inr (List.mem_append_right _ hj)
theorem Bfs.stop {E : Nat → List Nat} {ks N : List Nat} (h : Bfs E ks N []) (k : Nat) : k ∈ N ↔ Reach E ks k := by
  refine ⟨h.done k, fun hr => ?_⟩
  induction hr with
  | base hk =>
    rcases h.start _ hk with h1 | h1
    · exact h1
    · cases h1
  | step _ hk ih =>
    rcases h.shut _ ih _ hk with h1 | h1
    · exact h1
    · cases h1
theorem Bfs.room {E : Nat → List Nat} {n : Nat} {ks N todo : List Nat} (h : Bfs E ks N todo) (hE : ∀ i, ∀ k ∈ E i, k < n) (hk : ∀ k ∈ ks, k < n) : N.length ≤ n :=
  nodup_le n N h.nd (fun k hm => (h.done k hm).lt hE hk)
def bfsM (n a b : Nat) : Nat := (n - a) * (n + 1) + b
theorem bfsM_skip (n a b : Nat) : bfsM n a b < bfsM n a (b + 1) := by unfold bfsM; omega
theorem bfsM_add {n a b c : Nat} (ha : a + 1 ≤ n) (hc : c ≤ n) : bfsM n (a + 1) (b + c) < bfsM n a (b + 1) := by
  unfold bfsM
  obtain ⟨d, rfl⟩ : ∃ d, n = d + (a + 1) := ⟨n - (a + 1), by omega⟩
  rw [show d + (a + 1) - (a + 1) = d by omega, show d + (a + 1) - a = d + 1 by omega, Nat.succ_mul]
  omega
/-- The numbers that are needed. -/
def needL (n : Nat) (N : List Nat) : List Nat := (List.range n).filter fun i => N.contains i
theorem mem_needL {n : Nat} {N : List Nat} {k : Nat} (h : ∀ k ∈ N, k < n) : k ∈ needL n N ↔ k ∈ N := by
  unfold needL
  rw [List.mem_filter, List.mem_range, List.contains_iff_mem]
  exact ⟨fun h => h.2, fun hk => ⟨h k hk, hk⟩⟩
theorem needL_all {n : Nat} {N : List Nat} (h : ∀ k, k < n → k ∈ N) : needL n N = List.range n :=
  List.filter_eq_self.2 (fun k hk => List.contains_iff_mem.2 (h k (List.mem_range.1 hk)))
theorem needL_len (n : Nat) (N : List Nat) : (needL n N).length ≤ n := by
  unfold needL
  exact Nat.le_trans (List.length_filter_le _ _) (by simp)
end Go.Proofs.YtpihjbfbnoepiaaGreatDoor

/-
  Leaves in plain words.
-/
namespace Go.Proofs.YtpihjbfbnoepiaaGreatDoor
open Go Go.RowKit Go.Kf Go.Sort Go.Proofs

/-- The inputs of a rule that none of these outs is. -/
def looseB (outs ins : List (List UInt8)) : List (List UInt8) := ins.filter fun s => !outs.contains s
theorem looseB_snoc (outs ins : List (List UInt8)) (s : List UInt8) : looseB outs (ins ++ [s]) = looseB outs ins ++ if outs.contains s then [] else [s] := by
  unfold looseB
  rw [List.filter_append]
  congr 1
  by_cases h : s ∈ outs
  · simp [h]
  · simp [h]
/-- All of them. -/
def looseAll (outs : List (List UInt8)) (l : List RuleL) : List (List UInt8) := (l.map fun r => looseB outs r.ins).flatten
theorem looseAll_snoc (outs : List (List UInt8)) (l : List RuleL) (r : RuleL) : looseAll outs (l ++ [r]) = looseAll outs l ++ looseB outs r.ins := by simp [looseAll]
theorem loose_len (outs : List (List UInt8)) : ∀ {l : List RuleL}, (∀ r ∈ l, r.ins.length ≤ 1000) → (looseAll outs l).length ≤ 1000 * l.length
  | [], _ => by simp [looseAll]
  | r :: l, h => by
    have h1 := h r List.mem_cons_self
    have ih := loose_len outs (l := l) (fun q hq => h q (List.mem_cons_of_mem _ hq))
    have h2 : (looseB outs r.ins).length ≤ r.ins.length := List.length_filter_le _ _
    unfold looseAll at ih ⊢
    simp only [List.map_cons, List.flatten_cons, List.length_append, List.length_cons]
    omega
theorem loose_mem {outs : List (List UInt8)} {l : List RuleL} {s : List UInt8} (h : s ∈ looseAll outs l) : s ∉ outs := by
  unfold looseAll at h
  obtain ⟨q, hq, hs⟩ := List.mem_flatten.1 h
  obtain ⟨r, -, rfl⟩ := List.mem_map.1 hq
  unfold looseB at hs
  have := (List.mem_filter.1 hs).2
  intro hm
  rw [List.contains_iff_mem.2 hm] at this
  cases this
/-- Leaves. -/
def leavesB (l : List RuleL) : List (List UInt8) := Lib.compact (sortB (looseAll (l.map RuleL.out) l))
theorem leaves_out {l : List RuleL} {s : List UInt8} (h : s ∈ leavesB l) : s ∉ l.map RuleL.out :=
  loose_mem ((sortB_perm _).mem_iff.1 (compact_mem h))
theorem compact_rise {l : List (List UInt8)} (hs : l.Pairwise fun a b => decide (a ≤ b) = true) : (Lib.compact l).Pairwise fun a b => a ≤ b ∧ a ≠ b := by
  unfold Lib.compact Lib.compactUpTo
  rw [List.pairwise_map]
  refine List.Pairwise.imp_of_mem ?_ (List.Pairwise.filter _ List.pairwise_lt_range)
  intro j k hj hk hjk
  obtain ⟨hk1, hk2⟩ := List.mem_filter.1 hk
  rw [List.mem_range] at hk1
  have gk : l.toArray[k]! = l[k] := by rw [getElem!_pos l.toArray k (by simpa using hk1)]; simp
  have gj : l.toArray[j]! = l[j] := by rw [getElem!_pos l.toArray j (by simp; omega)]; simp
  have gp : l.toArray[k - 1]! = l[k - 1] := by rw [getElem!_pos l.toArray (k - 1) (by simp; omega)]; simp
  have hle : ∀ {a b : Nat} (ha : a < l.length) (hb : b < l.length), a < b → l[a] ≤ l[b] := fun {a b} ha hb hab => by
    have := List.pairwise_iff_getElem.1 hs a b ha hb hab
    simpa using this
  rw [gj, gk]
  refine ⟨hle (by omega) hk1 hjk, fun e => ?_⟩
  have hne : l[k] ≠ l[k - 1] := by
    unfold Lib.keeps at hk2
    rw [gk, gp] at hk2
    have h0 : ¬ k = 0 := by omega
    simpa [h0] using hk2
  have h1 : l[k - 1] ≤ l[k] := hle (by omega) hk1 (by omega)
  have h2 : l[j] ≤ l[k - 1] := by
    rcases Nat.lt_or_ge j (k - 1) with h | h
    · exact hle (by omega) (by omega) h
    · have hjk1 : j = k - 1 := by omega
      subst hjk1
      exact List.le_refl _
  exact hne (List.le_antisymm (e ▸ h2) h1)
theorem leaves_rise (l : List RuleL) : (leavesB l).Pairwise fun a b => a ≤ b ∧ a ≠ b := compact_rise (sortB_sorted _)
theorem leaves_at {l : List RuleL} {i : Nat} (hi : i + 1 < (leavesB l).length) : ¬ (leavesB l)[i + 1] ≤ (leavesB l)[i] := by
  obtain ⟨h1, h2⟩ := List.pairwise_iff_getElem.1 (leaves_rise l) i (i + 1) (by omega) hi (by omega)
  exact fun h => h2 (List.le_antisymm h1 h)
theorem leaves_len {l : List RuleL} (h : ∀ r ∈ l, r.ins.length ≤ 1000) : (leavesB l).length ≤ 1000 * l.length := by
  refine Nat.le_trans (Lib.compact_length_le _) ?_
  rw [(sortB_perm _).length_eq]
  exact loose_len _ h
end Go.Proofs.YtpihjbfbnoepiaaGreatDoor

/-
  Order or cycle, in plain words.
-/
namespace Go.Proofs.YtpihjbfbnoepiaaGreatDoor
open Go Go.RowKit Go.Kf Go.Sort Go.Proofs

/-! ### Kahn -/
theorem nodup_sub {α : Type} [DecidableEq α] : ∀ (l m : List α), l.Nodup → (∀ x ∈ l, x ∈ m) → l.length ≤ m.length
  | [], m, _, _ => by simp
  | x :: l, m, hn, h => by
    have hx := h x List.mem_cons_self
    obtain ⟨h1, h2⟩ := List.nodup_cons.1 hn
    have ih := nodup_sub l (m.erase x) h2 (fun y hy => (List.mem_erase_of_ne (fun (e : y = x) => h1 (e ▸ hy))).2 (h y (List.mem_cons_of_mem _ hy)))
    rw [List.length_erase_of_mem hx] at ih
    have := List.length_pos_of_mem hx
    simp only [List.length_cons]
    omega
theorem nodup_at {α : Type} {l : List α} (h : l.Nodup) {a b : Nat} {ha : a < l.length} {hb : b < l.length} (e : l[a] = l[b]) : a = b := by
  have := List.pairwise_iff_getElem.1 h
  rcases Nat.lt_trichotomy a b with h1 | h1 | h1
  · exact absurd e (this a b ha hb h1)
  · exact h1
  · exact absurd e.symm (this b a hb ha h1)
theorem exists_twice (n : Nat) (a : Nat → Nat) (h : ∀ k, a k < n) : ∃ p q, p < q ∧ a p = a q := by
  refine Classical.byContradiction (fun hno => ?_)
  have hn : ((List.range (n + 1)).map a).Nodup := by
    refine List.pairwise_map.2 (List.Pairwise.imp ?_ List.pairwise_lt_range)
    intro p q hpq e
    exact hno ⟨p, q, hpq, e⟩
  have := nodup_le n _ hn (fun k hk => by
    obtain ⟨j, -, rfl⟩ := List.mem_map.1 hk
    exact h j)
  simp at this
  omega
/-- One needs the other, over some steps. -/
inductive Plus (E : Nat → List Nat) : Nat → Nat → Prop
  | one {i j : Nat} : j ∈ E i → Plus E i j
  | more {i k j : Nat} : k ∈ E i → Plus E k j → Plus E i j
/-- What is out, in order. -/
structure Outs (E : Nat → List Nat) (isB : Nat → Bool) (n : Nat) (out : List Nat) : Prop where
  nd : out.Nodup
  lt : ∀ k ∈ out, k < n ∧ isB k = true
  back : ∀ i (h : i < out.length), ∀ j ∈ E out[i], j ∈ out.take i
theorem candB_iff {E : Nat → List Nat} {isB : Nat → Bool} {out : List Nat} {i : Nat} : candB E isB out i = true ↔ isB i = true ∧ i ∉ out ∧ ∀ j ∈ E i, j ∈ out := by
  unfold candB
  rw [Bool.and_eq_true, Bool.and_eq_true, Bool.not_eq_true', Bool.not_eq_true', List.any_eq_false]
  constructor
  · rintro ⟨h1, h2, h3⟩
    refine ⟨h1, fun h => ?_, fun j hj => ?_⟩
    · rw [List.contains_iff_mem.2 h] at h2
      cases h2
    · have := h3 j hj
      simpa using this
  · rintro ⟨h1, h2, h3⟩
    refine ⟨h1, ?_, fun j hj => ?_⟩
    · exact Bool.eq_false_iff.2 (fun h => h2 (List.contains_iff_mem.1 h))
    · simpa using h3 j hj
theorem Outs.add {E : Nat → List Nat} {isB : Nat → Bool} {n : Nat} {out : List Nat} (h : Outs E isB n out) {k : Nat} (hk : k < n) (hc : candB E isB out k = true) : Outs E isB n (out ++ [k]) := by
  obtain ⟨h1, h2, h3⟩ := candB_iff.1 hc
  refine ⟨?_, fun j hj => ?_, fun i hi j hj => ?_⟩
  · rw [List.nodup_append]
    refine ⟨h.nd, by simp, fun a ha b hb e => ?_⟩
    obtain rfl := List.mem_singleton.1 hb
    exact h2 (e ▸ ha)
  · rcases List.mem_append.1 hj with hj | hj
    · exact h.lt j hj
    · obtain rfl := List.mem_singleton.1 hj
      exact ⟨hk, h1⟩
  · rw [List.length_append] at hi
    by_cases hil : i < out.length
    · rw [List.getElem_append_left hil] at hj
      rw [List.take_append_of_le_length (by omega)]
      exact h.back i hil j hj
    · obtain rfl : i = out.length := by simp at hi; omega
      rw [List.getElem_append_right (Nat.le_refl _)] at hj
      simp at hj
      rw [List.take_append_of_le_length (Nat.le_refl _), List.take_length]
      exact h3 j hj
theorem orderGo_outs {E : Nat → List Nat} {isB : Nat → Bool} {n : Nat} : ∀ (f : Nat) (out : List Nat), Outs E isB n out →
    (∀ o, orderGo E isB n f out = some o → Outs E isB n o ∧ o.length = out.length + f) ∧
    (orderGo E isB n f out = none → ∃ o, Outs E isB n o ∧ o.length < out.length + f ∧ ∀ i, i < n → candB E isB o i = false)
  | 0, out, h => ⟨fun o ho => by
      simp only [orderGo, Option.some.injEq] at ho
      subst ho
      exact ⟨h, rfl⟩, fun ho => by simp [orderGo] at ho⟩
  | f + 1, out, h => by
    cases hn : nextB E isB n out with
    | none =>
      rw [orderGo_none hn]
      refine ⟨fun o ho => (by cases ho), fun _ => ⟨out, h, by omega, fun i hi => ?_⟩⟩
      unfold nextB at hn
      have := List.find?_eq_none.1 hn i (List.mem_range.2 hi)
      simpa using this
    | some k =>
      obtain ⟨h1, h2⟩ := nextB_some hn
      rw [orderGo_some hn]
      have ih := orderGo_outs f (out ++ [k]) (h.add h1 h2)
      rw [List.length_append, List.length_singleton] at ih
      refine ⟨fun o ho => ?_, fun ho => ?_⟩
      · obtain ⟨h3, h4⟩ := ih.1 o ho
        exact ⟨h3, by omega⟩
      · obtain ⟨o, h3, h4, h5⟩ := ih.2 ho
        exact ⟨o, h3, by omega, h5⟩
theorem many_all (n : Nat) : manyB (fun _ => true) n = n := by
  unfold manyB
  rw [List.filter_eq_self.2 (fun _ _ => rfl), List.length_range]
theorem outs_nil (E : Nat → List Nat) (isB : Nat → Bool) (n : Nat) : Outs E isB n [] := ⟨List.nodup_nil, fun k h => (by cases h), fun i h => absurd h (by simp)⟩
theorem order_some {E : Nat → List Nat} {n : Nat} {o : List Nat} (h : orderB E (fun _ => true) n = some o) : Outs E (fun _ => true) n o ∧ o.length = n := by
  unfold orderB at h
  rw [many_all] at h
  have := (orderGo_outs n [] (outs_nil E _ n)).1 o h
  simpa using this
theorem Plus.lt {E : Nat → List Nat} {n : Nat} (hE : ∀ i, ∀ k ∈ E i, k < n) {i j : Nat} (h : Plus E i j) : j < n := by
  induction h with
  | one h => exact hE _ _ h
  | more _ _ ih => exact ih
/-- No order: there is a cycle. -/
theorem order_none {E : Nat → List Nat} {n : Nat} (hE : ∀ i, ∀ k ∈ E i, k < n) (h : orderB E (fun _ => true) n = none) : ∃ i, i < n ∧ Plus E i i := by
  unfold orderB at h
  rw [many_all] at h
  obtain ⟨o, ho, hl, hc⟩ := (orderGo_outs n [] (outs_nil E _ n)).2 h
  simp only [List.length_nil, Nat.zero_add] at hl
  have hne : ∃ i, i < n ∧ i ∉ o := Classical.byContradiction (fun hno => by
    have := nodup_sub (List.range n) o List.nodup_range (fun i hi => Classical.byContradiction (fun hm => hno ⟨i, List.mem_range.1 hi, hm⟩))
    simp at this
    omega)
  obtain ⟨i0, hi0, hm0⟩ := hne
  have hstep : ∀ x : {i : Nat // i < n ∧ i ∉ o}, ∃ y : {i : Nat // i < n ∧ i ∉ o}, y.1 ∈ E x.1 := fun ⟨i, hi, hm⟩ => by
    refine Classical.byContradiction (fun hno => ?_)
    have : candB E (fun _ => true) o i = true := candB_iff.2 ⟨rfl, hm, fun j hj => Classical.byContradiction (fun hjm => hno ⟨⟨j, hE i j hj, hjm⟩, hj⟩)⟩
    rw [hc i hi] at this
    cases this
  let g : {i : Nat // i < n ∧ i ∉ o} → {i : Nat // i < n ∧ i ∉ o} := fun x => Classical.choose (hstep x)
  have hg : ∀ x, (g x).1 ∈ E x.1 := fun x => Classical.choose_spec (hstep x)
  let a : Nat → {i : Nat // i < n ∧ i ∉ o} := fun k => Nat.rec ⟨i0, hi0, hm0⟩ (fun _ x => g x) k
  have ha : ∀ k, (a (k + 1)).1 ∈ E (a k).1 := fun k => hg (a k)
  obtain ⟨p, q, hpq, he⟩ := exists_twice n (fun k => (a k).1) (fun k => (a k).2.1)
  have hplus : ∀ d p, Plus E (a p).1 (a (p + d + 1)).1 := by
    intro d
    induction d with
    | zero => exact fun p => .one (ha p)
    | succ d ih =>
      intro p
      have := ih (p + 1)
      rw [show p + 1 + d + 1 = p + (d + 1) + 1 by omega] at this
      exact .more (ha p) this
  refine ⟨(a p).1, (a p).2.1, ?_⟩
  have := hplus (q - p - 1) p
  rw [show p + (q - p - 1) + 1 = q by omega] at this
  have he' : (a p).1 = (a q).1 := he
  rw [← he'] at this
  exact this
/-- An order: there is no cycle. -/
theorem order_plus {E : Nat → List Nat} {n : Nat} {o : List Nat} (h : Outs E (fun _ => true) n o) (hl : o.length = n) {i j : Nat} (hi : i < n) (hp : Plus E i j) : ∃ a b, a < b ∧ ∃ (ha : a < o.length) (hb : b < o.length), o[a] = j ∧ o[b] = i := by
  have hat : ∀ i, i < n → ∃ a, ∃ ha : a < o.length, o[a] = i := fun i hi => by
    have hmem : i ∈ o := Classical.byContradiction (fun hm => by
      have := nodup_le n (i :: o) (List.nodup_cons.2 ⟨hm, h.nd⟩) (fun k hk => by
        rcases List.mem_cons.1 hk with rfl | hk
        · exact hi
        · exact (h.lt k hk).1)
      simp at this
      omega)
    obtain ⟨a, ha, e⟩ := List.mem_iff_getElem.1 hmem
    exact ⟨a, ha, e⟩
  have key : ∀ b (hb : b < o.length) j, j ∈ E o[b] → ∃ a, a < b ∧ ∃ ha : a < o.length, o[a] = j := fun b hb j hj => by
    obtain ⟨a, ha, e⟩ := List.mem_iff_getElem.1 (h.back b hb j hj)
    rw [List.length_take] at ha
    rw [List.getElem_take] at e
    exact ⟨a, by omega, by omega, e⟩
  induction hp with
  | @one i j hj =>
    obtain ⟨b, hb, e⟩ := hat i hi
    obtain ⟨a, hab, ha, e2⟩ := key b hb j (e ▸ hj)
    exact ⟨a, b, hab, ha, hb, e2, e⟩
  | @more i k j hk hp ih =>
    obtain ⟨b, hb, e⟩ := hat i hi
    obtain ⟨c, hcb, hc, e2⟩ := key b hb k (e ▸ hk)
    have hkn : k < n := by rw [← e2]; exact (h.lt _ (List.getElem_mem hc)).1
    obtain ⟨a, b2, hab, ha, hb2, e3, e4⟩ := ih hkn
    have : b2 = c := nodup_at h.nd (e4.trans e2.symm)
    exact ⟨a, b, by omega, ha, hb, e3, e⟩
theorem order_irr {E : Nat → List Nat} {n : Nat} {o : List Nat} (h : Outs E (fun _ => true) n o) (hl : o.length = n) {i : Nat} (hi : i < n) : ¬ Plus E i i := fun hp => by
  obtain ⟨a, b, hab, ha, hb, e1, e2⟩ := order_plus h hl hi hp
  have := nodup_at h.nd (e1.trans e2.symm)
  omega
end Go.Proofs.YtpihjbfbnoepiaaGreatDoor

/-
  How far, and the way back, in plain words.
-/
namespace Go.Proofs.YtpihjbfbnoepiaaGreatDoor
open Go Go.RowKit Go.Kf Go.Sort Go.Proofs

/-! ### how far -/
def fa (f : List Int) (i : Nat) : Int := f.getD i (-1)
theorem fa_ge {f : List Int} {i : Nat} (h : f.length ≤ i) : fa f i = -1 := by
  unfold fa
  rw [List.getD_eq_getElem?_getD, List.getElem?_eq_none h]
  rfl
theorem fa_at {f : List Int} {i : Nat} (h : i < f.length) : fa f i = f[i] := by
  unfold fa
  rw [List.getD_eq_getElem?_getD, List.getElem?_eq_getElem h]
  rfl
theorem fa_lt {f : List Int} {i : Nat} (h : 0 < fa f i) : i < f.length := by
  rcases Nat.lt_or_ge i f.length with h1 | h1
  · exact h1
  · rw [fa_ge h1] at h; omega
/-- Before round s: those reached are less than s steps away. -/
structure FarSt (E : Nat → List Nat) (n tg : Nat) (f : List Int) (s : Nat) (l : List Nat) : Prop where
  len : f.length = n
  pos : 1 ≤ s
  range : ∀ i, fa f i = -1 ∨ (1 ≤ fa f i ∧ fa f i < s)
  lvl : ∀ j, j ∈ l ↔ ((s = 1 ∧ j = tg) ∨ (1 < s ∧ fa f j = (s : Int) - 1))
  sound : ∀ i, 0 < fa f i → (fa f i = 1 ∧ tg ∈ E i) ∨ ∃ j ∈ E i, fa f j + 1 = fa f i ∧ 0 < fa f j
  short1 : ∀ i, i < n → tg ∈ E i → s = 1 ∨ fa f i = 1
  short : ∀ i, i < n → ∀ j ∈ E i, 0 < fa f j → fa f j + 1 < s → 0 < fa f i ∧ fa f i ≤ fa f j + 1
/-- In the end. -/
structure FarAt (E : Nat → List Nat) (n tg : Nat) (f : List Int) : Prop where
  len : f.length = n
  range : ∀ i, fa f i = -1 ∨ (1 ≤ fa f i ∧ fa f i ≤ n)
  sound : ∀ i, 0 < fa f i → (fa f i = 1 ∧ tg ∈ E i) ∨ ∃ j ∈ E i, fa f j + 1 = fa f i ∧ 0 < fa f j
  short1 : ∀ i, i < n → tg ∈ E i → fa f i = 1
  short : ∀ i, i < n → ∀ j ∈ E i, 0 < fa f j → 0 < fa f i ∧ fa f i ≤ fa f j + 1
/-- Those that are reached next. -/
def nextF (E : Nat → List Nat) (n : Nat) (f : List Int) (l : List Nat) : List Nat := (List.range n).filter fun i => decide (fa f i < 0) && (E i).any fun j => l.contains j
theorem mem_nextF {E : Nat → List Nat} {n : Nat} {f : List Int} {l : List Nat} {i : Nat} : i ∈ nextF E n f l ↔ i < n ∧ fa f i < 0 ∧ ∃ j ∈ E i, j ∈ l := by
  unfold nextF
  rw [List.mem_filter, List.mem_range, Bool.and_eq_true, decide_eq_true_eq, List.any_eq_true]
  constructor
  · rintro ⟨h1, h2, j, hj, h3⟩
    exact ⟨h1, h2, j, hj, List.contains_iff_mem.1 h3⟩
  · rintro ⟨h1, h2, j, hj, h3⟩
    exact ⟨h1, h2, j, hj, List.contains_iff_mem.2 h3⟩
def setAll (s : Int) (f : List Int) (l : List Nat) : List Int := l.foldl (fun f i => f.set i s) f
theorem setAll_len (s : Int) : ∀ (l : List Nat) (f : List Int), (setAll s f l).length = f.length
  | [], f => rfl
  | i :: l, f => by
    show (setAll s (f.set i s) l).length = _
    rw [setAll_len s l, List.length_set]
theorem setAll_snoc (s : Int) (l : List Nat) (i : Nat) (f : List Int) : setAll s f (l ++ [i]) = (setAll s f l).set i s := by
  unfold setAll
  rw [List.foldl_append]
  rfl
theorem fa_set {f : List Int} {i : Nat} (s : Int) (j : Nat) (h : i < f.length) : fa (f.set i s) j = if j = i then s else fa f j := by
  unfold fa
  rw [List.getD_eq_getElem?_getD, List.getD_eq_getElem?_getD, List.getElem?_set]
  by_cases hji : j = i
  · subst hji
    simp [h]
  · rw [if_neg (fun e => hji e.symm), if_neg hji]
theorem fa_setAll (s : Int) : ∀ (l : List Nat) (f : List Int), (∀ i ∈ l, i < f.length) → ∀ j, fa (setAll s f l) j = if j ∈ l then s else fa f j
  | [], f, _, j => by simp [setAll]
  | i :: l, f, h, j => by
    have ih := fa_setAll s l (f.set i s) (fun k hk => by rw [List.length_set]; exact h k (List.mem_cons_of_mem _ hk)) j
    have h0 := fa_set s j (h i List.mem_cons_self)
    show fa (setAll s (f.set i s) l) j = _
    rw [ih, h0]
    by_cases h1 : j ∈ l
    · rw [if_pos h1, if_pos (List.mem_cons_of_mem _ h1)]
    · rw [if_neg h1]
      by_cases h2 : j = i
      · rw [if_pos h2, if_pos (h2 ▸ List.mem_cons_self)]
      · rw [if_neg h2, if_neg (fun hm => by
          rcases List.mem_cons.1 hm with h3 | h3
          · exact h2 h3
          · exact h1 h3)]
theorem FarSt.zero (E : Nat → List Nat) (n tg : Nat) : FarSt E n tg (List.replicate n (-1)) 1 [tg] := by
  have h0 : ∀ i, fa (List.replicate n (-1)) i = -1 := fun i => by
    unfold fa
    rw [List.getD_eq_getElem?_getD, List.getElem?_replicate]
    split <;> rfl
  refine ⟨List.length_replicate, by omega, fun i => Or.inl (h0 i), fun j => ?_, fun i h => ?_, fun i _ _ => Or.inl rfl, fun i _ j _ h _ => ?_⟩
  · rw [List.mem_singleton]
    exact ⟨fun h => Or.inl ⟨rfl, h⟩, fun h => by
      rcases h with h | h
      · exact h.2
      · omega⟩
  · rw [h0] at h; omega
  · rw [h0] at h; omega
theorem FarSt.step {E : Nat → List Nat} {n tg : Nat} {f : List Int} {s : Nat} {l : List Nat} (h : FarSt E n tg f s l) : FarSt E n tg (setAll s f (nextF E n f l)) (s + 1) (nextF E n f l) := by
  have hp := h.pos
  have hset := fa_setAll (s : Int) (nextF E n f l) f (fun i hi => by rw [h.len]; exact (mem_nextF.1 hi).1)
  have hno : ∀ i, fa f i ≠ s := fun i e => by
    rcases h.range i with h1 | h1 <;> omega
  have hkeep : ∀ i, 0 < fa f i → fa (setAll s f (nextF E n f l)) i = fa f i := fun i hi => by
    rw [hset, if_neg (fun hm => by have := (mem_nextF.1 hm).2.1; omega)]
  have hback : ∀ i, fa (setAll s f (nextF E n f l)) i ≠ s → fa (setAll s f (nextF E n f l)) i = fa f i := fun i hi => by
    rw [hset] at hi ⊢
    split
    · rename_i hm
      rw [if_pos hm] at hi
      exact absurd rfl hi
    · rfl
  refine ⟨by rw [setAll_len]; exact h.len, by omega, fun i => ?_, fun j => ?_, fun i hi => ?_, fun i hi ht => ?_, fun i hi j hj hfj hjs => ?_⟩
  · rw [hset]
    split
    · right; omega
    · rcases h.range i with h1 | h1
      · exact Or.inl h1
      · right; omega
  · constructor
    · intro hm
      right
      rw [hset, if_pos hm]
      exact ⟨by omega, by omega⟩
    · rintro (⟨h1, -⟩ | ⟨-, h2⟩)
      · omega
      · rw [hset] at h2
        split at h2
        · assumption
        · have := hno j
          omega
  · by_cases hm : i ∈ nextF E n f l
    · obtain ⟨hin, hneg, j, hj, hjl⟩ := mem_nextF.1 hm
      have e : fa (setAll s f (nextF E n f l)) i = s := by rw [hset, if_pos hm]
      rw [e]
      rcases (h.lvl j).1 hjl with ⟨h1, rfl⟩ | ⟨h1, h2⟩
      · exact Or.inl ⟨by omega, hj⟩
      · refine Or.inr ⟨j, hj, ?_, ?_⟩
        · rw [hkeep j (by omega)]; omega
        · rw [hkeep j (by omega)]; omega
    · rw [hset, if_neg hm] at hi ⊢
      rcases h.sound i hi with h1 | ⟨j, hj, h1, h2⟩
      · exact Or.inl h1
      · exact Or.inr ⟨j, hj, by rw [hkeep j h2]; exact h1, by rw [hkeep j h2]; exact h2⟩
  · right
    rcases h.short1 i hi ht with h1 | h1
    · have hneg : fa f i < 0 := by
        rcases h.range i with h2 | h2 <;> omega
      have hm : i ∈ nextF E n f l := mem_nextF.2 ⟨hi, hneg, tg, ht, (h.lvl tg).2 (Or.inl ⟨h1, rfl⟩)⟩
      rw [hset, if_pos hm, h1]
      rfl
    · rw [hkeep i (by omega)]; exact h1
  · have hne : fa (setAll s f (nextF E n f l)) j ≠ s := by omega
    have e := hback j hne
    rw [e] at hfj hjs ⊢
    rcases Int.lt_or_le (fa f j + 1) s with h1 | h1
    · obtain ⟨h2, h3⟩ := h.short i hi j hj hfj h1
      rw [hkeep i h2]
      exact ⟨h2, h3⟩
    · have hjl : j ∈ l := (h.lvl j).2 (Or.inr ⟨by omega, by omega⟩)
      rcases h.range i with h2 | h2
      · have hm : i ∈ nextF E n f l := mem_nextF.2 ⟨hi, by omega, j, hj, hjl⟩
        rw [hset, if_pos hm]
        omega
      · rw [hkeep i (by omega)]
        omega
theorem FarSt.levels {E : Nat → List Nat} {n tg : Nat} {f : List Int} {s : Nat} {l : List Nat} (h : FarSt E n tg f s l) : ∀ (d i : Nat), fa f i = (d : Int) + 1 → ∀ t, t ≤ d → ∃ k, k < n ∧ fa f k = (t : Int) + 1
  | 0, i, hi, t, ht => ⟨i, by rw [← h.len]; exact fa_lt (by omega), by rw [hi, show t = 0 by omega]⟩
  | d + 1, i, hi, t, ht => by
    by_cases htd : t = d + 1
    · exact ⟨i, by rw [← h.len]; exact fa_lt (by omega), by rw [hi, htd]⟩
    · rcases h.sound i (by omega) with ⟨h1, -⟩ | ⟨j, hj, h1, h2⟩
      · omega
      · exact h.levels d j (by omega) t (by omega)
theorem FarSt.bound {E : Nat → List Nat} {n tg : Nat} {f : List Int} {s : Nat} {l : List Nat} (h : FarSt E n tg f s l) (hl : l ≠ []) : s ≤ n + 1 := by
  have hp := h.pos
  by_cases h1 : s = 1
  · omega
  · obtain ⟨j, hj⟩ := List.exists_mem_of_ne_nil l hl
    rcases (h.lvl j).1 hj with h2 | ⟨-, h2⟩
    · omega
    · have hlv := h.levels (s - 2) j (by omega)
      let g : Nat → Nat := fun t => if ht : t ≤ s - 2 then Classical.choose (hlv t ht) else 0
      have hg : ∀ t, t ≤ s - 2 → g t < n ∧ fa f (g t) = (t : Int) + 1 := fun t ht => by
        show (if ht : t ≤ s - 2 then Classical.choose (hlv t ht) else 0) < n ∧ fa f (if ht : t ≤ s - 2 then Classical.choose (hlv t ht) else 0) = _
        rw [dif_pos ht]
        exact Classical.choose_spec (hlv t ht)
      have hn : ((List.range (s - 1)).map g).Nodup := by
        refine List.pairwise_map.2 (List.Pairwise.imp_of_mem ?_ List.pairwise_lt_range)
        intro p q hp hq hpq e
        rw [List.mem_range] at hp hq
        have h3 := (hg p (by omega)).2
        have h4 := (hg q (by omega)).2
        rw [e] at h3
        omega
      have := nodup_le n _ hn (fun k hk => by
        obtain ⟨t, ht, rfl⟩ := List.mem_map.1 hk
        rw [List.mem_range] at ht
        exact (hg t (by omega)).1)
      simp at this
      omega
theorem FarSt.stop {E : Nat → List Nat} {n tg : Nat} {f : List Int} {s : Nat} (h : FarSt E n tg f s []) (hs : s ≤ n + 2) : FarAt E n tg f := by
  have hp := h.pos
  have h1 : ¬ s = 1 := fun e => by
    have := (h.lvl tg).2 (Or.inl ⟨e, rfl⟩)
    cases this
  have h2 : ∀ j, fa f j ≠ (s : Int) - 1 := fun j e => by
    have := (h.lvl j).2 (Or.inr ⟨by omega, e⟩)
    cases this
  refine ⟨h.len, fun i => ?_, h.sound, fun i hi ht => ?_, fun i hi j hj hf => ?_⟩
  · rcases h.range i with h3 | h3
    · exact Or.inl h3
    · have := h2 i
      right; omega
  · rcases h.short1 i hi ht with h3 | h3
    · exact absurd h3 h1
    · exact h3
  · refine h.short i hi j hj hf ?_
    rcases h.range j with h3 | h3
    · omega
    · have := h2 j
      omega
theorem FarAt.plus {E : Nat → List Nat} {n tg : Nat} {f : List Int} (h : FarAt E n tg f) : ∀ (d i : Nat), fa f i = (d : Int) + 1 → Plus E i tg
  | 0, i, hi => by
    rcases h.sound i (by omega) with ⟨-, h1⟩ | ⟨j, hj, h1, h2⟩
    · exact .one h1
    · omega
  | d + 1, i, hi => by
    rcases h.sound i (by omega) with ⟨-, h1⟩ | ⟨j, hj, h1, h2⟩
    · exact .one h1
    · exact .more hj (h.plus d j (by omega))
theorem FarAt.of_plus {E : Nat → List Nat} {n tg : Nat} {f : List Int} (h : FarAt E n tg f) (hE : ∀ i, ∀ k ∈ E i, k < n) {i : Nat} (hi : i < n) (hp : Plus E i tg) : 0 < fa f i := by
  induction hp with
  | one hj => have := h.short1 _ hi hj; omega
  | more hk _ ih => exact (h.short _ hi _ hk (ih h (hE _ _ hk))).1
/-- The walk back: which rule is behind t steps. -/
def cycA (E : Nat → List Nat) (f : List Int) (i : Nat) : Nat → Nat
  | 0 => i
  | t + 1 => ((E (cycA E f i t)).find? fun j => decide (fa f j = fa f i - 1 - (t : Int))).getD 0
def cycL (E : Nat → List Nat) (f : List Int) (i : Nat) : List Nat := (List.range (fa f i).toNat).map (cycA E f i)
theorem FarAt.cyc {E : Nat → List Nat} {n i : Nat} {f : List Int} (h : FarAt E n i f) (hi : 0 < fa f i) : ∀ t : Nat, (t : Int) < fa f i → fa f (cycA E f i t) = fa f i - t
  | 0, _ => by simp [cycA]
  | t + 1, ht => by
    have ih := h.cyc hi t (by omega)
    have hs := h.sound (cycA E f i t) (by omega)
    rcases hs with ⟨h1, -⟩ | ⟨j, hj, h1, h2⟩
    · omega
    · have hex : ((E (cycA E f i t)).find? fun j => decide (fa f j = fa f i - 1 - (t : Int))).isSome = true := by
        rw [List.find?_isSome]
        exact ⟨j, hj, by rw [decide_eq_true_eq]; omega⟩
      obtain ⟨k, hk⟩ := Option.isSome_iff_exists.1 hex
      have := List.find?_some hk
      simp only [decide_eq_true_eq] at this
      show fa f (((E (cycA E f i t)).find? fun j => decide (fa f j = fa f i - 1 - (t : Int))).getD 0) = _
      rw [hk, Option.getD_some, this]
      omega
theorem FarAt.cyc_step {E : Nat → List Nat} {n i : Nat} {f : List Int} (h : FarAt E n i f) (hi : 0 < fa f i) {t : Nat} (ht : (t : Int) + 1 < fa f i) : (E (cycA E f i t)).find? (fun j => decide (fa f j = fa f i - 1 - (t : Int))) = some (cycA E f i (t + 1)) ∧ cycA E f i (t + 1) ∈ E (cycA E f i t) := by
  have ih := h.cyc hi t (by omega)
  rcases h.sound (cycA E f i t) (by omega) with ⟨h1, -⟩ | ⟨j, hj, h1, h2⟩
  · omega
  · have hex : ((E (cycA E f i t)).find? fun j => decide (fa f j = fa f i - 1 - (t : Int))).isSome = true := by
      rw [List.find?_isSome]
      exact ⟨j, hj, by rw [decide_eq_true_eq]; omega⟩
    obtain ⟨k, hk⟩ := Option.isSome_iff_exists.1 hex
    have e : cycA E f i (t + 1) = k := by
      show ((E (cycA E f i t)).find? fun j => decide (fa f j = fa f i - 1 - (t : Int))).getD 0 = _
      rw [hk, Option.getD_some]
    rw [e]
    exact ⟨hk, List.mem_of_find?_eq_some hk⟩
theorem FarAt.cyc_last {E : Nat → List Nat} {n i : Nat} {f : List Int} (h : FarAt E n i f) {t : Nat} (ht : (t : Int) + 1 = fa f i) : i ∈ E (cycA E f i t) := by
  have ih := h.cyc (by omega) t (by omega)
  rcases h.sound (cycA E f i t) (by omega) with ⟨-, h1⟩ | ⟨j, hj, h1, h2⟩
  · exact h1
  · omega
end Go.Proofs.YtpihjbfbnoepiaaGreatDoor

/-
  All ways at once, in plain words.
-/
namespace Go.Proofs.YtpihjbfbnoepiaaGreatDoor
open Go Go.RowKit Go.Kf Go.Sort Go.Proofs

/-! ### all ways at once -/
/-- A way of d steps, all between below m. -/
inductive Way (E : Nat → List Nat) (m : Nat) : Nat → Nat → Nat → Prop
  | one {i j : Nat} : j ∈ E i → Way E m i j 1
  | more {i k j d : Nat} : k ∈ E i → k < m → Way E m k j d → Way E m i j (d + 1)
theorem Way.mono {E : Nat → List Nat} {m m' : Nat} (hm : m ≤ m') {i j d : Nat} (h : Way E m i j d) : Way E m' i j d := by
  induction h with
  | one h => exact .one h
  | more h1 h2 _ ih => exact .more h1 (by omega) ih
theorem Way.pos {E : Nat → List Nat} {m i j d : Nat} (h : Way E m i j d) : 1 ≤ d := by
  cases h <;> omega
theorem Way.cat {E : Nat → List Nat} {m i k j d1 d2 : Nat} (h : Way E m i k d1) (hk : k < m) (h2 : Way E m k j d2) : Way E m i j (d1 + d2) := by
  induction h with
  | one h => rw [Nat.add_comm]; exact .more h hk h2
  | @more i q j d h1 h3 _ ih => rw [show d + 1 + d2 = d + d2 + 1 by omega]; exact .more h1 h3 (ih hk h2)
theorem Way.part {E : Nat → List Nat} {m i j d : Nat} (h : Way E (m + 1) i j d) : Way E m i j d ∨ ∃ d1 d2, Way E m i m d1 ∧ Way E m m j d2 ∧ d1 + d2 ≤ d := by
  induction h with
  | one h => exact Or.inl (.one h)
  | @more i k j d h1 h2 _ ih =>
    by_cases hk : k = m
    · subst hk
      rcases ih with h | ⟨d1, d2, h3, h4, h5⟩
      · exact Or.inr ⟨1, d, .one h1, h, by omega⟩
      · exact Or.inr ⟨1, d2, .one h1, h4, by omega⟩
    · rcases ih with h | ⟨d1, d2, h3, h4, h5⟩
      · exact Or.inl (.more h1 (by omega) h)
      · exact Or.inr ⟨d1 + 1, d2, .more h1 (by omega) h3, h4, by omega⟩
/-- How far each is from each, round m, place p (row i, column k: p = i n + k) being next. -/
structure Fw (E : Nat → List Nat) (n m p : Nat) (D : Nat → Nat → Nat) : Prop where
  le : ∀ a b, D a b ≤ 1000
  pos : ∀ a b, 1 ≤ D a b
  sound : ∀ a b, D a b < 1000 → Way E n a b (D a b)
  low : ∀ a b d, a < n → b < n → Way E m a b d → D a b ≤ d
  next : ∀ a b d, a < n → b < n → a * n + b < p → Way E (m + 1) a b d → D a b ≤ d
theorem Fw.turn {E : Nat → List Nat} {n m : Nat} {D : Nat → Nat → Nat} (h : Fw E n m (n * n) D) : Fw E n (m + 1) 0 D :=
  ⟨h.le, h.pos, h.sound, fun a b d ha hb hw => h.next a b d ha hb (by
    have : a * n + n ≤ n * n := by
      have h1 : (a + 1) * n ≤ n * n := Nat.mul_le_mul_right n (by omega)
      rw [Nat.succ_mul] at h1
      exact h1
    omega) hw, fun a b d _ _ h0 _ => absurd h0 (by omega)⟩
def fwSet (D : Nat → Nat → Nat) (i k v : Nat) : Nat → Nat → Nat := fun a b => if a = i ∧ b = k then v else D a b
theorem place_eq {n a b i k : Nat} (hb : b < n) (hk : k < n) (h : a * n + b = i * n + k) : a = i ∧ b = k := by
  have hn : 0 < n := by omega
  have h1 : (a * n + b) / n = a := by rw [Nat.add_comm, Nat.add_mul_div_right _ _ hn, Nat.div_eq_of_lt hb, Nat.zero_add]
  have h2 : (i * n + k) / n = i := by rw [Nat.add_comm, Nat.add_mul_div_right _ _ hn, Nat.div_eq_of_lt hk, Nat.zero_add]
  rw [h, h2] at h1
  subst h1
  exact ⟨rfl, by omega⟩
theorem Fw.step {E : Nat → List Nat} {n m i k : Nat} {D : Nat → Nat → Nat} (h : Fw E n m (i * n + k) D) (hm : m < n) (hi : i < n) (hk : k < n) (hlt : D i m + D m k < D i k) : Fw E n m (i * n + k + 1) (fwSet D i k (D i m + D m k)) := by
  have hle : ∀ a b, fwSet D i k (D i m + D m k) a b ≤ D a b := fun a b => by
    unfold fwSet
    split
    · rename_i e
      rw [e.1, e.2]
      omega
    · exact Nat.le_refl _
  refine ⟨fun a b => Nat.le_trans (hle a b) (h.le a b), fun a b => ?_, fun a b hd => ?_, fun a b d ha hb hw => Nat.le_trans (hle a b) (h.low a b d ha hb hw), fun a b d ha hb hp hw => ?_⟩
  · have h1 := h.pos i m
    have h2 := h.pos a b
    unfold fwSet
    split <;> omega
  · unfold fwSet at hd ⊢
    split
    · rename_i e
      rw [if_pos e] at hd
      rw [e.1, e.2]
      have h1 := h.le i k
      exact (h.sound i m (by omega)).cat hm (h.sound m k (by omega))
    · rename_i e
      rw [if_neg e] at hd
      exact h.sound a b hd
  · by_cases e : a * n + b = i * n + k
    · obtain ⟨rfl, rfl⟩ := place_eq hb hk e
      unfold fwSet
      rw [if_pos ⟨rfl, rfl⟩]
      rcases hw.part with h1 | ⟨d1, d2, h1, h2, h3⟩
      · have := h.low a b d ha hb h1
        omega
      · have h4 := h.low a m d1 ha hm h1
        have h5 := h.low m b d2 hm hb h2
        omega
    · exact Nat.le_trans (hle a b) (h.next a b d ha hb (by omega) hw)
theorem Fw.skip {E : Nat → List Nat} {n m i k : Nat} {D : Nat → Nat → Nat} (h : Fw E n m (i * n + k) D) (hm : m < n) (hk : k < n) (hge : ¬ D i m + D m k < D i k) : Fw E n m (i * n + k + 1) D := by
  refine ⟨h.le, h.pos, h.sound, h.low, fun a b d ha hb hp hw => ?_⟩
  by_cases e : a * n + b = i * n + k
  · obtain ⟨rfl, rfl⟩ := place_eq hb hk e
    rcases hw.part with h1 | ⟨d1, d2, h1, h2, h3⟩
    · exact h.low a b d ha hb h1
    · have h4 := h.low a m d1 ha hm h1
      have h5 := h.low m b d2 hm hb h2
      omega
  · exact h.next a b d ha hb (by omega) hw
/-- One step alone. -/
def farOne (E : Nat → List Nat) (i k : Nat) : Nat := if k ∈ E i then 1 else 1000
theorem Fw.zero (E : Nat → List Nat) (n : Nat) : Fw E n 0 0 (farOne E) := by
  refine ⟨fun a b => ?_, fun a b => ?_, fun a b h => ?_, fun a b d _ _ h => ?_, fun a b d _ _ h => absurd h (by omega)⟩
  · unfold farOne; split <;> omega
  · unfold farOne; split <;> omega
  · unfold farOne at h ⊢
    split
    · rename_i hm; exact .one hm
    · rename_i hm
      rw [if_neg hm] at h
      omega
  · cases h with
    | one h =>
      unfold farOne
      rw [if_pos h]
      exact Nat.le_refl _
    | more _ h => omega
theorem FarAt.way {E : Nat → List Nat} {n tg : Nat} {f : List Int} (h : FarAt E n tg f) (hE : ∀ i, ∀ k ∈ E i, k < n) : ∀ (d i : Nat), fa f i = (d : Int) + 1 → Way E n i tg (d + 1)
  | 0, i, hi => by
    rcases h.sound i (by omega) with ⟨-, h1⟩ | ⟨j, hj, h1, h2⟩
    · exact .one h1
    · omega
  | d + 1, i, hi => by
    rcases h.sound i (by omega) with ⟨h0, h1⟩ | ⟨j, hj, h1, h2⟩
    · omega
    · exact .more hj (hE i j hj) (h.way hE d j (by omega))
theorem FarAt.of_way {E : Nat → List Nat} {n tg : Nat} {f : List Int} (h : FarAt E n tg f) {m i d : Nat} (hm : m ≤ n) (hi : i < n) (hw : Way E m i tg d) : 0 < fa f i ∧ fa f i ≤ d := by
  induction hw with
  | one hj => have := h.short1 _ hi hj; omega
  | more hk hkm _ ih =>
    have h1 := ih h (by omega)
    have h2 := h.short _ hi _ hk h1.1
    omega
/-- Both say the same. -/
theorem far_same {E : Nat → List Nat} {n tg : Nat} {f : List Int} {D : Nat → Nat → Nat} (hE : ∀ i, ∀ k ∈ E i, k < n) (h : FarAt E n tg f) (hD : Fw E n n 0 D) (hn : n < 1000) {i : Nat} (hi : i < n) (hto : tg < n) :
    (0 < fa f i ∧ (D i tg : Int) = fa f i) ∨ (fa f i = -1 ∧ D i tg = 1000) := by
  rcases h.range i with h1 | ⟨h1, h2⟩
  · right
    refine ⟨h1, Classical.byContradiction (fun hne => ?_)⟩
    have h3 := hD.le i tg
    have := h.of_way (Nat.le_refl n) hi (hD.sound i tg (by omega))
    omega
  · left
    obtain ⟨d, hd⟩ : ∃ d : Nat, fa f i = (d : Int) + 1 := ⟨(fa f i - 1).toNat, by omega⟩
    have h3 := hD.low i tg (d + 1) hi hto (h.way hE d i hd)
    have h4 := h.of_way (Nat.le_refl n) hi (hD.sound i tg (by omega))
    omega
end Go.Proofs.YtpihjbfbnoepiaaGreatDoor

/-
  What is needed, round by round, in plain words.
-/
namespace Go.Proofs.YtpihjbfbnoepiaaGreatDoor
open Go Go.RowKit Go.Kf Go.Sort Go.Proofs

/-! ### what is needed, round by round -/
/-- Those marked. -/
structure Clo (E : Nat → List Nat) (n : Nat) (ks N : List Nat) : Prop where
  nd : N.Nodup
  lt : ∀ k ∈ N, k < n
  reach : ∀ k ∈ N, Reach E ks k
  start : ∀ k ∈ ks, k ∈ N
def ShutL (E : Nat → List Nat) (N : List Nat) : Prop := ∀ k ∈ N, ∀ j ∈ E k, j ∈ N
/-- Within a round that began at N0, place p being next. -/
structure CloR (E : Nat → List Nat) (n : Nat) (ks N0 : List Nat) (p : Nat) (N : List Nat) : Prop where
  clo : Clo E n ks N
  sub : ∀ k ∈ N0, k ∈ N
  same : ShutL E N0 → N = N0
  done : ∀ i ∈ N0, ∀ k ∈ E i, i * n + k < p → k ∈ N
theorem CloR.zero {E : Nat → List Nat} {n : Nat} {ks N : List Nat} (h : Clo E n ks N) : CloR E n ks N 0 N :=
  ⟨h, fun _ h => h, fun _ => rfl, fun _ _ _ _ h => absurd h (by omega)⟩
theorem CloR.add {E : Nat → List Nat} {n i k : Nat} {ks N0 N : List Nat} (h : CloR E n ks N0 (i * n + k) N) (hk : k < n) (hi : i ∈ N) (hE : k ∈ E i) (hn : k ∉ N) (hlt : ∀ i, ∀ k ∈ E i, k < n) : CloR E n ks N0 (i * n + k + 1) (N ++ [k]) := by
  refine ⟨⟨?_, fun j hj => ?_, fun j hj => ?_, fun j hj => List.mem_append_left _ (h.clo.start j hj)⟩, fun j hj => List.mem_append_left _ (h.sub j hj), fun hs => ?_, fun a ha b hb hp => ?_⟩
  · rw [List.nodup_append]
    refine ⟨h.clo.nd, by simp, fun a ha b hb e => ?_⟩
    obtain rfl := List.mem_singleton.1 hb
    exact hn (e ▸ ha)
  · rcases List.mem_append.1 hj with hj | hj
    · exact h.clo.lt j hj
    · obtain rfl := List.mem_singleton.1 hj
      exact hk
  · rcases List.mem_append.1 hj with hj | hj
    · exact h.clo.reach j hj
    · obtain rfl := List.mem_singleton.1 hj
      exact .step (h.clo.reach i hi) hE
  · have e := h.same hs
    subst e
    exact absurd (hs i hi k hE) hn
  · by_cases e : a * n + b = i * n + k
    · obtain ⟨rfl, rfl⟩ := place_eq (hlt a b hb) hk e
      exact List.mem_append_right _ List.mem_cons_self
    · exact List.mem_append_left _ (h.done a ha b hb (by omega))
theorem CloR.skip {E : Nat → List Nat} {n i k : Nat} {ks N0 N : List Nat} (h : CloR E n ks N0 (i * n + k) N) (hk : k < n) (hn : i ∈ N → k ∈ E i → k ∈ N) (hlt : ∀ i, ∀ k ∈ E i, k < n) : CloR E n ks N0 (i * n + k + 1) N := by
  refine ⟨h.clo, h.sub, h.same, fun a ha b hb hp => ?_⟩
  by_cases e : a * n + b = i * n + k
  · obtain ⟨rfl, rfl⟩ := place_eq (hlt a b hb) hk e
    exact hn (h.sub a ha) hb
  · exact h.done a ha b hb (by omega)
/-- After r rounds. -/
def CloN (E : Nat → List Nat) (n : Nat) (ks : List Nat) (r : Nat) (N : List Nat) : Prop := Clo E n ks N ∧ (ShutL E N ∨ r + 1 ≤ N.length)
theorem CloN.zero {E : Nat → List Nat} {n : Nat} {ks N : List Nat} (h : Clo E n ks N) : CloN E n ks 0 N := by
  refine ⟨h, ?_⟩
  cases N with
  | nil => exact Or.inl (fun k hk => by cases hk)
  | cons a N => exact Or.inr (by simp)
theorem CloN.turn {E : Nat → List Nat} {n r : Nat} {ks N0 N : List Nat} (h0 : CloN E n ks r N0) (h : CloR E n ks N0 (n * n) N) (hlt : ∀ i, ∀ k ∈ E i, k < n) : CloN E n ks (r + 1) N := by
  refine ⟨h.clo, ?_⟩
  by_cases hs : ShutL E N0
  · have := h.same hs
    subst this
    exact Or.inl hs
  · right
    rcases h0.2 with h1 | h1
    · exact absurd h1 hs
    · have hex : ∃ i ∈ N0, ∃ k ∈ E i, k ∉ N0 := Classical.byContradiction (fun hno => hs (fun i hi k hk => Classical.byContradiction (fun hm => hno ⟨i, hi, k, hk, hm⟩)))
      obtain ⟨i, hi, k, hk, hm⟩ := hex
      have hin := h0.1.lt i hi
      have hkn := hlt i k hk
      have hkN := h.done i hi k hk (by
        have : (i + 1) * n ≤ n * n := Nat.mul_le_mul_right n (by omega)
        rw [Nat.succ_mul] at this
        omega)
      have := nodup_sub (k :: N0) N (List.nodup_cons.2 ⟨hm, h0.1.nd⟩) (fun x hx => by
        rcases List.mem_cons.1 hx with rfl | hx
        · exact hkN
        · exact h.sub x hx)
      simp only [List.length_cons] at this
      omega
theorem CloN.stop {E : Nat → List Nat} {n : Nat} {ks N : List Nat} (h : CloN E n ks n N) (k : Nat) : k ∈ N ↔ Reach E ks k := by
  have hs : ShutL E N := by
    rcases h.2 with h1 | h1
    · exact h1
    · have := nodup_le n N h.1.nd h.1.lt
      omega
  refine ⟨h.1.reach k, fun hr => ?_⟩
  induction hr with
  | base hk => exact h.1.start _ hk
  | step _ hk ih => exact hs _ ih _ hk
end Go.Proofs.YtpihjbfbnoepiaaGreatDoor

namespace Go.Proofs.YtpihjbfbnoepiaaGreatDoor
open Go Go.RowKit Go.Kf Go.Sort Go.Proofs

/-- What a wrong sheet is told. -/
def SheetBad (S : Nat → Addr) (l : List RuleL) (B : Nat) (err : Value) (w' : World) : Prop :=
  (40 < l.length ∧ err = errI (S 1)) ∨
  (l.length ≤ 40 ∧ ∃ i r m g, (∀ j q, j < i → l[j]? = some q → errAt l j q = 0) ∧ l[i]? = some r ∧ errAt l i r = m + 1 ∧ err = .iface 148 (.pointer (some ⟨g, 0, none⟩)) ∧ B ≤ g ∧ w'.heap[g]? = some (.cells #[.int .i64 (i : Int), errI (S m)] 150 (0, 0)))
theorem SheetBad.below {S : Nat → Addr} {l : List RuleL} {B : Nat} {err : Value} {w w' : World} (h : SheetBad S l B err w) (hb : Below w.heap.size w w') : SheetBad S l B err w' := by
  rcases h with h | ⟨h0, i, r, m, g, h1, h2, h3, h4, h5, h6⟩
  · exact Or.inl h
  · exact Or.inr ⟨h0, i, r, m, g, h1, h2, h3, h4, h5, (hb.block g (lt_of_heap h6)).trans h6⟩
/-- A sheet that is right. -/
def RightS (l : List RuleL) : Prop := l.length ≤ 40 ∧ Right l
theorem sheet_split {S : Nat → Addr} {l : List RuleL} {B : Nat} {e : Ending} {w' : World} (h : SheetAns S l B e w') : (RightS l ∧ e = .returned .nilIface) ∨ ∃ T x, e = .returned (.iface T x) ∧ SheetBad S l B (.iface T x) w' := by
  rcases h with ⟨h1, h2, rfl⟩ | ⟨h1, rfl⟩ | ⟨h0, i, r, m, g, h1, h2, h3, rfl, h5, h6⟩
  · exact Or.inl ⟨⟨h1, h2⟩, rfl⟩
  · exact Or.inr ⟨_, _, rfl, Or.inl ⟨h1, rfl⟩⟩
  · exact Or.inr ⟨_, _, rfl, Or.inr ⟨h0, i, r, m, g, h1, h2, h3, rfl, h5, h6⟩⟩
theorem SheetBad.wrong {S : Nat → Addr} {l : List RuleL} {B : Nat} {err : Value} {w' : World} (h : SheetBad S l B err w') : ¬ RightS l := fun hr => by
  rcases h with ⟨h1, -⟩ | ⟨-, i, r, m, g, -, h2, h3, -⟩
  · have := hr.1; omega
  · have := hr.2 i r h2
    omega

theorem idxR_cases (p : RV → Bool) (R : List RV) : (∃ k, ∃ h : k < R.length, idxR p R = (k : Int) ∧ p R[k] = true) ∨ (idxR p R = -1 ∧ ∀ x ∈ R, p x = false) := by
  unfold idxR
  by_cases h : R.findIdx p < R.length
  · exact Or.inl ⟨_, h, by rw [if_pos h], List.findIdx_getElem⟩
  · refine Or.inr ⟨by rw [if_neg h], fun x hx => Bool.eq_false_iff.2 (fun hp => h (List.findIdx_lt_length.2 ⟨x, hx, hp⟩))⟩

/-- The places of outs. -/
def PlacesAt (l : List RuleL) (outs : List (List UInt8)) (ks : List Nat) : Prop := (∀ k ∈ ks, k < l.length) ∧ ks.map (fun k => (l.getD k noR).out) = outs
theorem PlacesAt.nil (l : List RuleL) : PlacesAt l [] [] := ⟨fun k h => (by cases h), rfl⟩
theorem PlacesAt.snoc {l : List RuleL} {outs : List (List UInt8)} {ks : List Nat} {k : Nat} {s : List UInt8} (h : PlacesAt l outs ks) (hk : k < l.length) (he : l[k].out = s) : PlacesAt l (outs ++ [s]) (ks ++ [k]) := by
  refine ⟨fun j hj => ?_, ?_⟩
  · rcases List.mem_append.1 hj with hj | hj
    · exact h.1 j hj
    · obtain rfl := List.mem_singleton.1 hj
      exact hk
  · rw [List.map_append, h.2, List.map_singleton, List.getD_eq_getElem?_getD, List.getElem?_eq_getElem hk, Option.getD_some, he]
theorem PlacesAt.len {l : List RuleL} {outs : List (List UInt8)} {ks : List Nat} (h : PlacesAt l outs ks) : ks.length = outs.length := by
  rw [← h.2, List.length_map]
theorem PlacesAt.mem {l : List RuleL} {outs : List (List UInt8)} {ks : List Nat} (h : PlacesAt l outs ks) (hr : Right l) {k : Nat} (hk : k < l.length) : k ∈ ks ↔ l[k].out ∈ outs := by
  rw [← h.2, List.mem_map]
  constructor
  · intro hm
    exact ⟨k, hm, by rw [List.getD_eq_getElem?_getD, List.getElem?_eq_getElem hk]; rfl⟩
  · rintro ⟨j, hj, e⟩
    have hj2 := h.1 j hj
    rw [List.getD_eq_getElem?_getD, List.getElem?_eq_getElem hj2, Option.getD_some] at e
    have := hr.outs hj2 hk e
    exact this ▸ hj

/-- The map of those that are needed. -/
def needM (N : List Nat) : List (Int × Bool) := N.map fun (k : Nat) => ((k : Int), true)
theorem needM_look (N : List Nat) (k : Nat) : mlook (k : Int) (needM N) = if k ∈ N then some true else none := by
  induction N with
  | nil => rfl
  | cons a N ih =>
    unfold needM at ih ⊢
    rw [List.map_cons]
    unfold mlook
    by_cases h : a = k
    · subst h
      simp
    · have h1 : ¬ (a : Int) = (k : Int) := by omega
      have h2 : ¬ k = a := fun e => h e.symm
      simp only [h1, if_false, List.mem_cons, h2, false_or]
      exact ih
theorem needM_upd {N : List Nat} {k : Nat} (h : k ∉ N) : mupd (k : Int) true (needM N) = needM (N ++ [k]) := by
  have h1 : mplace (k : Int) (needM N) = none := by
    have h2 := mlook_isSome_place (k : Int) (needM N)
    rw [needM_look, if_neg h] at h2
    cases hp : mplace (k : Int) (needM N) with
    | none => rfl
    | some j => rw [hp] at h2; cases h2
  rw [mupd_none h1]
  simp [needM]
/-- How many keys a map holds. -/
def mapLen (w : World) (b : Nat) : Nat := match w.heap[b]? with
  | some (.map es _) => es.size
  | _ => 0
theorem mapLen_is {κ α : Type} {ek : κ → Value} {ev : α → Value} {w : World} {b : Nat} {l : List (κ × α)} (h : MapIs ek ev w b l) : mapLen w b = l.length := by
  obtain ⟨es, clock, h1, h2, -⟩ := h
  unfold mapLen
  rw [h1]
  have := congrArg List.length h2
  simpa using this
theorem needUnd : Tryz.prog.underlying 145 = some (.map 3 4) := Tryz.underlying145
theorem needKey : KeyBy Tryz.prog 3 (Value.int .i64) := KeyBy.int Tryz.underlying3
theorem needZero (w : World) : (zeroValue 4).run Tryz.prog w = .ok (.bool false) w := by kernel_rfl
theorem need_step {w : World} {b : Nat} {N : List Nat} (h : MapIs (Value.int .i64) Value.bool w b (needM N)) {k : Nat} (hk : k ∉ N) :
    ∃ W, (Instr.mapUpdate 145 (.map (some b)) (.int .i64 (k : Int)) (.bool true)).run Tryz.prog w = .ok () W ∧ MapIs (Value.int .i64) Value.bool W b (needM (N ++ [k])) ∧ Fr w.heap.size (fun q => q = b) w W ∧ W.heap.size = w.heap.size := by
  obtain ⟨es, c, h1, h2⟩ := MapIs.update needKey needUnd h (k : Int) true
  rw [needM_upd hk] at h2
  exact ⟨_, h1, h2, Fr.putMap (S := fun q => q = b) (.refl _ _ _) (fun _ => rfl) _ _, by simp [Kf.putMap]⟩
theorem needL_snoc (N : List Nat) (i : Nat) : needL (i + 1) N = needL i N ++ if N.contains i then [i] else [] := by
  unfold needL
  rw [List.range_succ, List.filter_append]
  congr 1
  by_cases h : i ∈ N
  · simp [h]
  · simp [h]
theorem edges_lt (l : List RuleL) (i : Nat) : ∀ k ∈ edgesB l i, k < l.length := fun _ hk => List.mem_range.1 (List.mem_filter.1 hk).1
theorem edges_len (l : List RuleL) (i : Nat) : (edgesB l i).length ≤ l.length := by
  unfold edgesB
  exact Nat.le_trans (List.length_filter_le _ _) (by simp)

set_option maxRecDepth 100000 in
theorem needs1_any (x : RV) (B : Nat) (s : List UInt8) (W : World) (hc : W.cell? ⟨B, 0, none⟩ = some (str s)) :
    Calls Tryz.prog 94 #[rvAgg x, .pointer (some ⟨B, 0, none⟩)] W fun e w' => e = .returned (.bool (x.1.out == s)) ∧ Below W.heap.size W w' := by
  obtain ⟨⟨x0, x1, x2, x4⟩, x3⟩ := x
  simp only
  obtain ⟨W0, hW0⟩ : ∃ W0, W.alloc (.cells #[str x0, str x1, str x2, x3] 39) = W0 := ⟨_, rfl⟩
  have hA : Below W.heap.size W W0 := hW0 ▸ (Below.refl _ W).alloc (Nat.le_refl _) _
  have h0 : W0.cell? ⟨W.heap.size, 0, none⟩ = some (str x0) := by rw [← hW0, cell_of_heap (heap_alloc_here W _)]; rfl
  have h1 := (hA.cell (p := ⟨B, 0, none⟩) (lt_of_cell hc)).trans hc
  have HA := Lib.hid hA
  obtain ⟨b, hb⟩ : ∃ b, (x0 == s) = b := ⟨_, rfl⟩
  rw [hb]
  clear hc hA
  go_enter Tryz.func94, Tryz.ntmps94
  go_wp2
  go_ret
  exact ⟨rfl, HA.out⟩
set_option maxRecDepth 100000 in
theorem leaves1_any (x : RV) (B : Nat) (s : List UInt8) (W : World) (hc : W.cell? ⟨B, 0, none⟩ = some (str s)) :
    Calls Tryz.prog 96 #[rvAgg x, .pointer (some ⟨B, 0, none⟩)] W fun e w' => e = .returned (.bool (x.1.out == s)) ∧ Below W.heap.size W w' := by
  obtain ⟨⟨x0, x1, x2, x4⟩, x3⟩ := x
  simp only
  obtain ⟨W0, hW0⟩ : ∃ W0, W.alloc (.cells #[str x0, str x1, str x2, x3] 39) = W0 := ⟨_, rfl⟩
  have hA : Below W.heap.size W W0 := hW0 ▸ (Below.refl _ W).alloc (Nat.le_refl _) _
  have h0 : W0.cell? ⟨W.heap.size, 0, none⟩ = some (str x0) := by rw [← hW0, cell_of_heap (heap_alloc_here W _)]; rfl
  have h1 := (hA.cell (p := ⟨B, 0, none⟩) (lt_of_cell hc)).trans hc
  have HA := Lib.hid hA
  obtain ⟨b, hb⟩ : ∃ b, (x0 == s) = b := ⟨_, rfl⟩
  rw [hb]
  clear hc hA
  go_enter Tryz.func96, Tryz.ntmps96
  go_wp2
  go_ret
  exact ⟨rfl, HA.out⟩
end Go.Proofs.YtpihjbfbnoepiaaGreatDoor

namespace Go.Proofs.YtpihjbfbnoepiaaGreatDoor
open Go Go.RowKit Go.Kf Go.Sort Go.Proofs

/-- What Cycle answers: the first rule that reaches itself, and the way back. -/
def CycR (l : List RuleL) (c : List Nat) : Prop :=
  (∃ i f, i < l.length ∧ FarAt (edgesB l) l.length i f ∧ 0 < fa f i ∧ (∀ j, j < i → ¬ Plus (edgesB l) j j) ∧ c = cycL (edgesB l) f i) ∨ (c = [] ∧ ∀ j, j < l.length → ¬ Plus (edgesB l) j j)
theorem edges_need {l : List RuleL} {i k : Nat} (h : k ∈ edgesB l i) : k < l.length ∧ needB l i k = true := by
  obtain ⟨h1, h2⟩ := List.mem_filter.1 h
  exact ⟨List.mem_range.1 h1, h2⟩
theorem need_edges {l : List RuleL} {i k : Nat} (hk : k < l.length) (h : needB l i k = true) : k ∈ edgesB l i := List.mem_filter.2 ⟨List.mem_range.2 hk, h⟩
theorem cycL_len (E : Nat → List Nat) (f : List Int) (i : Nat) : (cycL E f i).length = (fa f i).toNat := by simp [cycL]
theorem cycL_at (E : Nat → List Nat) (f : List Int) (i : Nat) {t : Nat} (h : t < (cycL E f i).length) : (cycL E f i)[t] = cycA E f i t := by simp [cycL]
theorem cyc_ok {l : List RuleL} {c : List Nat} (h : CycR l c) {t : Nat} (ht : t < c.length) : ∃ h2 : (t + 1) % c.length < c.length, c[t] < l.length ∧ c[(t + 1) % c.length] < l.length ∧ needB l c[t] c[(t + 1) % c.length] = true := by
  rcases h with ⟨i, f, hi, hf, hp, -, rfl⟩ | ⟨rfl, -⟩
  · have hm : (t + 1) % (cycL (edgesB l) f i).length < (cycL (edgesB l) f i).length := Nat.mod_lt _ (by omega)
    have hl := cycL_len (edgesB l) f i
    have hlt : ∀ t, t < (cycL (edgesB l) f i).length → cycA (edgesB l) f i t < l.length := fun t ht => by
      cases t with
      | zero => exact hi
      | succ t => exact edges_lt l _ _ (hf.cyc_step hp (t := t) (by omega)).2
    have hstep : cycA (edgesB l) f i ((t + 1) % (cycL (edgesB l) f i).length) ∈ edgesB l (cycA (edgesB l) f i t) := by
      by_cases hlast : t + 1 = (cycL (edgesB l) f i).length
      · rw [hlast, Nat.mod_self]
        exact hf.cyc_last (t := t) (by omega)
      · rw [Nat.mod_eq_of_lt (by omega)]
        exact (hf.cyc_step hp (t := t) (by omega)).2
    refine ⟨hm, ?_, ?_, ?_⟩
    · rw [cycL_at]; exact hlt t ht
    · rw [cycL_at]; exact hlt _ hm
    · rw [cycL_at, cycL_at]; exact (edges_need hstep).2
  · simp at ht
theorem cyc_len {l : List RuleL} {c : List Nat} (h : CycR l c) : c.length ≤ l.length := by
  rcases h with ⟨i, f, hi, hf, hp, -, rfl⟩ | ⟨rfl, -⟩
  · rw [cycL_len]
    rcases hf.range i with h1 | h1 <;> omega
  · simp
/-- No order: a cycle. -/
theorem cyc_some {l : List RuleL} {c : List Nat} (h : CycR l c) (ho : orderB (edgesB l) (fun _ => true) l.length = none) : 0 < c.length := by
  obtain ⟨i, hi, hp⟩ := order_none (edges_lt l) ho
  rcases h with ⟨j, f, hj, hf, hpos, -, rfl⟩ | ⟨rfl, hno⟩
  · rw [cycL_len]; omega
  · exact absurd hp (hno i hi)
/-- An order: no cycle. -/
theorem cyc_none {l : List RuleL} {c o : List Nat} (h : CycR l c) (ho : orderB (edgesB l) (fun _ => true) l.length = some o) : c = [] := by
  obtain ⟨h1, h2⟩ := order_some ho
  rcases h with ⟨j, f, hj, hf, hpos, -, rfl⟩ | ⟨rfl, -⟩
  · obtain ⟨d, hd⟩ : ∃ d : Nat, fa f j = (d : Int) + 1 := ⟨(fa f j - 1).toNat, by omega⟩
    exact absurd (hf.plus d j hd) (order_irr h1 h2 hj)
  · rfl
end Go.Proofs.YtpihjbfbnoepiaaGreatDoor
