/-
  A slice of the call's own that may be cut at its head: reads, tail, append. What Needs, Leaves, Order and Cycle stand on: a sheet's answer, outs' places, the map of those needed. Cycle or order, in plain words. Package graph: Leaves at any rules.
-/
import Derived.Test.YtgjialbmlhbngaaGreatDoorPkG
import Derived.ArgAppend

set_option maxRecDepth 100000
namespace Go.Kf
open Go Go.RowKit
def OwnQ (w : World) (base : Nat) (v : Value) (xs : List Value) : Prop :=
  (v = .slice none 0 0 ∧ xs = []) ∨ ∃ ad g o cap, v = .slice (some ad) xs.length cap ∧ ad.block = g ∧ (0 < cap → ad = ⟨g, o, none⟩) ∧ base ≤ g ∧ g < w.heap.size ∧ xs.length ≤ cap ∧ cap ≤ maxLen ∧
    (∀ j, j < cap → (w.cell? ⟨g, o + j, none⟩).isSome = true ∧ w.frozen? ⟨g, o + j, none⟩ = false) ∧ ∀ j u, xs[j]? = some u → w.cell? ⟨g, o + j, none⟩ = some u
theorem OwnQ.nil (w : World) (base : Nat) : OwnQ w base (.slice none 0 0) [] := Or.inl ⟨rfl, rfl⟩
theorem OwnQ.reads {w : World} {base : Nat} {v : Value} {xs : List Value} (h : OwnQ w base v xs) : Reads w v xs := by
  rcases h with ⟨rfl, rfl⟩ | ⟨ad, g, o, cap, rfl, -, ha, -, -, hle, hcm, -, hc⟩
  · exact ⟨none, 0, rfl, by simp, fun i u hi => by simp at hi⟩
  · refine ⟨some ad, cap, rfl, by unfold maxLen at hcm; omega, fun i u hi => ⟨g, o, ?_, hc i u hi⟩⟩
    have := (List.getElem?_eq_some_iff.1 hi).1
    rw [ha (by omega)]
theorem OwnQ.lt {w : World} {base : Nat} {v : Value} {xs : List Value} (h : OwnQ w base v xs) : ∀ k, v.ownBlock = some k → base ≤ k ∧ k < w.heap.size := fun k hk => by
  rcases h with ⟨rfl, rfl⟩ | ⟨ad, g, o, cap, rfl, hg, -, hb, hlt, -⟩
  · cases hk
  · obtain rfl := Option.some.inj hk
    exact ⟨by omega, by omega⟩
theorem OwnQ.fr {w w' : World} {base B : Nat} {S : Nat → Prop} {v : Value} {xs : List Value} (h : OwnQ w base v xs) (hf : Fr B S w w') (hv : ∀ k, v.ownBlock = some k → k < B ∧ ¬ S k) : OwnQ w' base v xs := by
  rcases h with ⟨rfl, rfl⟩ | ⟨ad, g, o, cap, rfl, hg, ha, hb, hlt, hle, hcm, hs, hc⟩
  · exact OwnQ.nil _ _
  · obtain ⟨h1, h2⟩ := hv ad.block rfl
    rw [hg] at h1 h2
    refine Or.inr ⟨ad, g, o, cap, rfl, hg, ha, hb, Nat.lt_of_lt_of_le hlt hf.size, hle, hcm, fun j hj => ?_, fun j u hj => ?_⟩
    · rw [hf.cell (p := ⟨g, o + j, none⟩) h1 h2, hf.frozen (p := ⟨g, o + j, none⟩) h1 h2]
      exact hs j hj
    · exact (hf.cell (p := ⟨g, o + j, none⟩) h1 h2).trans (hc j u hj)
theorem OwnQ.of_row {w : World} {base n : Nat} {e : TypeId} {v : Value} {xs : List Value} (h : w.ownsRow base e 1 v n xs) : OwnQ w base v xs := by
  have hl := h.1
  rcases h.2 with ⟨rfl, rfl⟩ | ⟨g, cap, cur, rfl, hg, hh, hn, hcap, hsz, htake⟩
  · obtain rfl : xs = [] := List.length_eq_zero_iff.1 (by omega)
    exact OwnQ.nil _ _
  · refine Or.inr ⟨⟨g, 0, none⟩, g, 0, cap, by rw [show xs.length = n by omega], rfl, fun _ => rfl, hg, lt_of_heap hh, by omega, hcap, fun j hj => ⟨?_, ?_⟩, fun j u hj => ?_⟩
    · rw [cell_of_heap hh, Nat.zero_add, Array.getElem?_eq_getElem (by omega)]; rfl
    · simp [World.frozen?, hh]
    · have := h.cells rfl j u hj
      rw [Addr.add_lit] at this
      exact this
theorem OwnQ.tail {w : World} {base n c : Nat} {a : Option Addr} {x : Value} {xs : List Value} (h : OwnQ w base (.slice a n c) (x :: xs)) : 1 ≤ c ∧ n = xs.length + 1 ∧ ∃ ad, a = some ad ∧ OwnQ w base (.slice (if c = 1 then some ad else some (ad.add 1)) xs.length (c - 1)) xs := by
  rcases h with ⟨-, h⟩ | ⟨ad, g, o, cap, e, hg, ha, hb, hlt, hle, hcm, hs, hc⟩
  · cases h
  · cases e
    rw [List.length_cons] at hle
    refine ⟨by omega, rfl, ad, rfl, Or.inr ?_⟩
    obtain rfl := ha (by omega)
    by_cases h1 : c = 1
    · rw [if_pos h1]
      exact ⟨_, g, o + 1, c - 1, rfl, hg, fun h => by omega, hb, hlt, by omega, by omega, fun j hj => by omega, fun j u hj => by
        have := (List.getElem?_eq_some_iff.1 hj).1
        omega⟩
    · rw [if_neg h1]
      refine ⟨_, g, o + 1, c - 1, rfl, by simp [Addr.add], fun _ => Addr.add_lit _ _ _, hb, hlt, by omega, by omega, fun j hj => ?_, fun j u hj => ?_⟩
      · rw [show o + 1 + j = o + (j + 1) by omega]
        exact hs (j + 1) (by omega)
      · rw [show o + 1 + j = o + (j + 1) by omega]
        exact hc (j + 1) u (by simpa using hj)
theorem OwnQ.tail2 {w : World} {base n c : Nat} {a : Option Addr} {x : Value} {xs : List Value} (h : OwnQ w base (.slice a n c) (x :: xs)) : 1 ≤ c ∧ ∃ g o, a = some ⟨g, o, none⟩ ∧ OwnQ w base (.slice (if c = 1 then some ⟨g, o, none⟩ else some ⟨g, o + 1, none⟩) xs.length (c - 1)) xs := by
  obtain ⟨h1, -, ad, rfl, hq⟩ := h.tail
  rcases h with ⟨-, h⟩ | ⟨ad', g, o, cap, e, hg, ha, -⟩
  · cases h
  · cases e
    obtain rfl := ha (by omega)
    exact ⟨h1, g, o, rfl, hq⟩
theorem grownBy_setCells (b : Nat) : ∀ (vs : List Value) (o : Nat) (w : World), w.grownBy (w.setCells b o vs) (some b)
  | [], _, w => ⟨rfl, rfl, rfl, Nat.le_refl _, fun _ _ _ => rfl⟩
  | v :: r, o, w => by
    have ih := grownBy_setCells b r (o + 1) (w.setCell ⟨b, o, none⟩ v)
    have hz : (w.setCell ⟨b, o, none⟩ v).heap.size = w.heap.size := by simp [World.setCell]
    refine ⟨ih.os, ih.tape, ih.output, by have := ih.size; rw [hz] at this; exact this, fun k hk hne => ?_⟩
    exact (ih.block k (by rw [hz]; exact hk) hne).trans (Below.heap_setCell _ _ _ _ (fun e => hne (congrArg some e)))
theorem OwnQ.app {P : Program} {T e : TypeId} {z : Value} {bytes : Nat} (hT : SliceTy P T e z bytes) (ty : TypeId) {w : World} {base : Nat} {v x : Value} {xs ys : List Value} (h : OwnQ w base v xs) (hb : base ≤ w.heap.size) (hx : Reads w x ys) (h1 : ∀ u ∈ ys, u.oneCell' = true) (hby : bytes ≤ 128) (hlen : xs.length + ys.length ≤ 1000000000) :
    ∃ v' w', (Builtin.append_ #[T, T] ty #[v, x]).run P w = .ok v' w' ∧ OwnQ w' base v' (xs ++ ys) ∧ w.grownBy w' v.ownBlock ∧ (v'.ownBlock = v.ownBlock ∨ ∃ b0, w.heap.size ≤ b0 ∧ v'.ownBlock = some b0) := by
  obtain ⟨i, hi, hz0, hz1, hz2⟩ := info_parts hT.info
  have hbb : (xs.length + ys.length) * bytes ≤ 140737488355328 := Nat.le_trans (Nat.mul_le_mul hlen hby) (by decide)
  have hmx : xs.length + ys.length ≤ maxLen := by unfold maxLen; omega
  obtain ⟨a, c, rfl, -, hcell⟩ := id hx
  cases ys with
  | nil =>
    have hf : (Builtin.firstCells i.size 0 (.slice a 0 c)).run P w = .ok #[] w := by
      cases a with
      | none => simp [Builtin.firstCells]
      | some a => exact run_firstCells_some (P := P) w i.size 0 a 0 c [] (by simp) (fun j u hj => by simp at hj)
    refine ⟨v, w, ?_, by rw [List.append_nil]; exact h, .refl _ _, Or.inl rfl⟩
    rcases h with ⟨rfl, rfl⟩ | ⟨ad, g, o, cap, rfl, hg, ha, hb, hlt, hle, hcm, hs, hc⟩
    · simp [Builtin.append_, run_underlying hT.und, sizeOf, typeInfo, hi, Builtin.lenOf, hf]
    · simp [Builtin.append_, run_underlying hT.und, sizeOf, typeInfo, hi, Builtin.lenOf, hf, hle, storeCells]
  | cons y0 yr =>
    obtain ⟨b2, o2, rfl, -⟩ := hcell 0 y0 rfl
    have hn : ∀ j u, (y0 :: yr)[j]? = some u → w.cell? ((⟨b2, o2, none⟩ : Addr).add j) = some u := fun j u hj => by
      obtain ⟨b, o, e, hc⟩ := hcell j u hj
      cases e
      rw [Addr.add_lit]
      exact hc
    rcases h with ⟨rfl, rfl⟩ | ⟨ad, g, o, cap, rfl, hg, ha, hb', hlt, hle, hcm, hs, hc⟩
    · obtain ⟨v', w', hr, ho, hgr, -⟩ := run_append_own (P := P) w base T ty e i z 1 bytes hT.und hi hz0 hz1 hz2 hT.one (by decide) _ 0 [] (World.ownsRow_nil w base e 1) ⟨b2, o2, none⟩ (y0 :: yr).length c (y0 :: yr) (by simp) hn h1 (by simpa using hmx) (by simpa using hbb) hb
      refine ⟨v', w', hr, OwnQ.of_row ho, hgr, ?_⟩
      obtain ⟨g', cap', rfl⟩ := ownsRow_some ho (by simp)
      rcases Nat.lt_or_ge g' w.heap.size with hlt | hge
      · have hb0 := hgr.block g' hlt (by simp [Value.ownBlock])
        refine Or.inr ⟨g', ?_, rfl⟩
        obtain ⟨v2, w2, hr2, ho2, -⟩ := run_append_own (P := P) w w.heap.size T ty e i z 1 bytes hT.und hi hz0 hz1 hz2 hT.one (by decide) _ 0 [] (World.ownsRow_nil w w.heap.size e 1) ⟨b2, o2, none⟩ (y0 :: yr).length c (y0 :: yr) (by simp) hn h1 (by simpa using hmx) (by simpa using hbb) (Nat.le_refl _)
        rw [hr] at hr2
        cases hr2
        exact (ho2.lt g' rfl).1
      · exact Or.inr ⟨g', hge, rfl⟩
    · by_cases hroom : xs.length + (y0 :: yr).length ≤ cap
      · have hcp : 0 < cap := by simp at hroom; omega
        obtain rfl := ha hcp
        have hcs : ∀ j, j < (y0 :: yr).length → (w.cell? ⟨g, o + xs.length * 1 + j, none⟩).isSome = true := fun j hj => by
          have := (hs (xs.length + j) (by omega)).1
          rwa [show o + (xs.length + j) = o + xs.length * 1 + j by omega] at this
        have hfs : ∀ j, j < (y0 :: yr).length → w.frozen? ⟨g, o + xs.length * 1 + j, none⟩ = false := fun j hj => by
          have := (hs (xs.length + j) (by omega)).2
          rwa [show o + (xs.length + j) = o + xs.length * 1 + j by omega] at this
        have hr := run_append_room_cells (P := P) w T ty e i hT.und hi g o xs.length cap ⟨b2, o2, none⟩ (y0 :: yr).length c (y0 :: yr) (by rw [hz1]; omega) hn h1 hroom (by rw [hz1]; exact hcs) (by rw [hz1]; exact hfs)
        rw [hz1] at hr
        have hgb := grownBy_setCells g (y0 :: yr) (o + xs.length * 1) w
        have hxl : (xs ++ y0 :: yr).length = xs.length + (y0 :: yr).length := List.length_append
        have hin := World.cell?_setCells_in g (y0 :: yr) (o + xs.length * 1) w hcs
        refine ⟨_, _, hr, Or.inr ⟨⟨g, o, none⟩, g, o, cap, by rw [hxl], rfl, fun _ => rfl, hb', Nat.lt_of_lt_of_le hlt hgb.size, by omega, hcm, fun j hj => ⟨?_, by rw [World.frozen?_setCells]; exact (hs j hj).2⟩, fun j u hj => ?_⟩, hgb, Or.inl rfl⟩
        · by_cases hj1 : j < xs.length
          · rw [World.cell?_setCells_out _ _ _ _ _ (fun _ _ => Or.inl (by simp; omega))]
            exact (hs j hj).1
          · by_cases hj2 : j < xs.length + (y0 :: yr).length
            · have := hin (j - xs.length) (by omega)
              rw [show o + xs.length * 1 + (j - xs.length) = o + j by omega] at this
              rw [this]; rfl
            · rw [World.cell?_setCells_out _ _ _ _ _ (fun _ _ => Or.inr (by simp at hj2 ⊢; omega))]
              exact (hs j hj).1
        · by_cases hj1 : j < xs.length
          · rw [List.getElem?_append_left hj1] at hj
            rw [World.cell?_setCells_out _ _ _ _ _ (fun _ _ => Or.inl (by simp; omega))]
            exact hc j u hj
          · rw [List.getElem?_append_right (by omega)] at hj
            obtain ⟨hj2, rfl⟩ := List.getElem?_eq_some_iff.1 hj
            have := hin (j - xs.length) hj2
            rw [show o + xs.length * 1 + (j - xs.length) = o + j by omega] at this
            exact this
      · have hold : ∀ j u, xs[j]? = some u → w.cell? (ad.add j) = some u := fun j u hj => by
          have hjl := (List.getElem?_eq_some_iff.1 hj).1
          rw [ha (by omega), Addr.add_lit]
          exact hc j u hj
        obtain ⟨v', w', hr, ho, hgr⟩ := run_append_arg_grows (P := P) w T ty e i z 1 bytes hT.und hi hz0 hz1 hz2 hT.one (by decide) ad xs.length cap xs (by omega) hold ⟨b2, o2, none⟩ (y0 :: yr).length c (y0 :: yr) (by omega) hn (by omega) hmx hbb
        refine ⟨v', w', hr, OwnQ.of_row (ownsRow_base ho hb), ⟨hgr.os, hgr.tape, hgr.output, hgr.size, fun k hk _ => hgr.block k hk (by simp)⟩, ?_⟩
        obtain ⟨g', cap', rfl⟩ := ownsRow_some ho (by simp; omega)
        exact Or.inr ⟨g', (ho.lt g' rfl).1, rfl⟩
theorem wpList_appQ {P : Program} (w : World) {ops : Array Oper} {rest : List Oper} {o : Oper} {a : Act} {Q : Exit → Act → World → Prop}
    (hg : o.guard = none) (s x : Operand) (T : TypeId) (hop : o.op = Op.call { callee := Callee.builtin Builtin.append, args := #[s, x], argTypes := #[T, T] })
    {e : TypeId} {z : Value} {bytes : Nat} (hT : SliceTy P T e z bytes) (base : Nat) (v u : Value) (xs ys : List Value) (hs : a.eval s = v) (hown : OwnQ w base v xs) (hx : a.eval x = u) (hr : Reads w u ys) (h1 : ∀ u ∈ ys, u.oneCell' = true)
    (hby : bytes ≤ 128) (hlen : xs.length + ys.length ≤ 1000000000) (hbase : base ≤ w.heap.size)
    (h : ∀ v' w', OwnQ w' base v' (xs ++ ys) → w.grownBy w' v.ownBlock → (v'.ownBlock = v.ownBlock ∨ ∃ b0, w.heap.size ≤ b0 ∧ v'.ownBlock = some b0) → wpList P ops Q rest (a.put o.dst v') w') :
    wpList P ops Q (o :: rest) a w := by
  obtain ⟨v', w', hrun, h2, h3, h4⟩ := OwnQ.app hT o.type hown hbase hr h1 hby hlen
  refine wpList_plain hg fun K hK => ?_
  unfold Oper.wp
  simp [execOp, hop, resolve, invoke, builtin, hs, hx, hrun, Result.andThen]
  exact hK _ _ (h v' w' h2 h3 h4)
end Go.Kf
namespace Go.Proofs.YtgjialbmlhbngaaGreatDoor
inductive Reach (E : Nat → List Nat) (ks : List Nat) : Nat → Prop
  | base {k : Nat} : k ∈ ks → Reach E ks k
  | step {i k : Nat} : Reach E ks i → k ∈ E i → Reach E ks k
theorem Reach.lt {E : Nat → List Nat} {n : Nat} {ks : List Nat} (hE : ∀ i, ∀ k ∈ E i, k < n) (hk : ∀ k ∈ ks, k < n) {k : Nat} (h : Reach E ks k) : k < n := by
  cases h with
  | base h => exact hk _ h
  | step _ h => exact hE _ _ h
theorem nodup_le : ∀ (n : Nat) (N : List Nat), N.Nodup → (∀ k ∈ N, k < n) → N.length ≤ n
  | 0, N, _, h => by
    cases N with
    | nil => simp
    | cons k N => exact absurd (h k List.mem_cons_self) (by omega)
  | n + 1, N, hn, h => by
    by_cases hm : n ∈ N
    · have h1 := nodup_le n (N.erase n) (hn.erase n) (fun k hk => by
        have := (hn.mem_erase_iff).1 hk
        have := h k this.2
        omega)
      rw [List.length_erase_of_mem hm] at h1
      omega
    · have h1 := nodup_le n N hn (fun k hk => by
        have h2 := h k hk
        have : k ≠ n := fun e => hm (e ▸ hk)
        omega)
      omega
structure Bfs (E : Nat → List Nat) (ks N todo : List Nat) : Prop where
  nd : N.Nodup
  done : ∀ k ∈ N, Reach E ks k
  left : ∀ k ∈ todo, Reach E ks k
  start : ∀ k ∈ ks, k ∈ N ∨ k ∈ todo
  shut : ∀ k ∈ N, ∀ j ∈ E k, j ∈ N ∨ j ∈ todo
theorem Bfs.zero (E : Nat → List Nat) (ks : List Nat) : Bfs E ks [] ks :=
  ⟨List.nodup_nil, fun k h => (by cases h), fun k h => .base h, fun k h => Or.inr h, fun k h => (by cases h)⟩
theorem Bfs.skip {E : Nat → List Nat} {ks N t : List Nat} {k : Nat} (h : Bfs E ks N (k :: t)) (hk : k ∈ N) : Bfs E ks N t := by
  have key : ∀ j, j ∈ N ∨ j ∈ k :: t → j ∈ N ∨ j ∈ t := fun j hj => by
    rcases hj with hj | hj
    · exact Or.inl hj
    · rcases List.mem_cons.1 hj with rfl | hj
      · exact Or.inl hk
      · exact Or.inr hj
  exact ⟨h.nd, h.done, fun j hj => h.left j (List.mem_cons_of_mem _ hj), fun j hj => key j (h.start j hj), fun i hi j hj => key j (h.shut i hi j hj)⟩
theorem Bfs.add {E : Nat → List Nat} {ks N t : List Nat} {k : Nat} (h : Bfs E ks N (k :: t)) (hk : k ∉ N) : Bfs E ks (N ++ [k]) (t ++ E k) := by
  have hr := h.left k List.mem_cons_self
  have key : ∀ j, j ∈ N ∨ j ∈ k :: t → j ∈ N ++ [k] ∨ j ∈ t ++ E k := fun j hj => by
    rcases hj with hj | hj
    · exact Or.inl (List.mem_append_left _ hj)
    · rcases List.mem_cons.1 hj with rfl | hj
      · exact Or.inl (List.mem_append_right _ List.mem_cons_self)
      · exact Or.inr (List.mem_append_left _ hj)
  refine ⟨?_, fun j hj => ?_, fun j hj => ?_, fun j hj => key j (h.start j hj), fun i hi j hj => ?_⟩
  · rw [List.nodup_append]
    refine ⟨h.nd, by simp, fun a ha b hb e => ?_⟩
    obtain rfl := List.mem_singleton.1 hb
    exact hk (e ▸ ha)
  · rcases List.mem_append.1 hj with hj | hj
    · exact h.done j hj
    · obtain rfl := List.mem_singleton.1 hj
      exact hr
  · rcases List.mem_append.1 hj with hj | hj
    · exact h.left j (List.mem_cons_of_mem _ hj)
    · exact .step hr hj
  · rcases List.mem_append.1 hi with hi | hi
    · exact key j (h.shut i hi j hj)
    · obtain rfl := List.mem_singleton.1 hi
      exact Or.inr (List.mem_append_right _ hj)
theorem Bfs.stop {E : Nat → List Nat} {ks N : List Nat} (h : Bfs E ks N []) (k : Nat) : k ∈ N ↔ Reach E ks k := by
  refine ⟨h.done k, fun hr => ?_⟩
  induction hr with
  | base hk =>
    rcases h.start _ hk with h1 | h1
    · exact h1
    · cases h1
  | step _ hk ih =>
    rcases h.shut _ ih _ hk with h1 | h1
    · exact h1
    · cases h1
theorem Bfs.room {E : Nat → List Nat} {n : Nat} {ks N todo : List Nat} (h : Bfs E ks N todo) (hE : ∀ i, ∀ k ∈ E i, k < n) (hk : ∀ k ∈ ks, k < n) : N.length ≤ n :=
  nodup_le n N h.nd (fun k hm => (h.done k hm).lt hE hk)
def bfsM (n a b : Nat) : Nat := (n - a) * (n + 1) + b
theorem bfsM_skip (n a b : Nat) : bfsM n a b < bfsM n a (b + 1) := by unfold bfsM; omega
theorem bfsM_add {n a b c : Nat} (ha : a + 1 ≤ n) (hc : c ≤ n) : bfsM n (a + 1) (b + c) < bfsM n a (b + 1) := by
  unfold bfsM
  obtain ⟨d, rfl⟩ : ∃ d, n = d + (a + 1) := ⟨n - (a + 1), by omega⟩
  rw [show d + (a + 1) - (a + 1) = d by omega, show d + (a + 1) - a = d + 1 by omega, Nat.succ_mul]
  omega
def needL (n : Nat) (N : List Nat) : List Nat := (List.range n).filter fun i => N.contains i
theorem mem_needL {n : Nat} {N : List Nat} {k : Nat} (h : ∀ k ∈ N, k < n) : k ∈ needL n N ↔ k ∈ N := by
  unfold needL
  rw [List.mem_filter, List.mem_range, List.contains_iff_mem]
  exact ⟨fun h => h.2, fun hk => ⟨h k hk, hk⟩⟩
theorem needL_len (n : Nat) (N : List Nat) : (needL n N).length ≤ n := by
  unfold needL
  exact Nat.le_trans (List.length_filter_le _ _) (by simp)
end Go.Proofs.YtgjialbmlhbngaaGreatDoor
namespace Go.Proofs.YtgjialbmlhbngaaGreatDoor
open Go Go.RowKit Go.Kf Go.Sort Go.Proofs
def looseB (outs ins : List (List UInt8)) : List (List UInt8) := ins.filter fun s => !outs.contains s
theorem looseB_snoc (outs ins : List (List UInt8)) (s : List UInt8) : looseB outs (ins ++ [s]) = looseB outs ins ++ if outs.contains s then [] else [s] := by
  unfold looseB
  rw [List.filter_append]
  congr 1
  by_cases h : s ∈ outs
  · simp [h]
  · simp [h]
def looseAll (outs : List (List UInt8)) (l : List RuleL) : List (List UInt8) := (l.map fun r => looseB outs r.ins).flatten
theorem looseAll_snoc (outs : List (List UInt8)) (l : List RuleL) (r : RuleL) : looseAll outs (l ++ [r]) = looseAll outs l ++ looseB outs r.ins := by simp [looseAll]
theorem loose_len (outs : List (List UInt8)) : ∀ {l : List RuleL}, (∀ r ∈ l, r.ins.length ≤ 1000) → (looseAll outs l).length ≤ 1000 * l.length
  | [], _ => by simp [looseAll]
  | r :: l, h => by
    have h1 := h r List.mem_cons_self
    have ih := loose_len outs (l := l) (fun q hq => h q (List.mem_cons_of_mem _ hq))
    have h2 : (looseB outs r.ins).length ≤ r.ins.length := List.length_filter_le _ _
    unfold looseAll at ih ⊢
    simp only [List.map_cons, List.flatten_cons, List.length_append, List.length_cons]
    omega
def leavesB (l : List RuleL) : List (List UInt8) := Lib.compact (sortB (looseAll (l.map RuleL.out) l))
theorem leaves_len {l : List RuleL} (h : ∀ r ∈ l, r.ins.length ≤ 1000) : (leavesB l).length ≤ 1000 * l.length := by
  refine Nat.le_trans (Lib.compact_length_le _) ?_
  rw [(sortB_perm _).length_eq]
  exact loose_len _ h
theorem nodup_sub {α : Type} [DecidableEq α] : ∀ (l m : List α), l.Nodup → (∀ x ∈ l, x ∈ m) → l.length ≤ m.length
  | [], m, _, _ => by simp
  | x :: l, m, hn, h => by
    have hx := h x List.mem_cons_self
    obtain ⟨h1, h2⟩ := List.nodup_cons.1 hn
    have ih := nodup_sub l (m.erase x) h2 (fun y hy => (List.mem_erase_of_ne (fun (e : y = x) => h1 (e ▸ hy))).2 (h y (List.mem_cons_of_mem _ hy)))
    rw [List.length_erase_of_mem hx] at ih
    have := List.length_pos_of_mem hx
    simp only [List.length_cons]
    omega
theorem nodup_at {α : Type} {l : List α} (h : l.Nodup) {a b : Nat} {ha : a < l.length} {hb : b < l.length} (e : l[a] = l[b]) : a = b := by
  have := List.pairwise_iff_getElem.1 h
  rcases Nat.lt_trichotomy a b with h1 | h1 | h1
  · exact absurd e (this a b ha hb h1)
  · exact h1
  · exact absurd e.symm (this b a hb ha h1)
structure Outs (E : Nat → List Nat) (isB : Nat → Bool) (n : Nat) (out : List Nat) : Prop where
  nd : out.Nodup
  lt : ∀ k ∈ out, k < n ∧ isB k = true
  back : ∀ i (h : i < out.length), ∀ j ∈ E out[i], j ∈ out.take i
theorem candB_iff {E : Nat → List Nat} {isB : Nat → Bool} {out : List Nat} {i : Nat} : candB E isB out i = true ↔ isB i = true ∧ i ∉ out ∧ ∀ j ∈ E i, j ∈ out := by
  unfold candB
  rw [Bool.and_eq_true, Bool.and_eq_true, Bool.not_eq_true', Bool.not_eq_true', List.any_eq_false]
  constructor
  · rintro ⟨h1, h2, h3⟩
    refine ⟨h1, fun h => ?_, fun j hj => ?_⟩
    · rw [List.contains_iff_mem.2 h] at h2
      cases h2
    · have := h3 j hj
      simpa using this
  · rintro ⟨h1, h2, h3⟩
    refine ⟨h1, ?_, fun j hj => ?_⟩
    · exact Bool.eq_false_iff.2 (fun h => h2 (List.contains_iff_mem.1 h))
    · simpa using h3 j hj
theorem Outs.add {E : Nat → List Nat} {isB : Nat → Bool} {n : Nat} {out : List Nat} (h : Outs E isB n out) {k : Nat} (hk : k < n) (hc : candB E isB out k = true) : Outs E isB n (out ++ [k]) := by
  obtain ⟨h1, h2, h3⟩ := candB_iff.1 hc
  refine ⟨?_, fun j hj => ?_, fun i hi j hj => ?_⟩
  · rw [List.nodup_append]
    refine ⟨h.nd, by simp, fun a ha b hb e => ?_⟩
    obtain rfl := List.mem_singleton.1 hb
    exact h2 (e ▸ ha)
  · rcases List.mem_append.1 hj with hj | hj
    · exact h.lt j hj
    · obtain rfl := List.mem_singleton.1 hj
      exact ⟨hk, h1⟩
  · rw [List.length_append] at hi
    by_cases hil : i < out.length
    · rw [List.getElem_append_left hil] at hj
      rw [List.take_append_of_le_length (by omega)]
      exact h.back i hil j hj
    · obtain rfl : i = out.length := by simp at hi; omega
      rw [List.getElem_append_right (Nat.le_refl _)] at hj
      simp at hj
      rw [List.take_append_of_le_length (Nat.le_refl _), List.take_length]
      exact h3 j hj
theorem orderGo_outs {E : Nat → List Nat} {isB : Nat → Bool} {n : Nat} : ∀ (f : Nat) (out : List Nat), Outs E isB n out →
    (∀ o, orderGo E isB n f out = some o → Outs E isB n o ∧ o.length = out.length + f) ∧
    (orderGo E isB n f out = none → ∃ o, Outs E isB n o ∧ o.length < out.length + f ∧ ∀ i, i < n → candB E isB o i = false)
  | 0, out, h => ⟨fun o ho => by
      simp only [orderGo, Option.some.injEq] at ho
      subst ho
      exact ⟨h, rfl⟩, fun ho => by simp [orderGo] at ho⟩
  | f + 1, out, h => by
    cases hn : nextB E isB n out with
    | none =>
      rw [orderGo_none hn]
      refine ⟨fun o ho => (by cases ho), fun _ => ⟨out, h, by omega, fun i hi => ?_⟩⟩
      unfold nextB at hn
      have := List.find?_eq_none.1 hn i (List.mem_range.2 hi)
      simpa using this
    | some k =>
      obtain ⟨h1, h2⟩ := nextB_some hn
      rw [orderGo_some hn]
      have ih := orderGo_outs f (out ++ [k]) (h.add h1 h2)
      rw [List.length_append, List.length_singleton] at ih
      refine ⟨fun o ho => ?_, fun ho => ?_⟩
      · obtain ⟨h3, h4⟩ := ih.1 o ho
        exact ⟨h3, by omega⟩
      · obtain ⟨o, h3, h4, h5⟩ := ih.2 ho
        exact ⟨o, h3, by omega, h5⟩
theorem many_all (n : Nat) : manyB (fun _ => true) n = n := by
  unfold manyB
  rw [List.filter_eq_self.2 (fun _ _ => rfl), List.length_range]
theorem outs_nil (E : Nat → List Nat) (isB : Nat → Bool) (n : Nat) : Outs E isB n [] := ⟨List.nodup_nil, fun k h => (by cases h), fun i h => absurd h (by simp)⟩
theorem order_some {E : Nat → List Nat} {n : Nat} {o : List Nat} (h : orderB E (fun _ => true) n = some o) : Outs E (fun _ => true) n o ∧ o.length = n := by
  unfold orderB at h
  rw [many_all] at h
  have := (orderGo_outs n [] (outs_nil E _ n)).1 o h
  simpa using this
def SheetBad (S : Nat → Addr) (l : List RuleL) (B : Nat) (err : Value) (w' : World) : Prop :=
  (40 < l.length ∧ err = errI (S 1)) ∨
  (l.length ≤ 40 ∧ ∃ i r m g, (∀ j q, j < i → l[j]? = some q → errAt l j q = 0) ∧ l[i]? = some r ∧ errAt l i r = m + 1 ∧ err = .iface 220 (.pointer (some ⟨g, 0, none⟩)) ∧ B ≤ g ∧ w'.heap[g]? = some (.cells #[.int .i64 (i : Int), errI (S m)] 222 (0, 0)))
def RightS (l : List RuleL) : Prop := l.length ≤ 40 ∧ Right l
theorem sheet_split {S : Nat → Addr} {l : List RuleL} {B : Nat} {e : Ending} {w' : World} (h : SheetAns S l B e w') : (RightS l ∧ e = .returned .nilIface) ∨ ∃ T x, e = .returned (.iface T x) ∧ SheetBad S l B (.iface T x) w' := by
  rcases h with ⟨h1, h2, rfl⟩ | ⟨h1, rfl⟩ | ⟨h0, i, r, m, g, h1, h2, h3, rfl, h5, h6⟩
  · exact Or.inl ⟨⟨h1, h2⟩, rfl⟩
  · exact Or.inr ⟨_, _, rfl, Or.inl ⟨h1, rfl⟩⟩
  · exact Or.inr ⟨_, _, rfl, Or.inr ⟨h0, i, r, m, g, h1, h2, h3, rfl, h5, h6⟩⟩
theorem SheetBad.wrong {S : Nat → Addr} {l : List RuleL} {B : Nat} {err : Value} {w' : World} (h : SheetBad S l B err w') : ¬ RightS l := fun hr => by
  rcases h with ⟨h1, -⟩ | ⟨-, i, r, m, g, -, h2, h3, -⟩
  · have := hr.1; omega
  · have := hr.2 i r h2
    omega
theorem idxR_cases (p : RV → Bool) (R : List RV) : (∃ k, ∃ h : k < R.length, idxR p R = (k : Int) ∧ p R[k] = true) ∨ (idxR p R = -1 ∧ ∀ x ∈ R, p x = false) := by
  unfold idxR
  by_cases h : R.findIdx p < R.length
  · exact Or.inl ⟨_, h, by rw [if_pos h], List.findIdx_getElem⟩
  · refine Or.inr ⟨by rw [if_neg h], fun x hx => Bool.eq_false_iff.2 (fun hp => h (List.findIdx_lt_length.2 ⟨x, hx, hp⟩))⟩
def PlacesAt (l : List RuleL) (outs : List (List UInt8)) (ks : List Nat) : Prop := (∀ k ∈ ks, k < l.length) ∧ ks.map (fun k => (l.getD k noR).out) = outs
theorem PlacesAt.nil (l : List RuleL) : PlacesAt l [] [] := ⟨fun k h => (by cases h), rfl⟩
theorem PlacesAt.snoc {l : List RuleL} {outs : List (List UInt8)} {ks : List Nat} {k : Nat} {s : List UInt8} (h : PlacesAt l outs ks) (hk : k < l.length) (he : l[k].out = s) : PlacesAt l (outs ++ [s]) (ks ++ [k]) := by
  refine ⟨fun j hj => ?_, ?_⟩
  · rcases List.mem_append.1 hj with hj | hj
    · exact h.1 j hj
    · obtain rfl := List.mem_singleton.1 hj
      exact hk
  · rw [List.map_append, h.2, List.map_singleton, List.getD_eq_getElem?_getD, List.getElem?_eq_getElem hk, Option.getD_some, he]
theorem PlacesAt.len {l : List RuleL} {outs : List (List UInt8)} {ks : List Nat} (h : PlacesAt l outs ks) : ks.length = outs.length := by
  rw [← h.2, List.length_map]
theorem PlacesAt.mem {l : List RuleL} {outs : List (List UInt8)} {ks : List Nat} (h : PlacesAt l outs ks) (hr : Right l) {k : Nat} (hk : k < l.length) : k ∈ ks ↔ l[k].out ∈ outs := by
  rw [← h.2, List.mem_map]
  constructor
  · intro hm
    exact ⟨k, hm, by rw [List.getD_eq_getElem?_getD, List.getElem?_eq_getElem hk]; rfl⟩
  · rintro ⟨j, hj, e⟩
    have hj2 := h.1 j hj
    rw [List.getD_eq_getElem?_getD, List.getElem?_eq_getElem hj2, Option.getD_some] at e
    have := hr.outs hj2 hk e
    exact this ▸ hj
def needM (N : List Nat) : List (Int × Bool) := N.map fun (k : Nat) => ((k : Int), true)
theorem needM_look (N : List Nat) (k : Nat) : mlook (k : Int) (needM N) = if k ∈ N then some true else none := by
  induction N with
  | nil => rfl
  | cons a N ih =>
    unfold needM at ih ⊢
    rw [List.map_cons]
    unfold mlook
    by_cases h : a = k
    · subst h
      simp
    · have h1 : ¬ (a : Int) = (k : Int) := by omega
      have h2 : ¬ k = a := fun e => h e.symm
      simp only [h1, if_false, List.mem_cons, h2, false_or]
      exact ih
theorem needM_upd {N : List Nat} {k : Nat} (h : k ∉ N) : mupd (k : Int) true (needM N) = needM (N ++ [k]) := by
  have h1 : mplace (k : Int) (needM N) = none := by
    have h2 := mlook_isSome_place (k : Int) (needM N)
    rw [needM_look, if_neg h] at h2
    cases hp : mplace (k : Int) (needM N) with
    | none => rfl
    | some j => rw [hp] at h2; cases h2
  rw [mupd_none h1]
  simp [needM]
def mapLen (w : World) (b : Nat) : Nat := match w.heap[b]? with
  | some (.map es _) => es.size
  | _ => 0
theorem mapLen_is {κ α : Type} {ek : κ → Value} {ev : α → Value} {w : World} {b : Nat} {l : List (κ × α)} (h : MapIs ek ev w b l) : mapLen w b = l.length := by
  obtain ⟨es, clock, h1, h2, -⟩ := h
  unfold mapLen
  rw [h1]
  have := congrArg List.length h2
  simpa using this
theorem needUnd : Tryz.prog.underlying 217 = some (.map 3 4) := Tryz.underlying217
theorem needKey : KeyBy Tryz.prog 3 (Value.int .i64) := KeyBy.int Tryz.underlying3
theorem needZero (w : World) : (zeroValue 4).run Tryz.prog w = .ok (.bool false) w := by kernel_rfl
theorem need_step {w : World} {b : Nat} {N : List Nat} (h : MapIs (Value.int .i64) Value.bool w b (needM N)) {k : Nat} (hk : k ∉ N) :
    ∃ W, (Instr.mapUpdate 217 (.map (some b)) (.int .i64 (k : Int)) (.bool true)).run Tryz.prog w = .ok () W ∧ MapIs (Value.int .i64) Value.bool W b (needM (N ++ [k])) ∧ Fr w.heap.size (fun q => q = b) w W ∧ W.heap.size = w.heap.size := by
  obtain ⟨es, c, h1, h2⟩ := MapIs.update needKey needUnd h (k : Int) true
  rw [needM_upd hk] at h2
  exact ⟨_, h1, h2, Fr.putMap (S := fun q => q = b) (.refl _ _ _) (fun _ => rfl) _ _, by simp [Kf.putMap]⟩
theorem needL_snoc (N : List Nat) (i : Nat) : needL (i + 1) N = needL i N ++ if N.contains i then [i] else [] := by
  unfold needL
  rw [List.range_succ, List.filter_append]
  congr 1
  by_cases h : i ∈ N
  · simp [h]
  · simp [h]
theorem edges_lt (l : List RuleL) (i : Nat) : ∀ k ∈ edgesB l i, k < l.length := fun _ hk => List.mem_range.1 (List.mem_filter.1 hk).1
theorem edges_len (l : List RuleL) (i : Nat) : (edgesB l i).length ≤ l.length := by
  unfold edgesB
  exact Nat.le_trans (List.length_filter_le _ _) (by simp)
theorem needs1_any (x : RV) (B : Nat) (s : List UInt8) (W : World) (hc : W.cell? ⟨B, 0, none⟩ = some (str s)) :
    Calls Tryz.prog 150 #[rvAgg x, .pointer (some ⟨B, 0, none⟩)] W fun e w' => e = .returned (.bool (x.1.out == s)) ∧ Below W.heap.size W w' := by
  obtain ⟨⟨x0, x1, x2, x4⟩, x3⟩ := x
  simp only
  obtain ⟨W0, hW0⟩ : ∃ W0, W.alloc (.cells #[str x0, str x1, str x2, x3] 35) = W0 := ⟨_, rfl⟩
  have hA : Below W.heap.size W W0 := hW0 ▸ (Below.refl _ W).alloc (Nat.le_refl _) _
  have h0 : W0.cell? ⟨W.heap.size, 0, none⟩ = some (str x0) := by rw [← hW0, cell_of_heap (heap_alloc_here W _)]; rfl
  have h1 := (hA.cell (p := ⟨B, 0, none⟩) (lt_of_cell hc)).trans hc
  have HA := Hd hA
  obtain ⟨b, hb⟩ : ∃ b, (x0 == s) = b := ⟨_, rfl⟩
  rw [hb]
  clear hc hA
  go_enter Tryz.func150, Tryz.ntmps150
  go_wp2
  go_ret
  exact ⟨rfl, HA.out⟩
theorem leaves1_any (x : RV) (B : Nat) (s : List UInt8) (W : World) (hc : W.cell? ⟨B, 0, none⟩ = some (str s)) :
    Calls Tryz.prog 243 #[rvAgg x, .pointer (some ⟨B, 0, none⟩)] W fun e w' => e = .returned (.bool (x.1.out == s)) ∧ Below W.heap.size W w' := by
  obtain ⟨⟨x0, x1, x2, x4⟩, x3⟩ := x
  simp only
  obtain ⟨W0, hW0⟩ : ∃ W0, W.alloc (.cells #[str x0, str x1, str x2, x3] 35) = W0 := ⟨_, rfl⟩
  have hA : Below W.heap.size W W0 := hW0 ▸ (Below.refl _ W).alloc (Nat.le_refl _) _
  have h0 : W0.cell? ⟨W.heap.size, 0, none⟩ = some (str x0) := by rw [← hW0, cell_of_heap (heap_alloc_here W _)]; rfl
  have h1 := (hA.cell (p := ⟨B, 0, none⟩) (lt_of_cell hc)).trans hc
  have HA := Hd hA
  obtain ⟨b, hb⟩ : ∃ b, (x0 == s) = b := ⟨_, rfl⟩
  rw [hb]
  clear hc hA
  go_enter Tryz.func243, Tryz.ntmps243
  go_wp2
  go_ret
  exact ⟨rfl, HA.out⟩
theorem any_outs (R : List RV) (s : List UInt8) : (R.any fun x => x.1.out == s) = ((R.map Prod.fst).map RuleL.out).contains s := by
  rw [Bool.eq_iff_iff, List.any_eq_true, List.contains_iff_mem, List.map_map, List.mem_map]
  constructor
  · rintro ⟨x, hx, e⟩
    exact ⟨x, hx, by simpa using e⟩
  · rintro ⟨x, hx, e⟩
    exact ⟨x, hx, by simpa using e⟩
def LeavesAns (S : Nat → Addr) (l : List RuleL) (B : Nat) (e : Ending) (w' : World) : Prop :=
  (RightS l ∧ ∃ u, e = .returned (.tuple #[u, .nilIface]) ∧ w'.ownsRow B 9 1 u (leavesB l).length ((leavesB l).map str)) ∨ ∃ T x, e = .returned (.tuple #[.slice none 0 0, .iface T x]) ∧ SheetBad S l B (.iface T x) w'
set_option maxHeartbeats 4000000 in
theorem gleaves_any (R : List RV) (v : Value) (w : World) (S : Nat → Addr) (hR : RulesAt w v R) (hcap : Roomy v) (hm : Ml w) (hE : KErr w S) (hN : NErr w) (ht : Tab w)
    (hb : ∀ x ∈ R, x.1.out.length ≤ 1000000 ∧ x.1.word.length ≤ 100000 ∧ (∀ s ∈ x.1.ins, s.length ≤ 1000000) ∧ x.1.ins.length ≤ 1000) (hn : R.length ≤ 100000) :
    Calls Tryz.prog 178 #[v] w fun e w' => LeavesAns S (R.map Prod.fst) w.heap.size e w' ∧ Below w.heap.size w w' := by
  obtain ⟨a, c, hv, -, -⟩ := id hR.1
  rw [List.length_map] at hv
  subst hv
  have KS := Hd (sheet_any R (.slice a R.length c) w S hR hcap hm hE hN ht hb hn)
  have HR := Hd hR
  have HB := Hd hb
  have hml : (R.map Prod.fst).length = R.length := List.length_map _
  have HML := Hd hml
  obtain ⟨OUTS, hOUTS⟩ : ∃ o, (R.map Prod.fst).map RuleL.out = o := ⟨_, rfl⟩
  have HOUTS := Hd hOUTS
  have HANY : Hid (∀ s, (R.any fun x => x.1.out == s) = OUTS.contains s) := Hd (fun s => by rw [any_outs, hOUTS])
  have HLN : Hid (∀ i, (looseAll OUTS ((R.map Prod.fst).take i)).length ≤ 1000 * R.length) := Hd (fun i => by
    refine Nat.le_trans (loose_len _ (fun r hr => ?_)) ?_
    · obtain ⟨x, hx, rfl⟩ := List.mem_map.1 (List.mem_of_mem_take hr)
      exact (hb x hx).2.2.2
    · rw [List.length_take, hml]
      exact Nat.mul_le_mul_left _ (by omega))
  clear hR hcap hm hE hN ht hb hml hOUTS
  go_enter Tryz.func178, Tryz.ntmps178
  go_wp2_with fail
  refine KS.out.mono ?_
  rintro e w1 ⟨hs, hb1⟩
  rcases sheet_split hs with ⟨hrs, rfl⟩ | ⟨T, x, rfl, hbad⟩
  case inr =>
    have HB1 := Hd hb1
    have HBAD := Hd hbad
    clear hs hb1 hbad
    go_wp2
    go_ret2
    exact ⟨Or.inr ⟨T, x, rfl, HBAD.out⟩, HB1.out⟩
  case inl =>
    have HRS := Hd hrs
    have h40 : R.length ≤ 40 := by have := hrs.1; rw [HML.out] at this; exact this
    have HB1 := Hd hb1
    have hz1 := hb1.size
    have HW : Hid (∀ wl, Below w1.heap.size w1 wl → Below w.heap.size w wl) := Hd (fun wl h => HB1.out.trans (h.mono HB1.out.size))
    clear hs hb1 hrs KS
    go_wp2_with fail
    go_loopw [5, 17] (fun ov iv wl => ∃ i : Nat, i ≤ R.length ∧ iv = .int .i64 i ∧ wl.ownsRow w1.heap.size 9 1 ov (looseAll OUTS ((R.map Prod.fst).take i)).length ((looseAll OUTS ((R.map Prod.fst).take i)).map str) ∧ Below w1.heap.size w1 wl) (fun _ iv _ => R.length - (intOf iv).toNat)
    case atStart => exact ⟨0, by omega, rfl, World.ownsRow_nil _ _ _ _, Below.refl _ _⟩
    case round =>
      obtain ⟨i, hi, rfl, hown, hbi⟩ := hrel
      have HOW := Hd hown
      have HBI := Hd hbi
      have hzi := hbi.size
      by_cases hlt : i < R.length
      · have hlc : ((i : Int) < (R.length : Int)) = True := eq_true (by omega)
        have hri2 := HR.out.below0 (HW.out _ hbi)
        obtain ⟨b, o, hix, -, hce⟩ := hri2.1.at (P := Tryz.prog) Tryz.underlying22 (by kernel_rfl) i (by simpa using hlt)
        simp only [List.getElem_map] at hce
        have hc0 := hce 0 _ rfl
        have hc1 := hce 1 _ rfl
        have hc2 := hce 2 _ rfl
        have hc3 := hce 3 _ rfl
        simp only [Nat.add_zero] at hc0
        have hin := List.getElem_mem hlt
        have hrv := (HR.out.2 _ hin).1
        have hil := (HB.out _ hin).2.2.2
        have HTK : Hid (∀ x, R[i] = x → looseAll OUTS ((R.map Prod.fst).take (i + 1)) = looseAll OUTS ((R.map Prod.fst).take i) ++ looseB OUTS x.1.ins) := Hd (fun x hx => by
          rw [List.take_succ_eq_append_getElem (by rw [HML.out]; exact hlt), looseAll_snoc, List.getElem_map, hx])
        clear hce hin hri2
        generalize hx : R[i] = x at *
        have HTK2 := Hd (HTK.out x rfl)
        clear hx HTK
        obtain ⟨r, u⟩ := x
        simp only at hc0 hc1 hc2 hc3 hrv hil HTK2
        obtain ⟨au, cu, hu, -, -⟩ := id hrv
        rw [List.length_map] at hu
        subst hu
        obtain ⟨W2, hW2⟩ : ∃ W2, wr.alloc (.cells #[str r.out, str r.kind, str r.word, .slice au r.ins.length cu] 35) = W2 := ⟨_, rfl⟩
        have hA : Below wr.heap.size wr W2 := hW2 ▸ (Below.refl _ wr).alloc (Nat.le_refl _) _
        have hq3 : W2.cell? ⟨wr.heap.size, 3, none⟩ = some (.slice au r.ins.length cu) := by rw [← hW2, cell_of_heap (heap_alloc_here wr _)]; rfl
        have hz2 : W2.heap.size = wr.heap.size + 1 := by rw [← hW2]; simp
        have HA := Hd hA
        have HU := Hd hrv
        have HO2 := Hd (ownsRow_fr (S := fun _ => False) hown (Fr.of_below hA) (fun k hk => ⟨(hown.lt k hk).2, id⟩))
        have HB2 := Hd (hbi.trans (hA.mono hzi))
        have hpl := HLN.out i
        clear hown hbi hrv hA
        go_wp2_with fail
        go_loopw [5, 24] (fun ov jv wl => ∃ k : Nat, k ≤ r.ins.length ∧ jv = .int .i64 k ∧ wl.ownsRow w1.heap.size 9 1 ov (looseAll OUTS ((R.map Prod.fst).take i) ++ looseB OUTS (r.ins.take k)).length ((looseAll OUTS ((R.map Prod.fst).take i) ++ looseB OUTS (r.ins.take k)).map str) ∧ Below w1.heap.size w1 wl) (fun _ jv _ => r.ins.length - (intOf jv).toNat)
        case atStart => exact ⟨0, by omega, rfl, by rw [List.take_zero, show looseB OUTS [] = [] from rfl, List.append_nil]; exact HO2.out, HB2.out⟩
        case round =>
          obtain ⟨k, hk, rfl, hown, hbk⟩ := hrel
          have HOK := Hd hown
          have HBK := Hd hbk
          have hzk := hbk.size
          by_cases hkl : k < r.ins.length
          · have hlc2 : ((k : Int) < (r.ins.length : Int)) = True := eq_true (by omega)
            obtain ⟨b2, o2, hix2, hce2⟩ := (HU.out.below0 (HW.out _ hbk)).at (P := Tryz.prog) Tryz.underlying33 (by kernel_rfl) k (by simpa using hkl)
            simp only [List.getElem_map] at hce2
            have HSN : Hid (looseB OUTS (r.ins.take (k + 1)) = looseB OUTS (r.ins.take k) ++ if OUTS.contains r.ins[k] then [] else [r.ins[k]]) := Hd (by rw [List.take_succ_eq_append_getElem hkl, looseB_snoc])
            generalize r.ins[k] = s at *
            obtain ⟨W4, hW4⟩ : ∃ W, wr.alloc (.cells #[str s] 9) = W := ⟨_, rfl⟩
            have hA4 : Below wr.heap.size wr W4 := hW4 ▸ (Below.refl _ wr).alloc (Nat.le_refl _) _
            have hq0 : W4.cell? ⟨wr.heap.size, 0, none⟩ = some (str s) := by rw [← hW4, cell_of_heap (heap_alloc_here wr _)]; rfl
            have hz4 : W4.heap.size = wr.heap.size + 1 := by rw [← hW4]; simp
            have hB4 : Below w1.heap.size w1 W4 := hbk.trans (hA4.mono hzk)
            have KA := anyRule_any (fun x => x.1.out == s) 243 (.pointer (some ⟨wr.heap.size, 0, none⟩)) (.slice a R.length c) R W4 (HR.out.below0 (HW.out _ hB4)).1
              ⟨fun _ _ => rfl, fun W x hW => leaves1_any x wr.heap.size s W ((hW.cell (p := ⟨wr.heap.size, 0, none⟩) (by simp; omega)).trans hq0)⟩
            rw [HANY.out] at KA
            have HB4 := Hd hB4
            have HA4 := Hd hA4
            have HQ0 := Hd hq0
            have hlk : (looseAll OUTS ((R.map Prod.fst).take i) ++ looseB OUTS (r.ins.take k)).length ≤ 1000000 := by
              have h1 : (looseB OUTS (r.ins.take k)).length ≤ (r.ins.take k).length := List.length_filter_le _ _
              rw [List.length_take] at h1
              rw [List.length_append]
              omega
            clear hown hbk hA4 hB4
            cases hco : OUTS.contains s with
            | true =>
              rw [hco] at KA HSN
              have KA1 := Hd KA
              simp only [if_true, List.append_nil] at HSN
              clear KA hco
              go_wp2_with fail
              refine KA1.out.mono ?_
              rintro e w5 ⟨rfl, hb5⟩
              have HF5 : Hid (Below wr.heap.size wr w5) := Hd (HA4.out.trans (hb5.mono (by omega)))
              clear hb5
              go_wp2
              go_roundw
              case rel => exact ⟨k + 1, by omega, by go_num, by rw [HSN.out]; exact ownsRow_fr (S := fun _ => False) HOK.out (Fr.of_below HF5.out) (fun k hk => ⟨(HOK.out.lt k hk).2, id⟩), HBK.out.trans (HF5.out.mono hzk)⟩
              case measure => simp [intOf]; omega
            | false =>
              rw [hco] at KA HSN
              have KA1 := Hd KA
              simp only [Bool.false_eq_true, if_false] at HSN
              clear KA hco
              go_wp2_with fail
              refine KA1.out.mono ?_
              rintro e w5 ⟨rfl, hb5⟩
              have hq5 : w5.cell? ⟨wr.heap.size, 0, none⟩ = some (str s) := (hb5.cell (p := ⟨wr.heap.size, 0, none⟩) (by simp; omega)).trans HQ0.out
              have HF5 : Hid (Below wr.heap.size wr w5) := Hd (HA4.out.trans (hb5.mono (by omega)))
              have hz5 := HF5.out.size
              have HO5 := Hd (ownsRow_fr (S := fun _ => False) HOK.out (Fr.of_below HF5.out) (fun k hk => ⟨(HOK.out.lt k hk).2, id⟩))
              clear hb5 hq0
              go_wp2_with (first
                | (at_builtin
                   refine wpList_app _ rfl _ _ 33 rfl tyStrsA w1.heap.size _ _ _ rfl (HO5.out.alloc _) ⟨w5.heap.size, 0, none⟩ 1 1 [str s] rfl rfl (news_one ?_) ?_ (by decide) ?_ ?_ ?_
                   · rw [cell_of_heap (heap_alloc_here w5 _)]; rfl
                   · intro u hu; simp at hu; subst hu; rfl
                   · omega
                   · simp; omega
                   intro v6 w6 ho6 hg6 hloc6
                   have HO6 : Hid (w6.ownsRow w1.heap.size 9 1 v6 (looseAll OUTS ((R.map Prod.fst).take i) ++ looseB OUTS (r.ins.take (k + 1))).length ((looseAll OUTS ((R.map Prod.fst).take i) ++ looseB OUTS (r.ins.take (k + 1))).map str)) := Hd (by
                     rw [HSN.out, ← List.append_assoc, List.length_append, List.map_append]
                     exact ho6)
                   have HG6 : Hid (∀ B, B ≤ w1.heap.size → Below B w5 w6) := Hd (fun B hB => ((Below.refl _ w5).alloc (by omega) _).grown hg6 (by simp; omega) (fun q hq => by have := (HO5.out.lt q hq).1; omega))
                   clear ho6 hg6 hloc6))
              go_wp2
              go_roundw
              case rel => exact ⟨k + 1, by omega, by go_num, HO6.out, (HBK.out.trans (HF5.out.mono hzk)).trans (HG6.out _ (Nat.le_refl _))⟩
              case measure => simp [intOf]; omega
          · obtain rfl : k = r.ins.length := by omega
            have hlc2 : ((r.ins.length : Int) < (r.ins.length : Int)) = False := eq_false (by omega)
            have hown2 := hown
            rw [List.take_length, ← HTK2.out] at hown2
            have HO9 := Hd hown2
            clear hown hbk hown2
            go_wp2
            go_roundw
            case rel => exact ⟨i + 1, by omega, by go_num, HO9.out, HBK.out⟩
            case measure => simp [intOf]; omega
      · obtain rfl : i = R.length := by omega
        have hlc : ((R.length : Int) < (R.length : Int)) = False := eq_false (by omega)
        have hown2 := hown
        rw [← HML.out, List.take_length] at hown2
        have hll : (looseAll OUTS (R.map Prod.fst)).length ≤ 1000 * R.length := by have h := HLN.out (R.map Prod.fst).length; rw [List.take_length] at h; exact h
        have KQ := Hd (sort_any u5 (looseAll OUTS (R.map Prod.fst)) w1.heap.size wr hown2 (by omega))
        have HLO := Hd hown2
        have HSL : Hid (∀ w2, w2.ownsRow w1.heap.size 9 1 u5 (sortB (looseAll OUTS (R.map Prod.fst))).length ((sortB (looseAll OUTS (R.map Prod.fst))).map str) → Calls Tryz.prog 244 #[u5] w2 fun e w' => ∃ v', e = .returned v' ∧ w'.ownsRow w1.heap.size 9 1 v' (leavesB (R.map Prod.fst)).length ((leavesB (R.map Prod.fst)).map str) ∧ w2.grownBy w' u5.ownBlock) := Hd (fun w2 h => by
          have h1 := compact_any u5 _ w1.heap.size w2 h (by rw [(sortB_perm _).length_eq]; omega)
          unfold leavesB
          rw [HOUTS.out]
          exact h1)
        clear hown hbi hown2
        go_wp2_with fail
        refine KQ.out.mono ?_
        rintro e w2 ⟨rfl, ho2, hg2⟩
        have HC := Hd (HSL.out w2 ho2)
        have HG2 := Hd (HBI.out.grown hg2 hzi (fun q hq => (HLO.out.lt q hq).1))
        have HLT := Hd (fun q hq => (ho2.lt q hq).1)
        clear ho2 hg2
        go_wp2_with fail
        refine HC.out.mono ?_
        rintro e w3 ⟨v3, rfl, ho3, hg3⟩
        have HO3 := Hd (ownsRow_base ho3 hz1)
        have HG3 := Hd (HW.out _ (HG2.out.grown hg3 HG2.out.size (fun q hq => HLT.out q hq)))
        clear ho3 hg3
        go_wp2
        go_ret2
        exact ⟨Or.inl ⟨HRS.out, _, rfl, HO3.out⟩, HG3.out⟩
end Go.Proofs.YtgjialbmlhbngaaGreatDoor
