/-
  A slice of the call's own that may be cut at its head: reads, tail, append.
-/
import Derived.Test.YtmlmogllgnfklaaGreatDoorOrderP
import Derived.ArgAppend
namespace Go.Kf
open Go Go.RowKit

/-- A slice (elements of one cell) of the call's own, cut at its head or not. -/
def OwnQ (w : World) (base : Nat) (v : Value) (xs : List Value) : Prop :=
  (v = .slice none 0 0 ∧ xs = []) ∨ ∃ ad g o cap, v = .slice (some ad) xs.length cap ∧ ad.block = g ∧ (0 < cap → ad = ⟨g, o, none⟩) ∧ base ≤ g ∧ g < w.heap.size ∧ xs.length ≤ cap ∧ cap ≤ maxLen ∧
    (∀ j, j < cap → (w.cell? ⟨g, o + j, none⟩).isSome = true ∧ w.frozen? ⟨g, o + j, none⟩ = false) ∧ ∀ j u, xs[j]? = some u → w.cell? ⟨g, o + j, none⟩ = some u
theorem OwnQ.nil (w : World) (base : Nat) : OwnQ w base (.slice none 0 0) [] := Or.inl ⟨rfl, rfl⟩
theorem OwnQ.reads {w : World} {base : Nat} {v : Value} {xs : List Value} (h : OwnQ w base v xs) : Reads w v xs := by
  rcases h with ⟨rfl, rfl⟩ | ⟨ad, g, o, cap, rfl, -, ha, -, -, hle, hcm, -, hc⟩
  · exact ⟨none, 0, rfl, by simp, fun i u hi => by simp at hi⟩
  · refine ⟨some ad, cap, rfl, by unfold maxLen at hcm; omega, fun i u hi => ⟨g, o, ?_, hc i u hi⟩⟩
    have := (List.getElem?_eq_some_iff.1 hi).1
    rw [ha (by omega)]
theorem OwnQ.lt {w : World} {base : Nat} {v : Value} {xs : List Value} (h : OwnQ w base v xs) : ∀ k, v.ownBlock = some k → base ≤ k ∧ k < w.heap.size := fun k hk => by
  rcases h with ⟨rfl, rfl⟩ | ⟨ad, g, o, cap, rfl, hg, -, hb, hlt, -⟩
  · cases hk
  · obtain rfl := Option.some.inj hk
    exact ⟨by omega, by omega⟩
theorem OwnQ.fr {w w' : World} {base B : Nat} {S : Nat → Prop} {v : Value} {xs : List Value} (h : OwnQ w base v xs) (hf : Fr B S w w') (hv : ∀ k, v.ownBlock = some k → k < B ∧ ¬ S k) : OwnQ w' base v xs := by
  rcases h with ⟨rfl, rfl⟩ | ⟨ad, g, o, cap, rfl, hg, ha, hb, hlt, hle, hcm, hs, hc⟩
  · exact OwnQ.nil _ _
  · obtain ⟨h1, h2⟩ := hv ad.block rfl
    rw [hg] at h1 h2
    refine Or.inr ⟨ad, g, o, cap, rfl, hg, ha, hb, Nat.lt_of_lt_of_le hlt hf.size, hle, hcm, fun j hj => ?_, fun j u hj => ?_⟩
    · rw [hf.cell (p := ⟨g, o + j, none⟩) h1 h2, hf.frozen (p := ⟨g, o + j, none⟩) h1 h2]
      exact hs j hj
    · exact (hf.cell (p := ⟨g, o + j, none⟩) h1 h2).trans (hc j u hj)
theorem OwnQ.below {w w' : World} {base : Nat} {v : Value} {xs : List Value} (h : OwnQ w base v xs) (hb : Below w.heap.size w w') : OwnQ w' base v xs :=
  h.fr (S := fun _ => False) (Fr.of_below hb) (fun k hk => ⟨(h.lt k hk).2, id⟩)
theorem OwnQ.of_row {w : World} {base n : Nat} {e : TypeId} {v : Value} {xs : List Value} (h : w.ownsRow base e 1 v n xs) : OwnQ w base v xs := by
  have hl := h.1
  rcases h.2 with ⟨rfl, rfl⟩ | ⟨g, cap, cur, rfl, hg, hh, hn, hcap, hsz, htake⟩
  · obtain rfl : xs = [] := List.length_eq_zero_iff.1 (by omega)
    exact OwnQ.nil _ _
  · refine Or.inr ⟨⟨g, 0, none⟩, g, 0, cap, by rw [show xs.length = n by omega], rfl, fun _ => rfl, hg, lt_of_heap hh, by omega, hcap, fun j hj => ⟨?_, ?_⟩, fun j u hj => ?_⟩
    · rw [cell_of_heap hh, Nat.zero_add, Array.getElem?_eq_getElem (by omega)]; rfl
    · simp [World.frozen?, hh]
    · have := h.cells rfl j u hj
      rw [Addr.add_lit] at this
      exact this
/-- Its tail, as the model cuts it. -/
theorem OwnQ.tail {w : World} {base n c : Nat} {a : Option Addr} {x : Value} {xs : List Value} (h : OwnQ w base (.slice a n c) (x :: xs)) : 1 ≤ c ∧ n = xs.length + 1 ∧ ∃ ad, a = some ad ∧ OwnQ w base (.slice (if c = 1 then some ad else some (ad.add 1)) xs.length (c - 1)) xs := by
  rcases h with ⟨-, h⟩ | ⟨ad, g, o, cap, e, hg, ha, hb, hlt, hle, hcm, hs, hc⟩
  · cases h
  · cases e
    rw [List.length_cons] at hle
    refine ⟨by omega, rfl, ad, rfl, Or.inr ?_⟩
    obtain rfl := ha (by omega)
    by_cases h1 : c = 1
    · rw [if_pos h1]
      exact ⟨_, g, o + 1, c - 1, rfl, hg, fun h => by omega, hb, hlt, by omega, by omega, fun j hj => by omega, fun j u hj => by
        have := (List.getElem?_eq_some_iff.1 hj).1
        omega⟩
    · rw [if_neg h1]
      refine ⟨_, g, o + 1, c - 1, rfl, by simp [Addr.add], fun _ => Addr.add_lit _ _ _, hb, hlt, by omega, by omega, fun j hj => ?_, fun j u hj => ?_⟩
      · rw [show o + 1 + j = o + (j + 1) by omega]
        exact hs (j + 1) (by omega)
      · rw [show o + 1 + j = o + (j + 1) by omega]
        exact hc (j + 1) u (by simpa using hj)
/-- The same, its address written out. -/
theorem OwnQ.tail2 {w : World} {base n c : Nat} {a : Option Addr} {x : Value} {xs : List Value} (h : OwnQ w base (.slice a n c) (x :: xs)) : 1 ≤ c ∧ ∃ g o, a = some ⟨g, o, none⟩ ∧ OwnQ w base (.slice (if c = 1 then some ⟨g, o, none⟩ else some ⟨g, o + 1, none⟩) xs.length (c - 1)) xs := by
  obtain ⟨h1, -, ad, rfl, hq⟩ := h.tail
  rcases h with ⟨-, h⟩ | ⟨ad', g, o, cap, e, hg, ha, -⟩
  · cases h
  · cases e
    obtain rfl := ha (by omega)
    exact ⟨h1, g, o, rfl, hq⟩
theorem grownBy_setCells (b : Nat) : ∀ (vs : List Value) (o : Nat) (w : World), w.grownBy (w.setCells b o vs) (some b)
  | [], _, w => ⟨rfl, rfl, rfl, Nat.le_refl _, fun _ _ _ => rfl⟩
  | v :: r, o, w => by
    have ih := grownBy_setCells b r (o + 1) (w.setCell ⟨b, o, none⟩ v)
    have hz : (w.setCell ⟨b, o, none⟩ v).heap.size = w.heap.size := by simp [World.setCell]
    refine ⟨ih.os, ih.tape, ih.output, by have := ih.size; rw [hz] at this; exact this, fun k hk hne => ?_⟩
    exact (ih.block k (by rw [hz]; exact hk) hne).trans (Below.heap_setCell _ _ _ _ (fun e => hne (congrArg some e)))
theorem OwnQ.app {P : Program} {T e : TypeId} {z : Value} {bytes : Nat} (hT : SliceTy P T e z bytes) (ty : TypeId) {w : World} {base : Nat} {v x : Value} {xs ys : List Value} (h : OwnQ w base v xs) (hb : base ≤ w.heap.size) (hx : Reads w x ys) (h1 : ∀ u ∈ ys, u.oneCell' = true) (hby : bytes ≤ 128) (hlen : xs.length + ys.length ≤ 1000000000) :
    ∃ v' w', (Builtin.append_ #[T, T] ty #[v, x]).run P w = .ok v' w' ∧ OwnQ w' base v' (xs ++ ys) ∧ w.grownBy w' v.ownBlock ∧ (v'.ownBlock = v.ownBlock ∨ ∃ b0, w.heap.size ≤ b0 ∧ v'.ownBlock = some b0) := by
  obtain ⟨i, hi, hz0, hz1, hz2⟩ := info_parts hT.info
  have hbb : (xs.length + ys.length) * bytes ≤ 140737488355328 := Nat.le_trans (Nat.mul_le_mul hlen hby) (by decide)
  have hmx : xs.length + ys.length ≤ maxLen := by unfold maxLen; omega
  obtain ⟨a, c, rfl, -, hcell⟩ := id hx
  cases ys with
  | nil =>
    have hf : (Builtin.firstCells i.size 0 (.slice a 0 c)).run P w = .ok #[] w := by
      cases a with
      | none => simp [Builtin.firstCells]
      | some a => exact run_firstCells_some (P := P) w i.size 0 a 0 c [] (by simp) (fun j u hj => by simp at hj)
    refine ⟨v, w, ?_, by rw [List.append_nil]; exact h, .refl _ _, Or.inl rfl⟩
    rcases h with ⟨rfl, rfl⟩ | ⟨ad, g, o, cap, rfl, hg, ha, hb, hlt, hle, hcm, hs, hc⟩
    · simp [Builtin.append_, run_underlying hT.und, sizeOf, typeInfo, hi, Builtin.lenOf, hf]
    · simp [Builtin.append_, run_underlying hT.und, sizeOf, typeInfo, hi, Builtin.lenOf, hf, hle, storeCells]
  | cons y0 yr =>
    obtain ⟨b2, o2, rfl, -⟩ := hcell 0 y0 rfl
    have hn : ∀ j u, (y0 :: yr)[j]? = some u → w.cell? ((⟨b2, o2, none⟩ : Addr).add j) = some u := fun j u hj => by
      obtain ⟨b, o, e, hc⟩ := hcell j u hj
      cases e
      rw [Addr.add_lit]
      exact hc
    rcases h with ⟨rfl, rfl⟩ | ⟨ad, g, o, cap, rfl, hg, ha, hb', hlt, hle, hcm, hs, hc⟩
    · obtain ⟨v', w', hr, ho, hgr, -⟩ := run_append_own (P := P) w base T ty e i z 1 bytes hT.und hi hz0 hz1 hz2 hT.one (by decide) _ 0 [] (World.ownsRow_nil w base e 1) ⟨b2, o2, none⟩ (y0 :: yr).length c (y0 :: yr) (by simp) hn h1 (by simpa using hmx) (by simpa using hbb) hb
      refine ⟨v', w', hr, OwnQ.of_row ho, hgr, ?_⟩
      obtain ⟨g', cap', rfl⟩ := ownsRow_some ho (by simp)
      rcases Nat.lt_or_ge g' w.heap.size with hlt | hge
      · have hb0 := hgr.block g' hlt (by simp [Value.ownBlock])
        refine Or.inr ⟨g', ?_, rfl⟩
        obtain ⟨v2, w2, hr2, ho2, -⟩ := run_append_own (P := P) w w.heap.size T ty e i z 1 bytes hT.und hi hz0 hz1 hz2 hT.one (by decide) _ 0 [] (World.ownsRow_nil w w.heap.size e 1) ⟨b2, o2, none⟩ (y0 :: yr).length c (y0 :: yr) (by simp) hn h1 (by simpa using hmx) (by simpa using hbb) (Nat.le_refl _)
        rw [hr] at hr2
        cases hr2
        exact (ho2.lt g' rfl).1
      · exact Or.inr ⟨g', hge, rfl⟩
    · by_cases hroom : xs.length + (y0 :: yr).length ≤ cap
      · have hcp : 0 < cap := by simp at hroom; omega
        obtain rfl := ha hcp
        have hcs : ∀ j, j < (y0 :: yr).length → (w.cell? ⟨g, o + xs.length * 1 + j, none⟩).isSome = true := fun j hj => by
          have := (hs (xs.length + j) (by omega)).1
          rwa [show o + (xs.length + j) = o + xs.length * 1 + j by omega] at this
        have hfs : ∀ j, j < (y0 :: yr).length → w.frozen? ⟨g, o + xs.length * 1 + j, none⟩ = false := fun j hj => by
          have := (hs (xs.length + j) (by omega)).2
          rwa [show o + (xs.length + j) = o + xs.length * 1 + j by omega] at this
        have hr := run_append_room_cells (P := P) w T ty e i hT.und hi g o xs.length cap ⟨b2, o2, none⟩ (y0 :: yr).length c (y0 :: yr) (by rw [hz1]; omega) hn h1 hroom (by rw [hz1]; exact hcs) (by rw [hz1]; exact hfs)
        rw [hz1] at hr
        have hgb := grownBy_setCells g (y0 :: yr) (o + xs.length * 1) w
        have hxl : (xs ++ y0 :: yr).length = xs.length + (y0 :: yr).length := List.length_append
        have hin := World.cell?_setCells_in g (y0 :: yr) (o + xs.length * 1) w hcs
        refine ⟨_, _, hr, Or.inr ⟨⟨g, o, none⟩, g, o, cap, by rw [hxl], rfl, fun _ => rfl, hb', Nat.lt_of_lt_of_le hlt hgb.size, by omega, hcm, fun j hj => ⟨?_, by rw [World.frozen?_setCells]; exact (hs j hj).2⟩, fun j u hj => ?_⟩, hgb, Or.inl rfl⟩
        · by_cases hj1 : j < xs.length
          · rw [World.cell?_setCells_out _ _ _ _ _ (fun _ _ => Or.inl (by simp; omega))]
            exact (hs j hj).1
          · by_cases hj2 : j < xs.length + (y0 :: yr).length
            · have := hin (j - xs.length) (by omega)
              rw [show o + xs.length * 1 + (j - xs.length) = o + j by omega] at this
              rw [this]; rfl
            · rw [World.cell?_setCells_out _ _ _ _ _ (fun _ _ => Or.inr (by simp at hj2 ⊢; omega))]
              exact (hs j hj).1
        · by_cases hj1 : j < xs.length
          · rw [List.getElem?_append_left hj1] at hj
            rw [World.cell?_setCells_out _ _ _ _ _ (fun _ _ => Or.inl (by simp; omega))]
            exact hc j u hj
          · rw [List.getElem?_append_right (by omega)] at hj
            obtain ⟨hj2, rfl⟩ := List.getElem?_eq_some_iff.1 hj
            have := hin (j - xs.length) hj2
            rw [show o + xs.length * 1 + (j - xs.length) = o + j by omega] at this
            exact this
      · have hold : ∀ j u, xs[j]? = some u → w.cell? (ad.add j) = some u := fun j u hj => by
          have hjl := (List.getElem?_eq_some_iff.1 hj).1
          rw [ha (by omega), Addr.add_lit]
          exact hc j u hj
        obtain ⟨v', w', hr, ho, hgr⟩ := run_append_arg_grows (P := P) w T ty e i z 1 bytes hT.und hi hz0 hz1 hz2 hT.one (by decide) ad xs.length cap xs (by omega) hold ⟨b2, o2, none⟩ (y0 :: yr).length c (y0 :: yr) (by omega) hn (by omega) hmx hbb
        refine ⟨v', w', hr, OwnQ.of_row (ownsRow_base ho hb), ⟨hgr.os, hgr.tape, hgr.output, hgr.size, fun k hk _ => hgr.block k hk (by simp)⟩, ?_⟩
        obtain ⟨g', cap', rfl⟩ := ownsRow_some ho (by simp; omega)
        exact Or.inr ⟨g', (ho.lt g' rfl).1, rfl⟩
/-- append in a region that goes by the text. -/
theorem wpList_appQ {P : Program} (w : World) {ops : Array Oper} {rest : List Oper} {o : Oper} {a : Act} {Q : Exit → Act → World → Prop}
    (hg : o.guard = none) (s x : Operand) (T : TypeId) (hop : o.op = Op.call { callee := Callee.builtin Builtin.append, args := #[s, x], argTypes := #[T, T] })
    {e : TypeId} {z : Value} {bytes : Nat} (hT : SliceTy P T e z bytes) (base : Nat) (v u : Value) (xs ys : List Value) (hs : a.eval s = v) (hown : OwnQ w base v xs) (hx : a.eval x = u) (hr : Reads w u ys) (h1 : ∀ u ∈ ys, u.oneCell' = true)
    (hby : bytes ≤ 128) (hlen : xs.length + ys.length ≤ 1000000000) (hbase : base ≤ w.heap.size)
    (h : ∀ v' w', OwnQ w' base v' (xs ++ ys) → w.grownBy w' v.ownBlock → (v'.ownBlock = v.ownBlock ∨ ∃ b0, w.heap.size ≤ b0 ∧ v'.ownBlock = some b0) → wpList P ops Q rest (a.put o.dst v') w') :
    wpList P ops Q (o :: rest) a w := by
  obtain ⟨v', w', hrun, h2, h3, h4⟩ := OwnQ.app hT o.type hown hbase hr h1 hby hlen
  refine wpList_plain hg fun K hK => ?_
  unfold Oper.wp
  simp [execOp, hop, resolve, invoke, builtin, hs, hx, hrun, Result.andThen]
  exact hK _ _ (h v' w' h2 h3 h4)
end Go.Kf
