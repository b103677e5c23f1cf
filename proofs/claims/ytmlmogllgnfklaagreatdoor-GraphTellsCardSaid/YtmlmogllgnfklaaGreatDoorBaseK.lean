/-
  General lemmas: slices whose elements have several cells, owned by a call: appends, reads.
-/
import Derived.Test.YtmlmogllgnfklaaGreatDoorBase
namespace Go.Kf
open Go Go.RowKit

/-- T is the type of a slice of e; an element has s cells, the zero value z, so many bytes. -/
structure SliceTyK (P : Program) (T e : TypeId) (z : Value) (s bytes : Nat) : Prop where
  und : P.underlying T = some (.slice e)
  info : (P.info? e).map (fun i => (i.zero, i.size, i.bytes)) = some (some z, s, bytes)
  num : z.cells.size = s
  pos : 0 < s

theorem wpList_appK {P : Program} (w : World) {ops : Array Oper} {rest : List Oper} {o : Oper} {a : Act} {Q : Exit → Act → World → Prop}
    (hg : o.guard = none) (s x : Operand) (T : TypeId) (hop : o.op = Op.call { callee := Callee.builtin Builtin.append, args := #[s, x], argTypes := #[T, T] })
    {e : TypeId} {z : Value} {sz bytes : Nat} (hT : SliceTyK P T e z sz bytes) (base : Nat) (v : Value) (n : Nat) (xs : List Value) (hs : a.eval s = v) (hown : w.ownsRow base e sz v n xs)
    (ad : Addr) (m c : Nat) (news : List Value) (hx : a.eval x = .slice (some ad) m c) (hl : news.length = m * sz) (hnews : ∀ j u, news[j]? = some u → w.cell? (ad.add j) = some u) (h1 : ∀ u ∈ news, u.oneCell' = true)
    (hby : bytes ≤ 128) (hlen : n + m ≤ 1000000000) (hbase : base ≤ w.heap.size)
    (h : ∀ v' w', w'.ownsRow base e sz v' (n + m) (xs ++ news) → w.grownBy w' v.ownBlock → (v'.ownBlock = v.ownBlock ∨ v'.ownBlock = some w.heap.size) → wpList P ops Q rest (a.put o.dst v') w') :
    wpList P ops Q (o :: rest) a w := by
  obtain ⟨i, hi, hz0, hz1, hz2⟩ := info_parts hT.info
  have hb : (n + m) * bytes ≤ 140737488355328 := Nat.le_trans (Nat.mul_le_mul hlen hby) (by decide)
  exact wpList_append_own_at w hg s x T hop base e i z sz bytes hT.und hi hz0 hz1 hz2 hT.num hT.pos v n xs hs hown ad m c news hx hl hnews h1 (by unfold maxLen; omega) hb hbase
    fun v' w' h2 h3 _ h4 => h v' w' h2 h3 h4

theorem step_appK {P : Program} {ops : Array Oper} {o : Oper} {a : Act} {w : World} {K : Act → World → Prop} {Q : Exit → Act → World → Prop} {E : Prop}
    (hg : o.guard = none) (s x : Operand) (T : TypeId) (hop : o.op = Op.call { callee := Callee.builtin Builtin.append, args := #[s, x], argTypes := #[T, T] })
    {e : TypeId} {z : Value} {sz bytes : Nat} (hT : SliceTyK P T e z sz bytes) (base : Nat) (v : Value) (n : Nat) (xs : List Value) (hs : a.eval s = v) (hown : w.ownsRow base e sz v n xs)
    (ad : Addr) (m c : Nat) (news : List Value) (hx : a.eval x = .slice (some ad) m c) (hl : news.length = m * sz) (hnews : ∀ j u, news[j]? = some u → w.cell? (ad.add j) = some u) (h1 : ∀ u ∈ news, u.oneCell' = true)
    (hby : bytes ≤ 128) (hlen : n + m ≤ 1000000000) (hbase : base ≤ w.heap.size)
    (h : ∀ v' w', w'.ownsRow base e sz v' (n + m) (xs ++ news) → w.grownBy w' v.ownBlock → (v'.ownBlock = v.ownBlock ∨ v'.ownBlock = some w.heap.size) → K (a.put o.dst v') w') :
    if Region.wanted o (yielded ops a.tmps) = true then Oper.wp P o a w K Q else E := by
  have hw : Region.wanted o (yielded ops a.tmps) = true := by simp [Region.wanted, hg]
  rw [if_pos hw]
  obtain ⟨i, hi, hz0, hz1, hz2⟩ := info_parts hT.info
  have hb : (n + m) * bytes ≤ 140737488355328 := Nat.le_trans (Nat.mul_le_mul hlen hby) (by decide)
  obtain ⟨v', w', hr, h2, h3, -, h4⟩ := run_append_own_at (P := P) w base T o.type e i z sz bytes hT.und hi hz0 hz1 hz2 hT.num hT.pos v n xs hown ad m c news hl hnews h1 (by unfold maxLen; omega) hb hbase
  unfold Oper.wp execOp
  simp only [hop, resolve, invoke, builtin, Sem.run_bind, Sem.run_pure, Result.andThen_ok, List.map_toArray, List.map_cons, List.map_nil, hs, hx, hr]
  exact h v' w' h2 h3 h4

theorem owned_from {w : World} {base e s n : Nat} {v : Value} {xs : List Value} (h : w.ownsRow base e s v n xs) {k : Nat} (hk : v.ownBlock = some k) : base ≤ k := by
  rcases h.2 with ⟨rfl, -⟩ | ⟨g, cap, cur, rfl, hg, -⟩
  · cases hk
  · simp only [Value.ownBlock, Option.some.injEq] at hk
    omega

/-- The cells of a block that was just made. -/
theorem news_block (w : World) (cs : List Value) (t : TypeId) : ∀ j u, cs[j]? = some u → (w.alloc (.cells cs.toArray t)).cell? ((⟨w.heap.size, 0, none⟩ : Addr).add j) = some u := by
  intro j u hj
  have : ((⟨w.heap.size, 0, none⟩ : Addr).add j) = ⟨w.heap.size, j, none⟩ := by
    unfold Addr.add
    by_cases h : j = 0
    · subst h; rfl
    · simp [h]
  rw [this, cell_of_heap (heap_alloc_here w _)]
  simpa using hj

theorem flat_at {s : Nat} : ∀ (rows : List (List Value)), (∀ r ∈ rows, r.length = s) → ∀ (i : Nat) (r : List Value) (j : Nat) (u : Value), rows[i]? = some r → r[j]? = some u → rows.flatten[i * s + j]? = some u
  | [], _, i, r, j, u, h, _ => by simp at h
  | x :: rows, hs, i, r, j, u, h, hj => by
    have hx : x.length = s := hs x (List.mem_cons_self)
    cases i with
    | zero =>
      simp only [List.getElem?_cons_zero, Option.some.injEq] at h
      subst h
      have : j < x.length := by
        rcases Nat.lt_or_ge j x.length with h' | h'
        · exact h'
        · rw [List.getElem?_eq_none h'] at hj; cases hj
      rw [List.flatten_cons, List.getElem?_append_left (by omega)]
      simpa using hj
    | succ i =>
      simp only [List.getElem?_cons_succ] at h
      have := flat_at rows (fun r hr => hs r (List.mem_cons_of_mem _ hr)) i r j u h hj
      rw [List.flatten_cons, List.getElem?_append_right (by rw [hx, Nat.add_mul]; omega), hx]
      rw [show (i + 1) * s + j - s = i * s + j by rw [Nat.add_mul]; omega]
      exact this

/-- A slice that owns its row reads as its rows. -/
theorem ownsRow_readsK {w : World} {base : Nat} {e : TypeId} {s : Nat} {v : Value} {n : Nat} {rows : List (List Value)} (h : w.ownsRow base e s v n rows.flatten) (hn : rows.length = n) (hs : ∀ r ∈ rows, r.length = s) : ReadsK s w v rows := by
  rcases h.2 with ⟨rfl, h0⟩ | ⟨g, cap, cur, rfl, hg, hh, hnc, hcap, hsz, htake⟩
  · obtain rfl : rows = [] := List.length_eq_zero_iff.1 (by omega)
    exact ⟨none, 0, rfl, by simp, fun i u hi => by simp at hi⟩
  · refine ⟨some ⟨g, 0, none⟩, cap, by rw [hn], by unfold maxLen at hcap; omega, fun i r hi => ⟨g, 0, rfl, fun j u hj => ?_⟩⟩
    have := flat_at rows hs i r j u hi hj
    rw [← htake] at this
    rw [Nat.zero_add, cell_of_heap hh, ← Array.getElem?_toList]
    rw [List.getElem?_take] at this
    split at this
    · exact this
    · cases this
/-- The same behind its first element. -/
theorem ownsRow_readsK_tail {w : World} {base : Nat} {e : TypeId} {s g n cap : Nat} {r0 : List Value} {rows : List (List Value)} (h : w.ownsRow base e s (.slice (some ⟨g, 0, none⟩) n cap) n (r0 :: rows).flatten) (hn : rows.length + 1 = n) (hs : ∀ r ∈ r0 :: rows, r.length = s) (c : Nat) :
    ReadsK s w (.slice (some ⟨g, s, none⟩) (n - 1) c) rows := by
  obtain ⟨a, cap', e1, hle, hc⟩ := ownsRow_readsK h hn hs
  cases e1
  refine ⟨some ⟨g, s, none⟩, c, by rw [← hn]; rfl, by simp at hle; omega, fun i r hi => ⟨g, s, rfl, fun j u hj => ?_⟩⟩
  obtain ⟨b, o, e2, hcell⟩ := hc (i + 1) r (by simpa using hi)
  cases e2
  have := hcell j u hj
  rwa [show 0 + (i + 1) * s + j = s + i * s + j by rw [Nat.add_mul]; omega] at this
end Go.Kf
