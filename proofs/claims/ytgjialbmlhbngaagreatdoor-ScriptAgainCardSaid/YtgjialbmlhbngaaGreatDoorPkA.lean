/-
  General lemmas of this claim, over any program: frames between worlds, slices that read as lists, maps with plain keys. Nothing here names the program. The walks of SameInts and SameTexts: they tell whether two lists are one. A text cut at a byte: the plain function, and that the library's words for it say the same.
-/
import Derived.WalkKit
import Derived.WalkSpells
import Derived.WalkLawsBesides
import Derived.Lib.SliceRun
import Derived.Lib.Hide
import Derived.Maps.AppendAt
import Derived.Deep.RegionLaw
import Derived.Deep.QuietTactic
import Derived.BigQuiet
import Derived.Test.YtgjialbmlhbngaaGreatDoorChecked
import Derived.Lib.Bytealg
import Derived.Lib.IndexLaws
import Derived.Lib.IndexBytes
import Derived.Lib.Split
import Derived.Lib.SplitLaws
import Derived.Lib.CountLaws

set_option maxRecDepth 100000
namespace Go.Kf
open Go Go.RowKit
structure Fr (B : Nat) (S : Nat → Prop) (w w' : World) : Prop where
  os : w'.os = w.os
  tape : w'.tape = w.tape
  output : w'.output = w.output
  size : w.heap.size ≤ w'.heap.size
  block : ∀ k, k < B → ¬ S k → w'.heap[k]? = w.heap[k]?
theorem Hd {p : Prop} (h : p) : RowKit.Hid p := h
theorem Fr.refl (B : Nat) (S : Nat → Prop) (w : World) : Fr B S w w := ⟨rfl, rfl, rfl, Nat.le_refl _, fun _ _ _ => rfl⟩
theorem Fr.trans {B : Nat} {S : Nat → Prop} {a b c : World} (h : Fr B S a b) (k : Fr B S b c) : Fr B S a c :=
  ⟨k.os.trans h.os, k.tape.trans h.tape, k.output.trans h.output, Nat.le_trans h.size k.size, fun i hi hs => (k.block i hi hs).trans (h.block i hi hs)⟩
theorem Fr.mono {B B' : Nat} {S S' : Nat → Prop} {w w' : World} (h : Fr B S w w') (hB : B' ≤ B) (hS : ∀ k, k < B' → S k → S' k) : Fr B' S' w w' :=
  ⟨h.os, h.tape, h.output, h.size, fun k hk hs => h.block k (Nat.lt_of_lt_of_le hk hB) (fun e => hs (hS k hk e))⟩
theorem Fr.of_below {B : Nat} {S : Nat → Prop} {w w' : World} (h : Below B w w') : Fr B S w w' :=
  ⟨h.os, h.tape, h.output, h.size, fun k hk _ => h.block k hk⟩
theorem Fr.below {B : Nat} {S : Nat → Prop} {w w' : World} (h : Fr B S w w') (hS : ∀ k, k < B → ¬ S k) : Below B w w' :=
  ⟨h.os, h.tape, h.output, h.size, fun k hk => h.block k hk (hS k hk)⟩
theorem Fr.drewN {B : Nat} {S : Nat → Prop} {a w : World} (h : Fr B S a w) (n : Nat) : Fr B S a (w.drewN n) := ⟨h.os, h.tape, h.output, h.size, h.block⟩
theorem Fr.drew {B : Nat} {S : Nat → Prop} {a w : World} (h : Fr B S a w) : Fr B S a w.drew := ⟨h.os, h.tape, h.output, h.size, h.block⟩
theorem Fr.alloc {B : Nat} {S : Nat → Prop} {a w : World} (h : Fr B S a w) (hB : B ≤ w.heap.size) (o : Obj) : Fr B S a (w.alloc o) :=
  h.trans (Fr.of_below ((Below.refl _ _).alloc hB o))
theorem Fr.setCell {B : Nat} {S : Nat → Prop} {a w : World} (h : Fr B S a w) {p : Addr} (hp : p.block < B → S p.block) (u : Value) : Fr B S a (w.setCell p u) :=
  h.trans ⟨rfl, rfl, rfl, by simp [World.setCell], fun k hk hs => Below.heap_setCell _ _ _ _ (fun e => hs (e ▸ hp (e ▸ hk)))⟩
theorem Fr.grown {B : Nat} {S : Nat → Prop} {a w w' : World} {row : Option Nat} (h : Fr B S a w) (hg : w.grownBy w' row) (hB : B ≤ w.heap.size) (hr : ∀ k, row = some k → k < B → S k) : Fr B S a w' :=
  h.trans ⟨hg.os, hg.tape, hg.output, hg.size, fun k hk hs => hg.block k (by omega) (fun e => hs (hr k e.symm hk))⟩
theorem Fr.cell {B : Nat} {S : Nat → Prop} {w w' : World} (h : Fr B S w w') {p : Addr} (hp : p.block < B) (hs : ¬ S p.block) : w'.cell? p = w.cell? p := World.cell?_of_block (w := w) (h.block p.block hp hs)
theorem Fr.frozen {B : Nat} {S : Nat → Prop} {w w' : World} (h : Fr B S w w') {p : Addr} (hp : p.block < B) (hs : ¬ S p.block) : w'.frozen? p = w.frozen? p := World.frozen?_of_block (w := w) (h.block p.block hp hs)
theorem lt_of_heap {w : World} {b : Nat} {o : Obj} (h : w.heap[b]? = some o) : b < w.heap.size := by
  rcases Nat.lt_or_ge b w.heap.size with h' | h'
  · exact h'
  · simp [Array.getElem?_eq_none h'] at h
theorem lt_of_cell {w : World} {p : Addr} {v : Value} (h : w.cell? p = some v) : p.block < w.heap.size := by
  unfold World.cell? at h
  rcases Nat.lt_or_ge p.block w.heap.size with h' | h'
  · exact h'
  · simp [Array.getElem?_eq_none h'] at h
theorem heap_alloc_old {w : World} {b : Nat} {x : Obj} (h : w.heap[b]? = some x) (o : Obj) : (w.alloc o).heap[b]? = some x :=
  (Below.heap_alloc w o b (lt_of_heap h)).trans h
theorem heap_alloc_here (w : World) (o : Obj) : (w.alloc o).heap[w.heap.size]? = some o := by
  show (w.heap.push o)[w.heap.size]? = _
  simp
theorem heap_setCell_other {w : World} {b : Nat} {x : Obj} (h : w.heap[b]? = some x) {p : Addr} (hne : b ≠ p.block) (u : Value) : (w.setCell p u).heap[b]? = some x :=
  (Below.heap_setCell w p u b hne).trans h
theorem heap_setCell_same {w : World} {b o : Nat} {c : Array Value} {t : TypeId} {fz : Nat × Nat} (h : w.heap[b]? = some (.cells c t fz)) (u : Value) :
    (w.setCell ⟨b, o, none⟩ u).heap[b]? = some (.cells (c.setIfInBounds o u) t fz) := by
  simp [World.setCell, Array.getElem?_modify, h]
theorem cell_of_heap {w : World} {b : Nat} {c : Array Value} {t : TypeId} {fz : Nat × Nat} (h : w.heap[b]? = some (.cells c t fz)) (i : Nat) : w.cell? ⟨b, i, none⟩ = c[i]? := by
  simp [World.cell?, h]
theorem free_of_heap {w : World} {b : Nat} {c : Array Value} {t : TypeId} (h : w.heap[b]? = some (.cells c t (0, 0))) (i : Nat) : w.frozen? ⟨b, i, none⟩ = false := by
  simp [World.frozen?, h]
def Reads (w : World) (v : Value) (xs : List Value) : Prop :=
  ∃ a cap, v = .slice a xs.length cap ∧ xs.length ≤ 9223372036854775807 ∧ ∀ i u, xs[i]? = some u → ∃ b o, a = some ⟨b, o, none⟩ ∧ w.cell? ⟨b, o + i, none⟩ = some u
theorem run_sizeOf' {P : Program} {E : TypeId} {s : Nat} (hE : (P.info? E).map (·.size) = some s) (w : World) : (sizeOf E).run P w = .ok s w := by
  obtain ⟨i, hi, hs⟩ := Option.map_eq_some_iff.1 hE
  simp [sizeOf, typeInfo, hi, hs]
theorem elem_of {P : Program} {T E : TypeId} (hT : P.underlying T = some (.slice E)) : P.elem T = E := by simp [Program.elem, hT]
theorem Reads.at {P : Program} {T E : TypeId} (hT : P.underlying T = some (.slice E)) (hE : (P.info? E).map (·.size) = some 1) {w : World} {a : Option Addr} {n cap : Nat} {xs : List Value}
    (h : Reads w (.slice a n cap) xs) (i : Nat) (hi : i < xs.length) :
    ∃ b o, (∀ w', (Instr.indexAt T (.slice a n cap) (.int .i64 i)).run P w' = .ok (.pointer (some ⟨b, o, none⟩)) w') ∧ w.cell? ⟨b, o, none⟩ = some xs[i] := by
  obtain ⟨a', cap', e, hle, hc⟩ := h
  cases e
  obtain ⟨b, o, rfl, hcell⟩ := hc i xs[i] (by simp [hi])
  refine ⟨b, o + i, fun w' => ?_, hcell⟩
  rw [run_indexAt_slice (h := by rw [elem_of hT]; exact hT), if_pos (by omega), elem_of hT, run_sizeOf' hE]
  by_cases h0 : i = 0
  · subst h0; simp [Result.andThen, Addr.add]
  · simp [Result.andThen, Addr.add, h0]
theorem Reads.len {w : World} {a : Option Addr} {n cap : Nat} {xs : List Value} (h : Reads w (.slice a n cap) xs) : n = xs.length := by
  obtain ⟨a', cap', e, -, -⟩ := h
  cases e; rfl
theorem Reads.le {w : World} {v : Value} {xs : List Value} (h : Reads w v xs) : xs.length ≤ 9223372036854775807 := by
  obtain ⟨a', cap', e, h, -⟩ := h
  exact h
theorem Reads.frame {w w' : World} {v : Value} {xs : List Value} (h : Reads w v xs) (hc : ∀ p u, v.ownBlock = some p.block → w.cell? p = some u → w'.cell? p = some u) : Reads w' v xs := by
  obtain ⟨a, cap, rfl, hle, h⟩ := h
  refine ⟨a, cap, rfl, hle, fun i u hi => ?_⟩
  obtain ⟨b, o, rfl, hcell⟩ := h i u hi
  exact ⟨b, o, rfl, hc _ _ rfl hcell⟩
theorem Reads.below {w w' : World} {v : Value} {xs : List Value} {B : Nat} (h : Reads w v xs) (hb : Below B w w') (hv : ∀ k, v.ownBlock = some k → k < B) : Reads w' v xs :=
  h.frame fun _ _ hp hu => (hb.cell (hv _ hp)).trans hu
theorem ownsRow_reads {w : World} {base : Nat} {e : TypeId} {v : Value} {n : Nat} {xs : List Value} (h : w.ownsRow base e 1 v n xs) : Reads w v xs := by
  obtain ⟨hl, h⟩ := h
  simp only [Nat.mul_one] at hl
  rcases h with ⟨rfl, h0⟩ | ⟨g, cap, cur, rfl, hg, hh, hn, hcap, hsz, htake⟩
  · obtain rfl : xs = [] := List.length_eq_zero_iff.1 (by omega)
    exact ⟨none, 0, rfl, by simp, fun i u hi => by simp at hi⟩
  · refine ⟨some ⟨g, 0, none⟩, cap, by rw [hl], by unfold maxLen at hcap; omega, fun i u hi => ⟨g, 0, rfl, ?_⟩⟩
    rw [cell_of_heap hh]
    rw [← htake, Nat.mul_one] at hi
    have hlt : i < n := by
      rcases Nat.lt_or_ge i n with h' | h'
      · exact h'
      · rw [List.getElem?_take, if_neg (by omega)] at hi; cases hi
    rw [List.getElem?_take, if_pos hlt] at hi
    simpa using hi
theorem ownsRow_cut {w : World} {base : Nat} {e : TypeId} {g cap n m : Nat} {xs : List Value} (h : w.ownsRow base e 1 (.slice (some ⟨g, 0, none⟩) n cap) n xs) (hm : m ≤ n) :
    w.ownsRow base e 1 (.slice (some ⟨g, 0, none⟩) m cap) m (xs.take m) := by
  obtain ⟨hl, h⟩ := h
  simp only [Nat.mul_one] at hl
  rcases h with ⟨h0, _⟩ | ⟨g', cap', cur, hv, hg, hh, hn, hcap, hsz, htake⟩
  · cases h0
  · cases hv
    refine ⟨by simp; omega, .inr ⟨g, cap, cur, rfl, hg, hh, by omega, hcap, hsz, ?_⟩⟩
    rw [← htake, List.take_take, Nat.mul_one, Nat.mul_one, Nat.min_eq_left hm]
theorem setRow_grown (w : World) (g : Nat) (cs : Array Value) : w.grownBy (w.setRow g cs) (some g) :=
  ⟨rfl, rfl, rfl, by simp [World.setRow], fun k _ hk => by
    simp only [World.setRow, Array.getElem?_modify]
    rw [if_neg (fun e => hk (by rw [e]))]⟩
theorem ownsRow_write {w : World} {base : Nat} {e : TypeId} {g cap n i : Nat} {xs ys : List Value} (h : w.ownsRow base e 1 (.slice (some ⟨g, 0, none⟩) n cap) n xs) (hi : i + ys.length ≤ n) (h1 : ∀ v ∈ ys, v.oneCell' = true) (P : Program) :
    ∃ w1, (storeCells ⟨g, i, none⟩ ys).run P w = .ok () w1 ∧ w1.ownsRow base e 1 (.slice (some ⟨g, 0, none⟩) n cap) n (xs.take i ++ ys ++ xs.drop (i + ys.length)) ∧ w.grownBy w1 (some g) := by
  obtain ⟨hl, h⟩ := h
  simp only [Nat.mul_one] at hl
  rcases h with ⟨h0, _⟩ | ⟨g', cap', cur, hv, hg, hh, hn, hcap, hsz, htake⟩
  · cases h0
  · cases hv
    have hst := run_storeCells_at P g i e ys 0 cur w hh (by omega) h1
    refine ⟨_, hst, ⟨by simp; omega, .inr ⟨g, cap, _, rfl, hg, setRow_heap w g cur _ e _ hh, hn, hcap, by simp; omega, ?_⟩⟩, setRow_grown _ _ _⟩
    rw [Nat.mul_one] at htake
    have hcl : cur.toList.length = cap := by simpa using hsz
    rw [← htake]
    apply List.ext_getElem?
    intro j
    simp only [List.getElem?_take, List.getElem?_append, List.length_take, List.getElem?_drop, List.length_append, Nat.add_zero, Nat.mul_one, hcl]
    grind
theorem ownsRow_clear {P : Program} {T : TypeId} {w : World} {base : Nat} {e : TypeId} {z : Value} (hT : P.underlying T = some (.slice e)) (hz : ∀ w, (zeroValue e).run P w = .ok z w) (hzc : z.cells = #[z]) (h1 : z.oneCell' = true)
    {g cap n i : Nat} {xs : List Value} (h : w.ownsRow base e 1 (.slice (some ⟨g, 0, none⟩) n cap) n xs) (hi : i < n) (c : Nat) :
    ∃ w1, (∀ ty, (Builtin.clear_ #[T] ty #[.slice (some ⟨g, i, none⟩) (n - i) c]).run P w = .ok (.tuple #[]) w1) ∧ w1.ownsRow base e 1 (.slice (some ⟨g, 0, none⟩) n cap) n (xs.take i ++ List.replicate (n - i) z) ∧ w.grownBy w1 (some g) := by
  have hlen : xs.length = n := by have := h.1; omega
  obtain ⟨w1, hst, hown, hg⟩ := ownsRow_write (i := i) (ys := List.replicate (n - i) z) h (by simp; omega) (fun v hv => by rw [List.eq_of_mem_replicate hv]; exact h1) P
  refine ⟨w1, fun ty => ?_, ?_, hg⟩
  · have hzl : (Builtin.zeroCells z.cells (n - i)).toList = List.replicate (n - i) z := by
      rw [hzc]
      simp [Builtin.zeroCells]
      apply List.ext_getElem
      · simp
      · intro j h1 h2
        simp [Nat.mod_one]
    obtain ⟨m, hm⟩ : ∃ m, n - i = m + 1 := ⟨n - i - 1, by omega⟩
    rw [hm] at hst hzl ⊢
    simp [Builtin.clear_, run_underlying hT, hz, Result.andThen, hzl, hst]
  · simpa [hlen, show i + (n - i) = n by omega, List.drop_of_length_le (show xs.length ≤ n by omega)] using hown
structure SliceTy (P : Program) (T e : TypeId) (z : Value) (bytes : Nat) : Prop where
  und : P.underlying T = some (.slice e)
  info : (P.info? e).map (fun i => (i.zero, i.size, i.bytes)) = some (some z, 1, bytes)
  one : z.cells.size = 1
theorem step_app {P : Program} {ops : Array Oper} {o : Oper} {a : Act} {w : World} {K : Act → World → Prop} {Q : Exit → Act → World → Prop} {E : Prop}
    (hg : o.guard = none) (s x : Operand) (T : TypeId) (hop : o.op = Op.call { callee := Callee.builtin Builtin.append, args := #[s, x], argTypes := #[T, T] })
    {e : TypeId} {z : Value} {bytes : Nat} (hT : SliceTy P T e z bytes) (base : Nat) (v : Value) (n : Nat) (xs : List Value) (hs : a.eval s = v) (hown : w.ownsRow base e 1 v n xs)
    (ad : Addr) (m c : Nat) (news : List Value) (hx : a.eval x = .slice (some ad) m c) (hl : news.length = m) (hnews : ∀ j u, news[j]? = some u → w.cell? (ad.add j) = some u) (h1 : ∀ u ∈ news, u.oneCell' = true)
    (hby : bytes ≤ 128) (hlen : n + m ≤ 1000000000) (hbase : base ≤ w.heap.size)
    (h : ∀ v' w', w'.ownsRow base e 1 v' (n + m) (xs ++ news) → w.grownBy w' v.ownBlock → (v'.ownBlock = v.ownBlock ∨ v'.ownBlock = some w.heap.size) → K (a.put o.dst v') w') :
    if Region.wanted o (yielded ops a.tmps) = true then Oper.wp P o a w K Q else E := by
  have hw : Region.wanted o (yielded ops a.tmps) = true := by simp [Region.wanted, hg]
  rw [if_pos hw]
  obtain ⟨i, hi, hz0, hz1, hz2⟩ := info_parts hT.info
  have hb : (n + m) * bytes ≤ 140737488355328 := Nat.le_trans (Nat.mul_le_mul hlen hby) (by decide)
  obtain ⟨v', w', hr, h2, h3, -, h4⟩ := run_append_own_at (P := P) w base T o.type e i z 1 bytes hT.und hi hz0 hz1 hz2 hT.one (by decide) v n xs hown ad m c news (by omega) hnews h1 (by unfold maxLen; omega) hb hbase
  unfold Oper.wp execOp
  simp only [hop, resolve, invoke, builtin, Sem.run_bind, Sem.run_pure, Result.andThen_ok, List.map_toArray, List.map_cons, List.map_nil, hs, hx, hr]
  exact h v' w' h2 h3 h4
theorem wpList_app {P : Program} (w : World) {ops : Array Oper} {rest : List Oper} {o : Oper} {a : Act} {Q : Exit → Act → World → Prop}
    (hg : o.guard = none) (s x : Operand) (T : TypeId) (hop : o.op = Op.call { callee := Callee.builtin Builtin.append, args := #[s, x], argTypes := #[T, T] })
    {e : TypeId} {z : Value} {bytes : Nat} (hT : SliceTy P T e z bytes) (base : Nat) (v : Value) (n : Nat) (xs : List Value) (hs : a.eval s = v) (hown : w.ownsRow base e 1 v n xs)
    (ad : Addr) (m c : Nat) (news : List Value) (hx : a.eval x = .slice (some ad) m c) (hl : news.length = m) (hnews : ∀ j u, news[j]? = some u → w.cell? (ad.add j) = some u) (h1 : ∀ u ∈ news, u.oneCell' = true)
    (hby : bytes ≤ 128) (hlen : n + m ≤ 1000000000) (hbase : base ≤ w.heap.size)
    (h : ∀ v' w', w'.ownsRow base e 1 v' (n + m) (xs ++ news) → w.grownBy w' v.ownBlock → (v'.ownBlock = v.ownBlock ∨ v'.ownBlock = some w.heap.size) → wpList P ops Q rest (a.put o.dst v') w') :
    wpList P ops Q (o :: rest) a w := by
  obtain ⟨i, hi, hz0, hz1, hz2⟩ := info_parts hT.info
  have hb : (n + m) * bytes ≤ 140737488355328 := Nat.le_trans (Nat.mul_le_mul hlen hby) (by decide)
  exact wpList_append_own_at w hg s x T hop base e i z 1 bytes hT.und hi hz0 hz1 hz2 hT.one (by decide) v n xs hs hown ad m c news hx (by omega) hnews h1 (by unfold maxLen; omega) hb hbase
    fun v' w' h2 h3 _ h4 => h v' w' h2 h3 h4
theorem news_one {w : World} {ad : Addr} {x : Value} (h : w.cell? ad = some x) : ∀ j u, [x][j]? = some u → w.cell? (ad.add j) = some u := by
  intro j u hj
  match j, hj with
  | 0, hj => simp at hj; subst hj; simpa [Addr.add] using h
theorem ownsRow_some {w : World} {base : Nat} {e : TypeId} {size : Nat} {v : Value} {n : Nat} {xs : List Value} (h : w.ownsRow base e size v n xs) (hn : 0 < n) : ∃ g cap, v = .slice (some ⟨g, 0, none⟩) n cap := by
  rcases h.2 with ⟨-, h0⟩ | ⟨g, cap, _, rfl, -⟩
  · omega
  · exact ⟨g, cap, rfl⟩
theorem ownsRow_fr {w w' : World} {base : Nat} {e : TypeId} {size : Nat} {v : Value} {n : Nat} {xs : List Value} (h : w.ownsRow base e size v n xs) {B : Nat} {S : Nat → Prop} (hf : Fr B S w w') (hv : ∀ k, v.ownBlock = some k → k < B ∧ ¬ S k) : w'.ownsRow base e size v n xs := by
  obtain ⟨h1, h2⟩ := h
  refine ⟨h1, ?_⟩
  rcases h2 with h2 | ⟨g, cap, cur, rfl, hg, hh, r⟩
  · exact Or.inl h2
  · have := hv g rfl
    exact Or.inr ⟨g, cap, cur, rfl, hg, (hf.block g this.1 this.2).trans hh, r⟩
theorem ownsRow_base {w : World} {base base' : Nat} {e : TypeId} {size : Nat} {v : Value} {n : Nat} {xs : List Value} (h : w.ownsRow base e size v n xs) (hb : base' ≤ base) : w.ownsRow base' e size v n xs := by
  obtain ⟨h1, h2⟩ := h
  refine ⟨h1, ?_⟩
  rcases h2 with h2 | ⟨g, cap, cur, rfl, hg, r⟩
  · exact Or.inl h2
  · exact Or.inr ⟨g, cap, cur, rfl, Nat.le_trans hb hg, r⟩
theorem Fr.of_grown {w w' : World} {row : Option Nat} (h : w.grownBy w' row) : Fr w.heap.size (fun k => row = some k) w w' :=
  ⟨h.os, h.tape, h.output, h.size, fun k hk hs => h.block k hk (fun e => hs e.symm)⟩
def ReadsK (s : Nat) (w : World) (v : Value) (xs : List (List Value)) : Prop :=
  ∃ a cap, v = .slice a xs.length cap ∧ xs.length ≤ 9223372036854775807 ∧ ∀ i row, xs[i]? = some row → ∃ b o, a = some ⟨b, o, none⟩ ∧ ∀ j u, row[j]? = some u → w.cell? ⟨b, o + i * s + j, none⟩ = some u
theorem ReadsK.at {P : Program} {T E s : Nat} (hT : P.underlying T = some (.slice E)) (hE : (P.info? E).map (·.size) = some s) {w : World} {a : Option Addr} {n cap : Nat} {xs : List (List Value)}
    (h : ReadsK s w (.slice a n cap) xs) (i : Nat) (hi : i < xs.length) :
    ∃ b o, (∀ w', (Instr.indexAt T (.slice a n cap) (.int .i64 i)).run P w' = .ok (.pointer (some ⟨b, o, none⟩)) w') ∧ a = some ⟨b, o - i * s, none⟩ ∧ ∀ j u, xs[i][j]? = some u → w.cell? ⟨b, o + j, none⟩ = some u := by
  obtain ⟨a', cap', e, hle, hc⟩ := h
  cases e
  obtain ⟨b, o, rfl, hcell⟩ := hc i xs[i] (by simp [hi])
  refine ⟨b, o + i * s, fun w' => ?_, by simp, hcell⟩
  rw [run_indexAt_slice (h := by rw [elem_of hT]; exact hT), if_pos (by omega), elem_of hT, run_sizeOf' hE]
  by_cases h0 : i * s = 0
  · simp [Result.andThen, Addr.add, h0]
  · simp [Result.andThen, Addr.add, h0]
theorem ReadsK.le {s : Nat} {w : World} {v : Value} {xs : List (List Value)} (h : ReadsK s w v xs) : xs.length ≤ 9223372036854775807 := by
  obtain ⟨a', cap', e, h, -⟩ := h
  exact h
abbrev str (l : List UInt8) : Value := .string ⟨l.toArray⟩
theorem ba_beq (a b : ByteArray) : (a == b) = (a.data.toList == b.data.toList) := by
  show (a.data == b.data) = _
  rw [Bool.eq_iff_iff]
  simp [Array.ext_iff]
theorem beq_dec {α : Type} [DecidableEq α] [BEq α] [LawfulBEq α] (a b : α) : (a == b) = decide (a = b) := by
  rw [Bool.eq_iff_iff]; simp
theorem str_beq (l m : List UInt8) : ((⟨l.toArray⟩ : ByteArray) == (⟨m.toArray⟩ : ByteArray)) = (l == m) := by
  rw [ba_beq]
theorem str_app (l m : List UInt8) : (⟨l.toArray⟩ : ByteArray) ++ (⟨m.toArray⟩ : ByteArray) = ⟨(l ++ m).toArray⟩ := by
  apply ByteArray.ext
  simp
theorem str_inj {l m : List UInt8} (h : str l = str m) : l = m := by simpa using h
structure KeyBy {κ : Type} [DecidableEq κ] (P : Program) (K : TypeId) (enc : κ → Value) : Prop where
  kind : ∃ d, P.underlying K = some d ∧ (∀ a b, Instr.sameNow d (enc a) (enc b) = some (decide (a = b))) ∧ ∀ (e : Bool) (n : Nat) (a : κ) (w : World), (Instr.checkKey e (n + 1) K (enc a)).run P w = .ok () w
  bits : ∀ n a b, Instr.sameBits n (enc a) (enc b) = decide (a = b)
theorem KeyBy.string {P : Program} {K : TypeId} (h : P.underlying K = some .string) : KeyBy P K str where
  kind := ⟨.string, h, fun a b => by simp only [Instr.sameNow, str_beq, beq_dec], fun e n a w => by simp [Instr.checkKey, run_underlying h]⟩
  bits n a b := by
    rw [← beq_dec, ← str_beq]
    cases n <;> simp only [Instr.sameBits]
theorem KeyBy.int {P : Program} {K : TypeId} (h : P.underlying K = some (.int .i64)) : KeyBy P K (Value.int .i64) where
  kind := ⟨.int .i64, h, fun a b => by simp [Instr.sameNow, beq_dec], fun e n a w => by simp [Instr.checkKey, run_underlying h]⟩
  bits n a b := by cases n <;> simp [Instr.sameBits, beq_dec]
def MapIs {κ α : Type} (ek : κ → Value) (ev : α → Value) (w : World) (b : Nat) (l : List (κ × α)) : Prop :=
  ∃ es clock, w.heap[b]? = some (.map es clock) ∧ es.toList.map (fun e => (e.key, e.val)) = l.map (fun p => (ek p.1, ev p.2)) ∧ (es.toList.map (·.born)).Pairwise (· < ·) ∧ ∀ e ∈ es.toList, e.born < clock
def mupd {κ α : Type} [DecidableEq κ] (k : κ) (v : α) : List (κ × α) → List (κ × α)
  | [] => [(k, v)]
  | p :: l => if p.1 = k then (k, v) :: l else p :: mupd k v l
def mdel {κ α : Type} [DecidableEq κ] (k : κ) : List (κ × α) → List (κ × α)
  | [] => []
  | p :: l => if p.1 = k then l else p :: mdel k l
def mlook {κ α : Type} [DecidableEq κ] (k : κ) : List (κ × α) → Option α
  | [] => none
  | p :: l => if p.1 = k then some p.2 else mlook k l
def mplace {κ α : Type} [DecidableEq κ] (k : κ) : List (κ × α) → Option Nat
  | [] => none
  | p :: l => if p.1 = k then some 0 else (mplace k l).map (· + 1)
section
variable {κ α : Type} [DecidableEq κ] {P : Program} {K : TypeId} {ek : κ → Value} {ev : α → Value}
theorem findNow_map {d : TypeDesc} (hd : ∀ a b, Instr.sameNow d (ek a) (ek b) = some (decide (a = b))) (k : κ) :
    ∀ (es : List MapEntry) (l : List (κ × α)), es.map (fun e => (e.key, e.val)) = l.map (fun p => (ek p.1, ev p.2)) → ∀ i,
      Instr.findNow d (ek k) es i = some ((mplace k l).bind fun j => (mlook k l).map fun v => (i + j, ev v))
  | [], [], _, _ => rfl
  | [], p :: l, h, _ => by simp at h
  | e :: es, [], h, _ => by simp at h
  | e :: es, p :: l, h, i => by
    simp only [List.map_cons, List.cons.injEq, Prod.mk.injEq] at h
    obtain ⟨⟨h1, h2⟩, h3⟩ := h
    have ih := findNow_map hd k es l h3 (i + 1)
    unfold Instr.findNow
    rw [h1, hd]
    by_cases hk : p.1 = k
    · simp [hk, mplace, mlook, h2]
    · have hk' : ¬ k = p.1 := fun e => hk e.symm
      simp only [hk', decide_false, ih, mplace, mlook, hk, if_false]
      cases hp : mplace k l with
      | none => simp
      | some j => simp [Nat.add_assoc, Nat.add_comm 1 j]
theorem run_findKey (hK : KeyBy P K ek) (k : κ) {es : Array MapEntry} {l : List (κ × α)} (h : es.toList.map (fun e => (e.key, e.val)) = l.map (fun p => (ek p.1, ev p.2))) (w : World) :
    (Instr.findKey K (ek k) es.toList).run P w = .ok ((mplace k l).bind fun j => (mlook k l).map fun v => (j, ev v)) w := by
  obtain ⟨d, hd, hs, -⟩ := hK.kind
  simp only [Instr.findKey, Sem.run_bind, run_underlying hd, Result.andThen, findNow_map hs k es.toList l h 0, Nat.zero_add]
  rfl
theorem mlook_isSome_place (k : κ) : ∀ l : List (κ × α), (mlook k l).isSome = (mplace k l).isSome
  | [] => rfl
  | p :: l => by
    unfold mlook mplace
    by_cases hk : p.1 = k
    · simp [hk]
    · simp [hk, mlook_isSome_place k l]
theorem mplace_lt {k : κ} : ∀ {l : List (κ × α)} {j : Nat}, mplace k l = some j → j < l.length
  | [], _, h => by cases h
  | p :: l, j, h => by
    unfold mplace at h
    by_cases hk : p.1 = k
    · rw [if_pos hk] at h; cases h; simp
    · rw [if_neg hk] at h
      obtain ⟨j', h', rfl⟩ := Option.map_eq_some_iff.1 h
      have := mplace_lt h'
      simp; omega
theorem mplace_key {k : κ} : ∀ {l : List (κ × α)} {j : Nat}, mplace k l = some j → ∀ h : j < l.length, (l[j]).1 = k
  | [], _, h, _ => by cases h
  | p :: l, j, h, hj => by
    unfold mplace at h
    by_cases hk : p.1 = k
    · rw [if_pos hk] at h; cases h; exact hk
    · rw [if_neg hk] at h
      obtain ⟨j', h', rfl⟩ := Option.map_eq_some_iff.1 h
      exact mplace_key h' (by simpa using hj)
theorem map_modify_born : ∀ (l : List MapEntry) (j : Nat) (f : MapEntry → MapEntry) (_ : ∀ e, (f e).born = e.born), (l.modify j f).map (·.born) = l.map (·.born)
  | [], j, f, _ => by simp
  | e :: l, 0, f, h => by simp [h]
  | e :: l, j + 1, f, h => by simp [map_modify_born l j f h]
theorem map_modify_ents {k : κ} {v : α} : ∀ {es : List MapEntry} {l : List (κ × α)} {j : Nat}, es.map (fun e => (e.key, e.val)) = l.map (fun p => (ek p.1, ev p.2)) → mplace k l = some j →
    (es.modify j fun e => { e with key := ek k, val := ev v }).map (fun e => (e.key, e.val)) = (mupd k v l).map (fun p => (ek p.1, ev p.2))
  | _, [], _, _, h => by cases h
  | [], p :: l, _, h, _ => by simp at h
  | e :: es, p :: l, j, h, hp => by
    simp only [List.map_cons, List.cons.injEq] at h
    unfold mplace at hp
    unfold mupd
    by_cases hk : p.1 = k
    · rw [if_pos hk] at hp ⊢; cases hp
      simp [h.2]
    · rw [if_neg hk] at hp ⊢
      obtain ⟨j', h', rfl⟩ := Option.map_eq_some_iff.1 hp
      simp only [List.modify_succ_cons, List.map_cons, List.cons.injEq]
      exact ⟨h.1, map_modify_ents h.2 h'⟩
theorem mupd_none {k : κ} {v : α} : ∀ {l : List (κ × α)}, mplace k l = none → mupd k v l = l ++ [(k, v)]
  | [], _ => rfl
  | p :: l, h => by
    unfold mplace at h
    unfold mupd
    by_cases hk : p.1 = k
    · rw [if_pos hk] at h; cases h
    · rw [if_neg hk] at h ⊢
      rw [mupd_none (Option.map_eq_none_iff.1 h)]; rfl
theorem mdel_none {k : κ} : ∀ {l : List (κ × α)}, mplace k l = none → mdel k l = l
  | [], _ => rfl
  | p :: l, h => by
    unfold mplace at h
    unfold mdel
    by_cases hk : p.1 = k
    · rw [if_pos hk] at h; cases h
    · rw [if_neg hk] at h ⊢
      rw [mdel_none (Option.map_eq_none_iff.1 h)]
theorem map_erase_ents {k : κ} : ∀ {es : List MapEntry} {l : List (κ × α)} {j : Nat}, es.map (fun e => (e.key, e.val)) = l.map (fun p => (ek p.1, ev p.2)) → mplace k l = some j →
    (es.eraseIdx j).map (fun e => (e.key, e.val)) = (mdel k l).map (fun p => (ek p.1, ev p.2))
  | _, [], _, _, h => by cases h
  | [], p :: l, _, h, _ => by simp at h
  | e :: es, p :: l, j, h, hp => by
    simp only [List.map_cons, List.cons.injEq] at h
    unfold mplace at hp
    unfold mdel
    by_cases hk : p.1 = k
    · rw [if_pos hk] at hp ⊢; cases hp
      simp [h.2]
    · rw [if_neg hk] at hp ⊢
      obtain ⟨j', h', rfl⟩ := Option.map_eq_some_iff.1 hp
      simp only [List.eraseIdx_cons_succ, List.map_cons, List.cons.injEq]
      exact ⟨h.1, map_erase_ents h.2 h'⟩
theorem MapIs.lookup {T E : TypeId} (hK : KeyBy P K ek) (hT : P.underlying T = some (.map K E)) {z : Value} (hz : ∀ w, (zeroValue E).run P w = .ok z w) {w : World} {b : Nat} {l : List (κ × α)}
    (h : MapIs ek ev w b l) (k : κ) (ok : Bool) :
    (Instr.lookup T (.map (some b)) (ek k) ok).run P w = .ok (if ok then .tuple #[((mlook k l).map ev).getD z, .bool (mlook k l).isSome] else ((mlook k l).map ev).getD z) w := by
  obtain ⟨es, clock, hb, hes, -, -⟩ := h
  have hf := run_findKey hK k hes w
  obtain ⟨d, hd, hs, hc⟩ := hK.kind
  have hpl := mlook_isSome_place k l
  cases hl : mlook k l with
  | none =>
    have hp : mplace k l = none := by rw [hl] at hpl; simpa using hpl.symm
    rw [hp] at hf
    cases ok <;> simp [Instr.lookup, run_underlying hT, MapKept.run_getObj_map hb, hc _ 9999, hf, hz, Result.andThen]
  | some v =>
    obtain ⟨j, hp⟩ : ∃ j, mplace k l = some j := Option.isSome_iff_exists.1 (by rw [← hpl, hl]; rfl)
    rw [hp, hl] at hf
    cases ok <;> simp [Instr.lookup, run_underlying hT, MapKept.run_getObj_map hb, hc _ 9999, hf, Result.andThen]
def putMap (w : World) (b : Nat) (es : Array MapEntry) (clock : Nat) : World := { w with heap := w.heap.setIfInBounds b (.map es clock) }
theorem run_setMap {w : World} {b : Nat} {es0 : Array MapEntry} {c0 : Nat} (hb : w.heap[b]? = some (.map es0 c0)) (es : Array MapEntry) (c : Nat) :
    (setObj b (.map es c)).run P w = .ok () (putMap w b es c) := by
  simp [setObj, Sem.run, hb, putMap]
theorem putMap_heap (w : World) (b : Nat) (es : Array MapEntry) (c k : Nat) : (putMap w b es c).heap[k]? = if k = b ∧ b < w.heap.size then some (.map es c) else w.heap[k]? := by
  simp only [putMap, Array.getElem?_setIfInBounds]
  by_cases h : b = k
  · subst h
    by_cases h2 : b < w.heap.size
    · simp [h2]
    · simp [h2]
  · have : ¬ k = b := fun e => h e.symm
    simp [h, this]
theorem Fr.putMap {B : Nat} {S : Nat → Prop} {a w : World} (h : Fr B S a w) {b : Nat} (hb : b < B → S b) (es : Array MapEntry) (c : Nat) : Fr B S a (putMap w b es c) :=
  h.trans ⟨rfl, rfl, rfl, by simp [Kf.putMap], fun k hk hs => by
    rw [putMap_heap, if_neg]
    rintro ⟨rfl, -⟩
    exact hs (hb hk)⟩
theorem MapIs.update {T E : TypeId} (hK : KeyBy P K ek) (hT : P.underlying T = some (.map K E)) {w : World} {b : Nat} {l : List (κ × α)} (h : MapIs ek ev w b l) (k : κ) (v : α) :
    ∃ es clock, (Instr.mapUpdate T (.map (some b)) (ek k) (ev v)).run P w = .ok () (putMap w b es clock) ∧ MapIs ek ev (putMap w b es clock) b (mupd k v l) := by
  obtain ⟨es, clock, hb, hes, hborn, hlt⟩ := h
  have hf := run_findKey hK k hes w
  obtain ⟨d, hd, hs, hc⟩ := hK.kind
  have hpl := mlook_isSome_place k l
  cases hl : mlook k l with
  | none =>
    have hp : mplace k l = none := by rw [hl] at hpl; simpa using hpl.symm
    rw [hp] at hf
    refine ⟨es.push { key := ek k, val := ev v, born := clock }, clock + 1, ?_, ?_⟩
    · simp [Instr.mapUpdate, run_underlying hT, MapKept.run_getObj_map hb, hc _ 9999, hf, Result.andThen, run_setMap hb]
    · refine ⟨_, _, by rw [putMap_heap, if_pos ⟨rfl, lt_of_heap hb⟩], ?_, ?_, ?_⟩
      · rw [mupd_none hp]; simp [hes]
      · simp only [Array.toList_push, List.map_append, List.map_cons, List.map_nil]
        rw [List.pairwise_append]
        refine ⟨hborn, by simp, fun a ha b' hb' => ?_⟩
        obtain ⟨e, he, rfl⟩ := List.mem_map.1 ha
        simp at hb'; subst hb'
        exact hlt e he
      · intro e he
        simp only [Array.toList_push, List.mem_append, List.mem_cons, List.not_mem_nil, or_false] at he
        rcases he with he | rfl
        · have := hlt e he; omega
        · simp
  | some v0 =>
    obtain ⟨j, hp⟩ : ∃ j, mplace k l = some j := Option.isSome_iff_exists.1 (by rw [← hpl, hl]; rfl)
    rw [hp, hl] at hf
    have hlen : es.size = l.length := by have := congrArg List.length hes; simpa using this
    have hj : j < es.size := by rw [hlen]; exact mplace_lt hp
    have hkey : es[j].key = ek k := by
      have h1 : (es.toList.map (fun e => (e.key, e.val)))[j]? = (l.map (fun p => (ek p.1, ev p.2)))[j]? := by rw [hes]
      have hjl : j < l.length := by omega
      simp only [List.getElem?_map, Array.getElem?_toList, Array.getElem?_eq_getElem hj, List.getElem?_eq_getElem hjl, Option.map_some, Option.some.injEq, Prod.mk.injEq] at h1
      rw [h1.1, mplace_key hp hjl]
    have hst : (Instr.keyThatStays (ek k) (ek k)).run P w = .ok (ek k) w := by simp [Instr.keyThatStays, hK.bits]
    refine ⟨es.modify j fun e => { e with key := ek k, val := ev v }, clock, ?_, ?_⟩
    · simp [Instr.mapUpdate, run_underlying hT, MapKept.run_getObj_map hb, hc _ 9999, hf, Result.andThen, run_setMap hb, Array.getElem?_eq_getElem hj, hkey, hst]
    · refine ⟨_, _, by rw [putMap_heap, if_pos ⟨rfl, lt_of_heap hb⟩], ?_, ?_, ?_⟩
      · rw [Array.toList_modify]; exact map_modify_ents hes hp
      · rw [Array.toList_modify]
        have : (es.toList.modify j fun e => { e with key := ek k, val := ev v }).map (·.born) = es.toList.map (·.born) := map_modify_born _ _ _ (fun _ => rfl)
        rw [this]; exact hborn
      · intro e he
        have hm : e.born ∈ (es.toList.modify j fun e => { e with key := ek k, val := ev v }).map (·.born) := List.mem_map.2 ⟨e, by simpa using he, rfl⟩
        rw [map_modify_born es.toList j (fun e => { e with key := ek k, val := ev v }) (fun _ => rfl)] at hm
        obtain ⟨e', he', hb'⟩ := List.mem_map.1 hm
        have := hlt e' he'
        omega
theorem MapIs.delete {T E : TypeId} (hK : KeyBy P K ek) (hT : P.underlying T = some (.map K E)) {w : World} {b : Nat} {l : List (κ × α)} (h : MapIs ek ev w b l) (k : κ) (ty : TypeId) :
    ∃ es clock, (Builtin.delete_ #[T, K] ty #[.map (some b), ek k]).run P w = .ok (.tuple #[]) (putMap w b es clock) ∧ MapIs ek ev (putMap w b es clock) b (mdel k l) := by
  obtain ⟨es, clock, hb, hes, hborn, hlt⟩ := h
  have hf := run_findKey hK k hes w
  obtain ⟨d, hd, hs, hc⟩ := hK.kind
  have hpl := mlook_isSome_place k l
  cases hl : mlook k l with
  | none =>
    have hp : mplace k l = none := by rw [hl] at hpl; simpa using hpl.symm
    rw [hp] at hf
    refine ⟨es, clock, ?_, ?_⟩
    · simp [Builtin.delete_, run_underlying hT, MapKept.run_getObj_map hb, hc _ 9999, hf, Result.andThen, run_setMap hb]
    · exact ⟨_, _, by rw [putMap_heap, if_pos ⟨rfl, lt_of_heap hb⟩], by rw [mdel_none hp]; exact hes, hborn, hlt⟩
  | some v0 =>
    obtain ⟨j, hp⟩ : ∃ j, mplace k l = some j := Option.isSome_iff_exists.1 (by rw [← hpl, hl]; rfl)
    rw [hp, hl] at hf
    have hlen : es.size = l.length := by have := congrArg List.length hes; simpa using this
    have hj : j < es.size := by rw [hlen]; exact mplace_lt hp
    have htl : (es.eraseIdxIfInBounds j).toList = es.toList.eraseIdx j := by simp [Array.eraseIdxIfInBounds, hj]
    refine ⟨es.eraseIdxIfInBounds j, clock, ?_, ?_⟩
    · simp [Builtin.delete_, run_underlying hT, MapKept.run_getObj_map hb, hc _ 9999, hf, Result.andThen, run_setMap hb]
    · refine ⟨_, _, by rw [putMap_heap, if_pos ⟨rfl, lt_of_heap hb⟩], by rw [htl]; exact map_erase_ents hes hp, ?_, fun e he => hlt e ?_⟩
      · rw [htl]
        exact hborn.sublist ((List.eraseIdx_sublist _ _).map _)
      · rw [htl] at he
        exact (List.eraseIdx_sublist _ _).subset he
omit [DecidableEq κ] in
theorem MapIs.len {T E : TypeId} (hT : P.underlying T = some (.map K E)) {w : World} {b : Nat} {l : List (κ × α)} (h : MapIs ek ev w b l) (ty : TypeId) :
    (Builtin.len_ #[T] ty #[.map (some b)]).run P w = .ok (.int .i64 l.length) w := by
  obtain ⟨es, clock, hb, hes, -, -⟩ := h
  have hlen : es.size = l.length := by have := congrArg List.length hes; simpa using this
  simp [Builtin.len_, run_underlying hT, MapKept.run_getObj_map hb, Result.andThen, hlen, goInt]
omit [DecidableEq κ] in
theorem MapIs.of_block {w w' : World} {b : Nat} {l : List (κ × α)} (h : MapIs ek ev w b l) (hb : w'.heap[b]? = w.heap[b]?) : MapIs ek ev w' b l := by
  obtain ⟨es, clock, hh, r⟩ := h
  exact ⟨es, clock, hb.trans hh, r⟩
omit [DecidableEq κ] in
theorem MapIs.lt {w : World} {b : Nat} {l : List (κ × α)} (h : MapIs ek ev w b l) : b < w.heap.size := by
  obtain ⟨es, clock, hh, -⟩ := h
  exact lt_of_heap hh
omit [DecidableEq κ] in
theorem MapIs.made (w : World) : MapIs ek ev (w.alloc (.map #[] 0)) w.heap.size ([] : List (κ × α)) :=
  ⟨#[], 0, heap_alloc_here _ _, rfl, by simp, fun e he => by simp at he⟩
end
section
variable {κ α : Type} [DecidableEq κ]
theorem mlook_upd (k k' : κ) (v : α) : ∀ l : List (κ × α), mlook k' (mupd k v l) = if k = k' then some v else mlook k' l
  | [] => by simp [mupd, mlook]
  | p :: l => by
    unfold mupd
    by_cases hk : p.1 = k
    · rw [if_pos hk]
      by_cases h2 : k = k'
      · simp [mlook, h2]
      · simp [mlook, h2, hk]
    · rw [if_neg hk]
      by_cases h2 : p.1 = k'
      · have : ¬ k = k' := fun e => hk (h2.trans e.symm)
        simp [mlook, h2, this]
      · simp [mlook, h2, mlook_upd k k' v l]
theorem mkeys_upd (k : κ) (v : α) : ∀ l : List (κ × α), (mupd k v l).map Prod.fst = if k ∈ l.map Prod.fst then l.map Prod.fst else l.map Prod.fst ++ [k]
  | [] => by simp [mupd]
  | p :: l => by
    unfold mupd
    by_cases hk : p.1 = k
    · simp [hk]
    · have h2 : ¬ k = p.1 := fun e => hk e.symm
      rw [if_neg hk, List.map_cons, mkeys_upd k v l]
      by_cases hm : k ∈ l.map Prod.fst
      · simp only [hm, if_true, List.map_cons, List.mem_cons, or_true]
      · simp only [hm, if_false, List.map_cons, List.mem_cons, or_false, h2, List.cons_append]
theorem mlook_none {k : κ} : ∀ {l : List (κ × α)}, mlook k l = none ↔ k ∉ l.map Prod.fst
  | [] => by simp [mlook]
  | p :: l => by
    unfold mlook
    by_cases hk : p.1 = k
    · simp [hk]
    · have h2 : ¬ k = p.1 := fun e => hk e.symm
      simp only [if_neg hk, List.map_cons, List.mem_cons, h2, false_or]
      exact mlook_none
theorem mkeys_del (k : κ) : ∀ l : List (κ × α), (l.map Prod.fst).Nodup → (mdel k l).map Prod.fst = (l.map Prod.fst).filter fun x => decide (x ≠ k)
  | [], _ => by simp [mdel]
  | p :: l, h => by
    rw [List.map_cons, List.nodup_cons] at h
    unfold mdel
    by_cases hk : p.1 = k
    · subst hk
      rw [if_pos rfl, List.map_cons, List.filter_cons, if_neg (by simp), List.filter_eq_self.2]
      intro x hx
      simp only [decide_eq_true_eq]
      rintro rfl
      exact h.1 hx
    · rw [if_neg hk, List.map_cons, List.map_cons, List.filter_cons, if_pos (by simpa using hk), mkeys_del k l h.2]
theorem mlook_del (k k' : κ) : ∀ l : List (κ × α), (l.map Prod.fst).Nodup → mlook k' (mdel k l) = if k = k' then none else mlook k' l
  | [], _ => by simp [mdel, mlook]
  | p :: l, h => by
    rw [List.map_cons, List.nodup_cons] at h
    unfold mdel
    by_cases hk : p.1 = k
    · rw [if_pos hk]
      by_cases h2 : k = k'
      · rw [if_pos h2]; subst h2; subst hk; exact mlook_none.2 h.1
      · rw [if_neg h2, mlook, if_neg (by rw [hk]; exact h2)]
    · rw [if_neg hk]
      unfold mlook
      rw [mlook_del k k' l h.2]
      by_cases h2 : p.1 = k'
      · have : ¬ k = k' := fun e => hk (h2.trans e.symm)
        simp [h2, this]
      · simp [h2]
end
end Go.Kf

namespace Go.Proofs.YtgjialbmlhbngaaGreatDoor
open Go Go.RowKit Go.Kf
theorem below_drewN {B : Nat} {a w : World} (h : Below B a w) (n : Nat) : Below B a (w.drewN n) := ⟨h.os, h.tape, h.output, h.size, h.block⟩
abbrev num (n : Int) : Value := .int .i64 n
theorem take_succ_eq {α : Type} {a b : List α} {j : Nat} (h : a.take j = b.take j) (ha : j < a.length) (hb : j < b.length) (he : a[j] = b[j]) : a.take (j + 1) = b.take (j + 1) := by
  rw [List.take_succ_eq_append_getElem ha, List.take_succ_eq_append_getElem hb, h, he]
theorem beq_of_take {α : Type} [BEq α] [LawfulBEq α] {a b : List α} (hl : a.length = b.length) (h : a.take a.length = b.take a.length) : (a == b) = true := by
  rw [List.take_of_length_le (Nat.le_refl _), List.take_of_length_le (by omega)] at h
  simp [h]
theorem beq_of_ne {α : Type} [BEq α] [LawfulBEq α] {a b : List α} {j : Nat} (ha : j < a.length) (hb : j < b.length) (he : (a[j] == b[j]) = false) : (a == b) = false := by
  cases h : a == b with
  | false => rfl
  | true =>
    have := eq_of_beq h
    subst this
    simp at he
theorem sameTexts (va vb : Value) (a b : List (List UInt8)) (w : World) (ha : Reads w va (a.map str)) (hb : Reads w vb (b.map str)) (hva : ∀ k, va.ownBlock = some k → k < w.heap.size) (hvb : ∀ k, vb.ownBlock = some k → k < w.heap.size) :
    Calls Tryz.prog 48 #[va, vb] w fun e w' => e = .returned (.bool (a == b)) ∧ Below w.heap.size w w' := by
  have hla := ha.le
  have hlb := hb.le
  have ha' := ha
  have hb' := hb
  obtain ⟨aa, ca, rfl, -, -⟩ := ha'
  obtain ⟨ab, cb, rfl, -, -⟩ := hb'
  simp only [List.length_map] at *
  have HA := Hd ha
  have HB := Hd hb
  clear ha hb
  by_cases hl : a.length = b.length
  · go_enter Tryz.func48, Tryz.ntmps48
    go_wp2
    go_loopw [5] (fun i wl => ∃ j : Nat, i = .int .i64 j ∧ j ≤ a.length ∧ a.take j = b.take j ∧ Below w.heap.size w wl) (fun i _ => a.length - (intOf i).toNat)
    case atStart => exact ⟨0, rfl, by omega, by simp, Below.refl _ _⟩
    case round =>
      obtain ⟨j, rfl, hj, htk, hbl⟩ := hrel
      have HT := Hd htk
      have HW := Hd hbl
      by_cases hlt : j < a.length
      · have ra := HA.out.below hbl hva
        have rb := HB.out.below hbl hvb
        obtain ⟨ba, oa, hixa, hca⟩ := ra.at (P := Tryz.prog) Tryz.underlying33 (by kernel_rfl) j (by simpa using hlt)
        obtain ⟨bb, ob, hixb, hcb⟩ := rb.at (P := Tryz.prog) Tryz.underlying33 (by kernel_rfl) j (by simpa using (by omega : j < b.length))
        simp only [List.getElem_map] at hca hcb
        rw [hl] at hixa
        clear ra rb hbl htk
        by_cases he : a[j] = b[j]
        · have hd : (a[j] == b[j]) = true := by simpa using he
          have HE := Hd he
          clear he
          go_wp2
          go_quiet (fail)
          go_wp2
          go_roundw
          case rel => exact ⟨j + 1, by go_num, by omega, take_succ_eq HT.out _ _ HE.out, below_drewN HW.out _⟩
          case measure => simp [intOf]; omega
        · have hd : (a[j] == b[j]) = false := by simpa using he
          have HE := Hd he
          clear he
          go_wp2
          go_quiet (fail)
          go_wp2
          go_ret
          exact ⟨by rw [beq_of_ne hlt (by omega) hd]; rfl, below_drewN HW.out _⟩
      · go_wp2
        go_ret
        obtain rfl : j = a.length := by omega
        exact ⟨by rw [beq_of_take hl HT.out]; rfl, HW.out⟩
  · have hd : (a == b) = false := by
      cases h : a == b with
      | false => rfl
      | true => exact absurd (by rw [eq_of_beq h]) hl
    go_enter Tryz.func48, Tryz.ntmps48
    go_wp2
    go_ret
    exact ⟨by rw [hd]; rfl, Below.refl _ _⟩
end Go.Proofs.YtgjialbmlhbngaaGreatDoor
namespace Go.Kf
open Go Go.RowKit
theorem Reads.below0 {w w' : World} {v : Value} {xs : List Value} (h : Reads w v xs) (hb : Below w.heap.size w w') : Reads w' v xs :=
  h.frame fun _ _ _ hu => (hb.cell (lt_of_cell hu)).trans hu
end Go.Kf
namespace Go.Proofs.YtgjialbmlhbngaaGreatDoor
open Go Go.RowKit Go.Kf
theorem sameTexts0 (va vb : Value) (a b : List (List UInt8)) (w : World) (ha : Reads w va (a.map str)) (hb : Reads w vb (b.map str)) :
    Calls Tryz.prog 48 #[va, vb] w fun e w' => e = .returned (.bool (a == b)) ∧ Below w.heap.size w w' := by
  have hla := ha.le
  have hlb := hb.le
  have ha' := ha
  have hb' := hb
  obtain ⟨aa, ca, rfl, -, -⟩ := ha'
  obtain ⟨ab, cb, rfl, -, -⟩ := hb'
  simp only [List.length_map] at *
  have HA := Hd ha
  have HB := Hd hb
  clear ha hb
  by_cases hl : a.length = b.length
  · go_enter Tryz.func48, Tryz.ntmps48
    go_wp2
    go_loopw [5] (fun i wl => ∃ j : Nat, i = .int .i64 j ∧ j ≤ a.length ∧ a.take j = b.take j ∧ Below w.heap.size w wl) (fun i _ => a.length - (intOf i).toNat)
    case atStart => exact ⟨0, rfl, by omega, by simp, Below.refl _ _⟩
    case round =>
      obtain ⟨j, rfl, hj, htk, hbl⟩ := hrel
      have HT := Hd htk
      have HW := Hd hbl
      by_cases hlt : j < a.length
      · have ra := HA.out.below0 hbl
        have rb := HB.out.below0 hbl
        obtain ⟨ba, oa, hixa, hca⟩ := ra.at (P := Tryz.prog) Tryz.underlying33 (by kernel_rfl) j (by simpa using hlt)
        obtain ⟨bb, ob, hixb, hcb⟩ := rb.at (P := Tryz.prog) Tryz.underlying33 (by kernel_rfl) j (by simpa using (by omega : j < b.length))
        simp only [List.getElem_map] at hca hcb
        rw [hl] at hixa
        clear ra rb hbl htk
        by_cases he : a[j] = b[j]
        · have hd : (a[j] == b[j]) = true := by simpa using he
          have HE := Hd he
          clear he
          go_wp2
          go_quiet (fail)
          go_wp2
          go_roundw
          case rel => exact ⟨j + 1, by go_num, by omega, take_succ_eq HT.out _ _ HE.out, below_drewN HW.out _⟩
          case measure => simp [intOf]; omega
        · have hd : (a[j] == b[j]) = false := by simpa using he
          have HE := Hd he
          clear he
          go_wp2
          go_quiet (fail)
          go_wp2
          go_ret
          exact ⟨by rw [beq_of_ne hlt (by omega) hd]; rfl, below_drewN HW.out _⟩
      · go_wp2
        go_ret
        obtain rfl : j = a.length := by omega
        exact ⟨by rw [beq_of_take hl HT.out]; rfl, HW.out⟩
  · have hd : (a == b) = false := by
      cases h : a == b with
      | false => rfl
      | true => exact absurd (by rw [eq_of_beq h]) hl
    go_enter Tryz.func48, Tryz.ntmps48
    go_wp2
    go_ret
    exact ⟨by rw [hd]; rfl, Below.refl _ _⟩
end Go.Proofs.YtgjialbmlhbngaaGreatDoor

namespace Go.Kf
open Go
def spl (c : UInt8) : List UInt8 → List (List UInt8)
  | [] => [[]]
  | b :: l => if b = c then [] :: spl c l else match spl c l with
    | [] => [[b]]
    | h :: t => (b :: h) :: t
theorem spl_ne (c : UInt8) : ∀ l, spl c l ≠ []
  | [] => by simp [spl]
  | b :: l => by
    unfold spl
    split
    · simp
    · split <;> simp
theorem spl_miss {c : UInt8} : ∀ {l : List UInt8}, c ∉ l → spl c l = [l]
  | [], _ => rfl
  | b :: l, h => by
    unfold spl
    rw [if_neg (fun e => h (by rw [e]; exact List.mem_cons_self)), spl_miss (l := l) (fun hm => h (List.mem_cons_of_mem _ hm))]
theorem spl_hit {c : UInt8} : ∀ {p l : List UInt8}, c ∉ p → spl c (p ++ c :: l) = p :: spl c l
  | [], l, _ => by rw [List.nil_append, spl, if_pos rfl]
  | b :: p, l, h => by
    rw [List.cons_append, spl, if_neg (fun e => h (by rw [e]; exact List.mem_cons_self)), spl_hit (p := p) (fun hm => h (List.mem_cons_of_mem _ hm))]
theorem spl_length_le (c : UInt8) : ∀ l, (spl c l).length ≤ l.length + 1
  | [] => by simp [spl]
  | b :: l => by
    have ih := spl_length_le c l
    have hne := spl_ne c l
    unfold spl
    split
    · simp; omega
    · cases hs : spl c l with
      | nil => exact absurd hs hne
      | cons h t => rw [hs] at ih; simp at ih ⊢; omega
theorem spl_length_pos (c : UInt8) (l : List UInt8) : 1 ≤ (spl c l).length := by
  have := spl_ne c l
  cases h : spl c l with
  | nil => exact absurd h this
  | cons a b => simp
theorem spl_mem_len (c : UInt8) : ∀ l, ∀ s ∈ spl c l, s.length ≤ l.length
  | [], s, h => by simp [spl] at h; simp [h]
  | b :: l, s, h => by
    have ih := spl_mem_len c l
    have hne := spl_ne c l
    unfold spl at h
    split at h
    · rcases List.mem_cons.1 h with rfl | h
      · simp
      · have := ih s h; simp; omega
    · cases hs : spl c l with
      | nil => exact absurd hs hne
      | cons a t =>
        rw [hs] at h ih
        rcases List.mem_cons.1 h with rfl | h
        · have := ih a List.mem_cons_self; simp; omega
        · have := ih s (List.mem_cons_of_mem _ h); simp; omega
theorem indexByte_cases (l : List UInt8) (c : UInt8) : (Lib.indexByte l c = -1 ∧ c ∉ l) ∨ ∃ (p q : List UInt8), l = p ++ c :: q ∧ c ∉ p ∧ Lib.indexByte l c = (p.length : Int) := by
  induction l with
  | nil => exact Or.inl ⟨rfl, by simp⟩
  | cons b l ih =>
    unfold Lib.indexByte
    by_cases h : b = c
    · subst h
      exact Or.inr ⟨[], l, rfl, by simp, by simp⟩
    · have h' : (b == c) = false := by simpa using h
      rw [h', if_neg (by simp)]
      rcases ih with ⟨h1, h2⟩ | ⟨p, q, rfl, h2, h3⟩
      · refine Or.inl ⟨by rw [h1]; rfl, ?_⟩
        intro hm
        rcases List.mem_cons.1 hm with rfl | hm
        · exact h rfl
        · exact h2 hm
      · refine Or.inr ⟨b :: p, q, rfl, ?_, ?_⟩
        · intro hm
          rcases List.mem_cons.1 hm with rfl | hm
          · exact h rfl
          · exact h2 hm
        · rw [h3, if_neg (by simp)]
          simp
theorem extract_list (l : List UInt8) (a b : Nat) : (⟨l.toArray⟩ : ByteArray).extract a b = ⟨((l.drop a).take (b - a)).toArray⟩ := by
  apply ByteArray.ext
  apply Array.toList_inj.1
  simp [ByteArray.data_extract]
theorem splitB_spl (c : UInt8) : ∀ (k : Nat) (s : List UInt8), Lib.countB ⟨s.toArray⟩ ⟨#[c]⟩ = k → (Lib.splitB ⟨#[c]⟩ 0 k ⟨s.toArray⟩) = (spl c s).map fun l => ⟨l.toArray⟩ := by
  intro k
  induction k with
  | zero =>
    intro s hc
    rw [Lib.splitB_zero]
    rcases indexByte_cases s c with ⟨h1, h2⟩ | ⟨p, q, rfl, h2, h3⟩
    · rw [spl_miss h2]; rfl
    · have hi : Lib.indexB ⟨(p ++ c :: q).toArray⟩ ⟨#[c]⟩ = (p.length : Nat) := by
        show Lib.index (p ++ c :: q) [c] = _
        rw [Lib.index_one, h3]
      have := Lib.countB_hit ⟨(p ++ c :: q).toArray⟩ ⟨#[c]⟩ p.length (Nat.le_refl 1) hi
      omega
  | succ k ih =>
    intro s hc
    rcases indexByte_cases s c with ⟨h1, h2⟩ | ⟨p, q, rfl, h2, h3⟩
    · have hi : Lib.indexB ⟨s.toArray⟩ ⟨#[c]⟩ = -1 := by
        show Lib.index s [c] = _
        rw [Lib.index_one, h1]
      have := Lib.countB_miss ⟨s.toArray⟩ ⟨#[c]⟩ hi
      omega
    · have hi : Lib.indexB ⟨(p ++ c :: q).toArray⟩ ⟨#[c]⟩ = (p.length : Nat) := by
        show Lib.index (p ++ c :: q) [c] = _
        rw [Lib.index_one, h3]
      have h4 := Lib.countB_hit ⟨(p ++ c :: q).toArray⟩ ⟨#[c]⟩ p.length (Nat.le_refl 1) hi
      rw [Lib.splitB_hit _ _ _ _ _ hi, spl_hit h2, List.map_cons]
      have hex : (⟨(p ++ c :: q).toArray⟩ : ByteArray).extract (p.length + (⟨#[c]⟩ : ByteArray).size) (⟨(p ++ c :: q).toArray⟩ : ByteArray).size = ⟨q.toArray⟩ := by
        rw [extract_list]
        congr 2
        have e1 : (⟨#[c]⟩ : ByteArray).size = 1 := rfl
        have e2 : (⟨(p ++ c :: q).toArray⟩ : ByteArray).size = p.length + (q.length + 1) := by simp [ByteArray.size]
        rw [e1, e2, List.drop_append, List.drop_of_length_le (by omega)]
        simp only [List.nil_append, Nat.add_sub_cancel_left, List.drop_succ_cons, List.drop_zero]
        exact List.take_of_length_le (by omega)
      rw [hex] at h4 ⊢
      rw [ih q (by omega)]
      congr 1
      rw [extract_list]
      congr 2
      simp
theorem countB_spl (c : UInt8) (s : List UInt8) : Lib.countB ⟨s.toArray⟩ ⟨#[c]⟩ + 1 = (spl c s).length := by
  have h := Lib.splitB_all ⟨#[c]⟩ (Nat.le_refl 1) 0 _ ⟨s.toArray⟩ rfl
  rw [splitB_spl c _ s rfl, List.length_map] at h
  exact h.symm
end Go.Kf
