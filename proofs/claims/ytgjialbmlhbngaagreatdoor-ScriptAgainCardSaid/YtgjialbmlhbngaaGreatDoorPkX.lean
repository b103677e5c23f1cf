/-
  A map, by its list of keys and values, as the kit's laws on sorted keys take it; ranging over such a map. An entry of a map that is made, then stored (as a tuple assignment does).
-/
import Derived.Test.YtgjialbmlhbngaaGreatDoorPkA
import Derived.Sort.KeysCollected
import Derived.Maps.RangeRun

namespace Go.Kf
open Go Go.RowKit Go.Maps Go.WideElems Go.Sort
theorem keys_of_maps {es : List MapEntry} {α : Type} {ev : α → Value} {l : List (List UInt8 × α)} (h : es.map (fun e => (e.key, e.val)) = l.map (fun p => (str p.1, ev p.2))) : es.map (·.key) = l.map (fun p => str p.1) := by
  have := congrArg (List.map Prod.fst) h
  simpa [List.map_map, Function.comp_def] using this
theorem stamped_of {es : Array MapEntry} {clock : Nat} (hp : (es.toList.map (·.born)).Pairwise (· < ·)) (hc : ∀ e ∈ es.toList, e.born < clock) (hk : (es.toList.map (·.key)).Nodup) : MapKept.Stamped es clock :=
  ⟨hc, hp.imp fun h => Nat.ne_of_lt h, hk⟩
theorem nodup_str {α : Type} {l : List (List UInt8 × α)} (h : (l.map Prod.fst).Nodup) : (l.map (fun p => str p.1)).Nodup := by
  rw [show l.map (fun p => str p.1) = (l.map Prod.fst).map str by simp]
  exact List.pairwise_map.2 (h.imp fun hne he => hne (str_inj he))
theorem ownsMap_of_mapIs {P : Program} {K : TypeId} (hK : P.underlying K = some .string) {α : Type} {ev : α → Value} {w : World} {b : Nat} {l : List (List UInt8 × α)} (h : MapIs str ev w b l) (hn : l.length ≤ maxLen) (hk : ∀ p ∈ l, p.1.length ≤ maxLen) (hd : (l.map Prod.fst).Nodup) :
    ∃ D : DataW Unit, w.ownsMap P K (fun _ => some (.nil, [])) b l.length D ∧ (strKeys D).Perm (l.map Prod.fst) ∧ Maps.size D = l.length := by
  obtain ⟨es, clock, hb, hm, hp, hc⟩ := h
  have hks := keys_of_maps hm
  have hsz : es.size = l.length := by
    have := congrArg List.length hm
    simpa using this
  have hrd : ∀ x ∈ es.toList, ∃ p ∈ l, x.key = str p.1 ∧ rd P K (fun _ => some ((.nil : DataW Unit), ([] : List MemPlace))) x = some (.string p.1, .nil) := by
    intro x hx
    have : x.key ∈ l.map (fun p => str p.1) := by rw [← hks]; exact List.mem_map.2 ⟨x, hx, rfl⟩
    obtain ⟨p, hpl, e⟩ := List.mem_map.1 this
    refine ⟨p, hpl, e.symm, ?_⟩
    have hk2 : keyOf P K x.key = some (.string p.1) := by
      rw [← e]
      rw [WideMaps.keyOf_string_mk hK (by have := hk p hpl; simpa [ByteArray.size] using this)]
    simp [rd, hk2]
  refine ⟨_, ⟨es, clock, hb, ⟨by omega, ?_, fun x hx => ?_⟩, by omega, rfl⟩, ?_, ?_⟩
  · exact stamped_of hp hc (by rw [hks]; exact nodup_str hd)
  · obtain ⟨p, -, -, h⟩ := hrd x hx
    exact ⟨_, h⟩
  · have e1 : (es.toList.map (rg P K (fun _ => some ((.nil : DataW Unit), ([] : List MemPlace))))).map (fun q => strOf q.1) = l.map Prod.fst := by
      rw [List.map_map]
      have e2 : es.toList.map ((fun q : Lit × DataW Unit => strOf q.1) ∘ rg P K (fun _ => some ((.nil : DataW Unit), ([] : List MemPlace)))) = (es.toList.map (·.key)).map (fun v => match v with | .string s => s.data.toList | _ => []) := by
        rw [List.map_map]
        refine List.map_congr_left fun x hx => ?_
        obtain ⟨p, -, hk1, h⟩ := hrd x hx
        simp only [Function.comp_apply, rg_of h, hk1, strOf]
      rw [e2, hks, List.map_map]
      exact List.map_congr_left fun p _ => rfl
    show (((es.toList.map (rg P K _)).foldr DataW.insert []).map fun p => strOf p.1).Perm _
    rw [← e1]
    exact (WideShapes.sorted_perm _).map _
  · show ((es.toList.map (rg P K _)).foldr DataW.insert []).length = _
    rw [(WideShapes.sorted_perm _).length_eq, List.length_map]
    simpa using hsz
theorem map_eraseIdx {α β : Type} (f : α → β) : ∀ (l : List α) (i : Nat), (l.eraseIdx i).map f = (l.map f).eraseIdx i
  | [], _ => rfl
  | _ :: _, 0 => rfl
  | x :: l, i + 1 => by simp [map_eraseIdx f l i]
theorem filter_eraseIdx {l : List MapEntry} (hn : (l.map (·.born)).Nodup) {i : Nat} (hi : i < l.length) : l.filter (fun y => !(y.born == l[i].born)) = l.eraseIdx i := by
  induction l generalizing i with
  | nil => cases hi
  | cons a l ih =>
    have hn' : a.born ∉ l.map (·.born) ∧ (l.map (·.born)).Nodup := List.nodup_cons.1 hn
    cases i with
    | zero =>
      simp only [List.getElem_cons_zero, List.eraseIdx_cons_zero, List.filter_cons, beq_self_eq_true, Bool.not_true, Bool.false_eq_true, if_false]
      refine List.filter_eq_self.2 fun y hy => ?_
      have : y.born ≠ a.born := fun e => hn'.1 (e ▸ List.mem_map.2 ⟨y, hy, rfl⟩)
      simpa using this
    | succ i =>
      have hi' : i < l.length := by simpa using hi
      have hne : (a.born == l[i].born) = false := by
        have : a.born ≠ l[i].born := fun e => hn'.1 (e ▸ List.mem_map.2 ⟨l[i], List.getElem_mem hi', rfl⟩)
        simpa using this
      simp only [List.getElem_cons_succ, List.eraseIdx_cons_succ, List.filter_cons, hne, Bool.not_false, if_true, ih hn'.2 hi']
def iterLeft (w : World) (bm r : Nat) : Nat := match w.heap[bm]? with
  | some (.map es _) => (leftOf es (w.iterSeen r)).size
  | _ => 0
def Ranging {κ α : Type} (ek : κ → Value) (ev : α → Value) (bm r : Nat) (l left : List (κ × α)) (w : World) : Prop :=
  ∃ es clock since seen c0, w.heap[bm]? = some (.map es clock) ∧ w.heap[r]? = some (.mapIter (some bm) since seen c0) ∧ (∀ e ∈ es.toList, e.born < since) ∧ since ≤ c0 ∧ c0 ≤ clock ∧ (es.toList.map (·.born)).Nodup ∧
    es.toList.map (fun e => (e.key, e.val)) = l.map (fun p => (ek p.1, ev p.2)) ∧ (leftOf es seen).toList.map (fun e => (e.key, e.val)) = left.map (fun p => (ek p.1, ev p.2))
section
variable {κ α : Type} {ek : κ → Value} {ev : α → Value} {bm r : Nat} {l left : List (κ × α)}
theorem Ranging.of_blocks {w w' : World} (h : Ranging ek ev bm r l left w) (h1 : w'.heap[bm]? = w.heap[bm]?) (h2 : w'.heap[r]? = w.heap[r]?) : Ranging ek ev bm r l left w' := by
  obtain ⟨es, clock, since, seen, c0, hb, hr, h⟩ := h
  exact ⟨es, clock, since, seen, c0, h1.trans hb, h2.trans hr, h⟩
theorem Ranging.lt {w : World} (h : Ranging ek ev bm r l left w) : bm < w.heap.size ∧ r < w.heap.size := by
  obtain ⟨es, clock, since, seen, c0, hb, hr, h⟩ := h
  exact ⟨lt_of_heap hb, lt_of_heap hr⟩
theorem Ranging.start {P : Program} {T K E : TypeId} (hT : P.underlying T = some (.map K E)) {w : World} (h : MapIs ek ev w bm l) :
    ∃ w', (Instr.range T (.map (some bm))).run P w = .ok (.pointer (some ⟨w.heap.size, 0, none⟩)) w' ∧ Ranging ek ev bm w.heap.size l l w' ∧ Below w.heap.size w w' := by
  obtain ⟨es, clock, hb, hm, hp, hc⟩ := h
  refine ⟨_, run_range_map w T K E bm es clock hT hb, ⟨es, clock, clock, #[], clock, heap_alloc_old hb _, heap_alloc_here w _, hc, Nat.le_refl _, Nat.le_refl _, ?_, hm, ?_⟩, (Below.refl _ _).alloc (Nat.le_refl _) _⟩
  · exact hp.imp fun h => Nat.ne_of_lt h
  · rw [← hm]
    have : leftOf es #[] = es := by unfold leftOf; exact Array.filter_eq_self.2 (fun _ _ => by simp)
    rw [this]
theorem iterLeft_of {w : World} (h : Ranging ek ev bm r l left w) : iterLeft w bm r = left.length := by
  obtain ⟨es, clock, since, seen, c0, hb, hr, -, -, -, -, -, hl⟩ := h
  unfold iterLeft World.iterSeen
  rw [hb, hr]
  simpa using congrArg List.length hl
theorem Ranging.next {P : Program} {w : World} (h : Ranging ek ev bm r l left w) (ty : TypeId) :
    (left = [] ∧ (Instr.next (.pointer (some ⟨r, 0, none⟩)) false ty).run P w = .ok (.tuple #[.bool false]) w) ∨
    ∃ (i : Nat) (hi : i < left.length) (w' : World), (Instr.next (.pointer (some ⟨r, 0, none⟩)) false ty).run P w = .ok (.tuple #[.bool true, ek left[i].1, ev left[i].2]) w' ∧ Ranging ek ev bm r l (left.eraseIdx i) w' ∧
      Fr w.heap.size (fun k => k = r) w w' ∧ w'.heap.size = w.heap.size ∧
      (Instr.entry (.pointer (some ⟨r, 0, none⟩))).run P w' = .ok (.tuple #[ek left[i].1, ev left[i].2]) w' := by
  obtain ⟨es, clock, since, seen, c0, hb, hr, hold, hsc, hcl, hnd, hm, hl⟩ := h
  have hne : bm ≠ r := fun e => by rw [e, hr] at hb; cases hb
  rcases run_next_at (P := P) w ty r bm since c0 seen es clock hr hb hold hsc with ⟨h0, hrun⟩ | ⟨e, he, w1, hal, hrun⟩
  · left
    refine ⟨?_, hrun⟩
    have := congrArg List.length hl
    simp only [List.length_map, Array.length_toList, h0] at this
    exact List.length_eq_zero_iff.1 this.symm
  · right
    have hel := (mem_left he).1
    obtain ⟨i, hi, hie⟩ := List.getElem_of_mem he
    have hlen : (leftOf es seen).toList.length = left.length := by simpa using congrArg List.length hl
    have hil : i < left.length := by omega
    have hx : ((leftOf es seen).toList.map (fun e => (e.key, e.val)))[i]? = (left.map (fun p => (ek p.1, ev p.2)))[i]? := by rw [hl]
    rw [List.getElem?_map, List.getElem?_map, List.getElem?_eq_getElem hi, List.getElem?_eq_getElem hil, hie] at hx
    simp only [Option.map_some, Option.some.injEq, Prod.mk.injEq] at hx
    have hlf : (leftOf es (seen.push e.born)).toList = (leftOf es seen).toList.filter (fun y => !(y.born == e.born)) := by
      unfold leftOf
      simp only [Array.toList_filter, List.filter_filter, contains_push, Bool.not_or]
      exact List.filter_congr fun y _ => by rw [Bool.and_comm]
    have hndl : ((leftOf es seen).toList.map (·.born)).Nodup := by
      unfold leftOf
      rw [Array.toList_filter]
      exact (List.Sublist.map _ (List.filter_sublist)).nodup hnd
    have herase : (leftOf es seen).toList.filter (fun y => !(y.born == e.born)) = (leftOf es seen).toList.eraseIdx i := by
      rw [← hie]
      exact filter_eraseIdx hndl hi
    have hleft' : (leftOf es (seen.push e.born)).toList.map (fun e => (e.key, e.val)) = (left.eraseIdx i).map (fun p => (ek p.1, ev p.2)) := by
      rw [hlf, herase, map_eraseIdx, hl, ← map_eraseIdx]
    have hr1 : w1.heap[r]? = some (.mapIter (some bm) since seen c0) := by rcases hal with rfl | rfl <;> exact hr
    have hb1 : w1.heap[bm]? = some (.map es clock) := by rcases hal with rfl | rfl <;> exact hb
    have hset := MapKept.heap_set (o' := .mapIter (some bm) since (seen.push e.born) clock) hr1
    have hb' := (hset.2 bm hne).trans hb1
    refine ⟨i, hil, _, by rw [hrun, hx.1, hx.2], ⟨es, clock, since, seen.push e.born, clock, hb', hset.1, hold, by omega, Nat.le_refl _, hnd, hm, hleft'⟩, ?_, ?_, ?_⟩
    · rcases hal with rfl | rfl <;> exact ⟨rfl, rfl, rfl, by simp [ChangeMaps.setBlock], fun k _ hk => hset.2 k hk⟩
    · rcases hal with rfl | rfl <;> simp [ChangeMaps.setBlock]
    · rw [← hx.1, ← hx.2]
      exact run_entry_at (P := P) _ r bm since seen es clock e hset.1 hb' hel hnd
end
end Go.Kf

namespace Go.Kf
open Go Go.RowKit
section
variable {κ α : Type} [DecidableEq κ] {P : Program} {K : TypeId} {ek : κ → Value} {ev : α → Value}
theorem run_entry_new {T E : TypeId} (hK : KeyBy P K ek) (hT : P.underlying T = some (.map K E)) {w : World} {b : Nat} {es : Array MapEntry} {clock : Nat} {l : List (κ × α)} (hb : w.heap[b]? = some (.map es clock)) (hes : es.toList.map (fun e => (e.key, e.val)) = l.map (fun p => (ek p.1, ev p.2))) (k : κ) (hk : mlook k l = none) {z : Value} (hz : (zeroValue E).run P w = .ok z w) :
    (Instr.mapEntry T (.map (some b)) (ek k)).run P w = .ok (.tuple #[z, .int .i64 (clock : Int)]) (putMap w b (es.push { key := ek k, val := z, born := clock }) (clock + 1)) := by
  have hf := run_findKey hK k hes w
  obtain ⟨d, hd, hs, hc⟩ := hK.kind
  have hpl := mlook_isSome_place k l
  have hp : mplace k l = none := by rw [hk] at hpl; simpa using hpl.symm
  rw [hp] at hf
  simp [Instr.mapEntry, run_underlying hT, MapKept.run_getObj_map hb, hc _ 9999, hf, hz, Result.andThen, run_setMap hb, goInt]
theorem run_entry_store {T : TypeId} {w : World} {b : Nat} {es : Array MapEntry} {clock : Nat} {key z : Value} (hb : w.heap[b]? = some (.map (es.push { key := key, val := z, born := clock }) (clock + 1))) (hlt : ∀ e ∈ es.toList, e.born < clock) (v : Value) :
    (Instr.entryStore T (.map (some b)) (.int .i64 (clock : Int)) v).run P w = .ok () (putMap w b (es.push { key := key, val := v, born := clock }) (clock + 1)) := by
  have hi : (es.push { key := key, val := z, born := clock }).findIdx? (fun e => (e.born : Int) == (clock : Int)) = some es.size := by
    rw [Array.findIdx?_eq_some_iff_getElem]
    refine ⟨by simp, by simp, fun j hj => ?_⟩
    have hj2 : j < es.size := hj
    rw [Array.getElem_push_lt hj2]
    have := hlt es[j] (by simp)
    have hne : ¬ ((es[j].born : Int) = (clock : Int)) := by omega
    simpa using hne
  have hm : (es.push { key := key, val := z, born := clock }).modify es.size (fun e => { e with val := v }) = es.push { key := key, val := v, born := clock } := by
    apply Array.ext
    · simp
    · intro i h1 h2
      rw [Array.getElem_modify]
      by_cases hie : i = es.size
      · subst hie; simp
      · have h3 : i < es.size := by simp at h2; omega
        rw [if_neg (fun e => hie e.symm), Array.getElem_push_lt h3, Array.getElem_push_lt h3]
  simp [Instr.entryStore, MapKept.run_getObj_map hb, Result.andThen, asInt, asIntOf, hi, hm, run_setMap hb]
omit [DecidableEq κ] in
theorem mapIs_push {w : World} {b : Nat} {es : Array MapEntry} {clock : Nat} {l : List (κ × α)} {k : κ} {v : α} (hb : w.heap[b]? = some (.map (es.push { key := ek k, val := ev v, born := clock }) (clock + 1))) (hes : es.toList.map (fun e => (e.key, e.val)) = l.map (fun p => (ek p.1, ev p.2))) (hborn : (es.toList.map (·.born)).Pairwise (· < ·)) (hlt : ∀ e ∈ es.toList, e.born < clock) :
    MapIs ek ev w b (l ++ [(k, v)]) := by
  refine ⟨_, _, hb, by simp [hes], ?_, ?_⟩
  · simp only [Array.toList_push, List.map_append, List.map_cons, List.map_nil]
    rw [List.pairwise_append]
    refine ⟨hborn, by simp, fun a ha b' hb' => ?_⟩
    obtain ⟨e, he, rfl⟩ := List.mem_map.1 ha
    simp at hb'; subst hb'
    exact hlt e he
  · intro e he
    simp only [Array.toList_push, List.mem_append, List.mem_cons, List.not_mem_nil, or_false] at he
    rcases he with he | rfl
    · have := hlt e he; omega
    · simp
end
theorem putMap_alloc (w : World) (b : Nat) (es : Array MapEntry) (c : Nat) (o : Obj) (hb : b < w.heap.size) : (putMap w b es c).alloc o = putMap (w.alloc o) b es c := by
  have h : (w.heap.setIfInBounds b (.map es c)).push o = (w.heap.push o).setIfInBounds b (.map es c) := by
    apply Array.ext_getElem?
    intro i
    rw [Array.getElem?_push, Array.getElem?_setIfInBounds, Array.getElem?_setIfInBounds, Array.getElem?_push, Array.size_setIfInBounds, Array.size_push]
    by_cases h3 : i = w.heap.size
    · subst h3
      have : ¬ b = w.heap.size := by omega
      simp [this]
    · by_cases h4 : b = i
      · subst h4
        simp [h3, hb]
        omega
      · simp [h3, h4]
  simp only [putMap, World.alloc, h]
theorem putMap_size (w : World) (b : Nat) (es : Array MapEntry) (c : Nat) : (putMap w b es c).heap.size = w.heap.size := by simp [putMap]
end Go.Kf
