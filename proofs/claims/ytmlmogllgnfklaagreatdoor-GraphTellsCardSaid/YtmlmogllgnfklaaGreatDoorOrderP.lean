/-
  slices.ContainsFunc, IndexFunc, Contains on ints; the edges as they read; rows of bools.
-/
import Derived.Test.YtmlmogllgnfklaaGreatDoorEdges
namespace Go.Proofs.YtmlmogllgnfklaaGreatDoor
open Go Go.RowKit Go.Kf Go.Sort Go.Proofs

theorem fnGives_drew {g : Nat} {L args : Array Value} {r : Value} {W : World} (h : Calls Tryz.prog g (args ++ L) W fun e w' => e = .returned r ∧ w' = W) : FnGives Tryz.prog g L args r W :=
  h.mono fun _ _ ⟨h1, h2⟩ => ⟨h1, 0, h2⟩

/-- A predicate on the ints of a list. -/
def PredI (p : Nat → Bool) (g : Nat) (L : Array Value) (l : List Nat) (w : World) : Prop := (∀ (args : Array Value) (w : World), (callFunc g args).run Tryz.prog w = .ok (.enter g args) w) ∧ ∀ (W : World) (x : Nat), x ∈ l → Below w.heap.size w W → FnGives Tryz.prog g L #[intE x] (.bool (p x)) W

theorem cells_attach {w : World} {a : Option Addr} {n c : Nat} {l : List Nat} {x : Nat} {r : List Nat} (hl : l = x :: r) (hr : Reads w (.slice a n c) (l.map intE)) : ∃ b o, a = some ⟨b, o, none⟩ ∧ n = l.length ∧ l.length ≤ 9223372036854775807 ∧ ∀ j (hj : j < l.length), w.cell? ⟨b, o + j, none⟩ = some (intE l[j]) := by
  obtain ⟨a', c', e, hle, hc⟩ := hr
  cases e
  subst hl
  obtain ⟨b, o, rfl, hc0⟩ := hc 0 (intE x) rfl
  refine ⟨b, o, rfl, by rw [List.length_map], by simpa using hle, fun j hj => ?_⟩
  obtain ⟨b', o', e, hcj⟩ := hc j (intE (x :: r)[j]) (by rw [List.getElem?_map, List.getElem?_eq_getElem hj]; rfl)
  cases e
  exact hcj

theorem anyInt_any (p : Nat → Bool) (g : Nat) (L : Array Value) (v : Value) (l : List Nat) (w : World) (hr : Reads w v (l.map intE)) (hp : PredI p g L l w) :
    Calls Tryz.prog 72 #[v, .func (.func g) #[] L] w fun e w' => e = .returned (.bool (l.any p)) ∧ ∃ q, w' = w.drewN q := by
  obtain ⟨a, c, rfl, -, -⟩ := id hr
  cases hl : l with
  | nil =>
    refine (Tryz.slices_ContainsFunc_empty_f72 (α := Nat) a c _ w).mono ?_
    rintro e w' ⟨rfl, rfl⟩
    exact ⟨rfl, 0, rfl⟩
  | cons x r =>
    obtain ⟨b, o, rfl, hn, hle, hc⟩ := cells_attach hl hr
    letI : Inhabited {y : Nat // y ∈ l} := ⟨⟨x, by rw [hl]; exact List.mem_cons_self ..⟩⟩
    have K := Tryz.slices_ContainsFunc_f72 (α := {y : Nat // y ∈ l}) (fun y => intE y.1) (fun y => p y.1) g L hp.1 b o l.length c l.attach w (fun W y hb => hp.2 W y.1 y.2 hb) (by simp) hle (fun j hj => by
      have hj' : j < l.length := by simpa using hj
      rw [hc j hj', getElem!_pos l.attach j hj]
      simp)
    have e1 : (l.attach.take l.length).any (fun y => p y.1) = l.any p := by
      rw [List.take_of_length_le (by simp)]
      rw [Bool.eq_iff_iff, List.any_eq_true, List.any_eq_true]
      exact ⟨fun ⟨y, _, h⟩ => ⟨y.1, y.2, h⟩, fun ⟨y, hy, h⟩ => ⟨⟨y, hy⟩, by simp, h⟩⟩
    rw [e1] at K
    rw [List.length_map, ← hl]
    exact K

/-- The first place (-1: none). -/
def idxI (p : Nat → Bool) (l : List Nat) : Int := if l.findIdx p < l.length then (l.findIdx p : Nat) else -1
theorem idxFrom_map {α : Type} (f : α → Nat) (p : Nat → Bool) (x : α) : ∀ (zs : List α) (i : Nat), Lib.idxByFrom (fun _ y => p (f y)) x zs i = if (zs.map f).findIdx p < zs.length then ((i + (zs.map f).findIdx p : Nat) : Int) else -1
  | [], i => by simp [Lib.idxByFrom]
  | z :: zs, i => by
    simp only [Lib.idxByFrom, List.map_cons, List.findIdx_cons, List.length_cons]
    by_cases h : p (f z) = true
    · simp [h]
    · have hf : p (f z) = false := by simpa using h
      rw [idxFrom_map f p x zs (i + 1)]
      simp only [hf, cond_false, Bool.false_eq_true, if_false]
      by_cases hl : (zs.map f).findIdx p < zs.length
      · rw [if_pos hl, if_pos (by omega)]
        omega
      · rw [if_neg hl, if_neg (by omega)]
theorem idxInt_any (p : Nat → Bool) (g : Nat) (L : Array Value) (v : Value) (l : List Nat) (w : World) (hr : Reads w v (l.map intE)) (hp : PredI p g L l w) :
    Calls Tryz.prog 46 #[v, .func (.func g) #[] L] w fun e w' => e = .returned (.int .i64 (idxI p l)) ∧ ∃ q, w' = w.drewN q := by
  obtain ⟨a, c, rfl, -, -⟩ := id hr
  cases hl : l with
  | nil =>
    refine (Tryz.slices_IndexFunc_empty_f46 (α := Nat) a c _ w).mono ?_
    rintro e w' ⟨rfl, rfl⟩
    exact ⟨rfl, 0, rfl⟩
  | cons x r =>
    obtain ⟨b, o, rfl, hn, hle, hc⟩ := cells_attach hl hr
    letI : Inhabited {y : Nat // y ∈ l} := ⟨⟨x, by rw [hl]; exact List.mem_cons_self ..⟩⟩
    have K := Tryz.slices_IndexFunc_f46 (α := {y : Nat // y ∈ l}) (fun y => intE y.1) (fun y => p y.1) g L hp.1 b o l.length c l.attach w (fun W y hb => hp.2 W y.1 y.2 hb) (by simp) hle (fun j hj => by
      have hj' : j < l.length := by simpa using hj
      rw [hc j hj', getElem!_pos l.attach j hj]
      simp)
    have e1 : Lib.idxBy (fun _ y => p y.1) (l.attach.take l.length) default = idxI p l := by
      rw [List.take_of_length_le (by simp)]
      unfold Lib.idxBy idxI
      have := idxFrom_map (fun y : {y : Nat // y ∈ l} => y.1) p default l.attach 0
      rw [this]
      simp
    rw [e1] at K
    rw [List.length_map, ← hl]
    exact K

theorem containsInt_any (x : Nat) (v : Value) (l : List Nat) (w : World) (hr : Reads w v (l.map intE)) :
    Calls Tryz.prog 74 #[v, intE x] w fun e w' => e = .returned (.bool (l.contains x)) ∧ w' = w := by
  obtain ⟨a, c, rfl, -, -⟩ := id hr
  cases hl : l with
  | nil =>
    refine (Tryz.slices_Contains_int_empty a c x w).mono ?_
    rintro e w' ⟨rfl, rfl⟩
    exact ⟨rfl, rfl⟩
  | cons y r =>
    obtain ⟨b, o, rfl, hn, hle, hc⟩ := cells_attach hl hr
    have K := Tryz.slices_Contains_int b o l.length c (intsB l) x w (by simp) hle (fun j hj => by
      have hj' : j < l.length := by simpa using hj
      rw [hc j hj', List.getD_eq_getElem?_getD, List.getElem?_map, List.getElem?_eq_getElem hj']
      rfl)
    have e1 : ((intsB l).take l.length).contains (x : Int) = l.contains x := by
      rw [List.take_of_length_le (by simp), Bool.eq_iff_iff, List.contains_iff_mem, List.contains_iff_mem, List.mem_map]
      exact ⟨fun ⟨z, hz, e⟩ => by have : z = x := Int.ofNat.inj e
                                  exact this ▸ hz, fun h => ⟨x, h, rfl⟩⟩
    rw [e1] at K
    rw [List.length_map, ← hl]
    exact K

/-- Edges as they read. -/
def EdgesV (w : World) (v : Value) (n : Nat) (E : Nat → List Nat) : Prop := ∃ vs, Reads w v vs ∧ vs.length = n ∧ ∀ i (h : i < vs.length), Reads w vs[i] ((E i).map intE)
theorem EdgesV.below0 {w w' : World} {v : Value} {n : Nat} {E : Nat → List Nat} (h : EdgesV w v n E) (hb : Below w.heap.size w w') : EdgesV w' v n E := by
  obtain ⟨vs, h1, h2, h3⟩ := h
  exact ⟨vs, h1.below0 hb, h2, fun i hi => (h3 i hi).below0 hb⟩
theorem reads_ints {B : Nat} {w : World} {v : Value} {n : Nat} {l : List Nat} (h : w.ownsRow B 3 1 v n ((intsB l).map (Value.int .i64))) : Reads w v (l.map intE) := by
  have := ownsRow_reads h
  rw [List.map_map] at this
  exact this
theorem EdgesAt.view {B : Nat} {w : World} {v : Value} {l : List RuleL} (h : EdgesAt B w v l) (hl : l.length ≤ 1000) : EdgesV w v l.length (edgesB l) := by
  obtain ⟨g, vs, rfl, hg, hr⟩ := h
  have hvl : vs.length = l.length := by rw [hr.len]; simp
  refine ⟨vs, ⟨_, _, by rw [hvl], by omega, fun i u hu => ⟨g, 0, rfl, by rw [Nat.zero_add]; exact hr.row.cell hu⟩⟩, hvl, fun i hi => ?_⟩
  have h1 := hr.own i hi (by rw [← hr.len]; exact hi)
  rw [List.getElem_map, List.getElem_range] at h1
  exact reads_ints h1
/-- One of them. -/
theorem EdgesV.at {w : World} {a : Option Addr} {n m c : Nat} {E : Nat → List Nat} (h : EdgesV w (.slice a m c) n E) {i : Nat} (hi : i < n) : m = n ∧ n ≤ 9223372036854775807 ∧
    ∃ b o u, (∀ w', (Instr.indexAt 72 (.slice a n c) (.int .i64 i)).run Tryz.prog w' = .ok (.pointer (some ⟨b, o, none⟩)) w') ∧ w.cell? ⟨b, o, none⟩ = some u ∧ Reads w u ((E i).map intE) := by
  obtain ⟨vs, h1, rfl, h3⟩ := h
  obtain rfl := h1.len
  obtain ⟨b, o, h4, h5⟩ := h1.at (P := Tryz.prog) Tryz.underlying72 (by kernel_rfl) i hi
  exact ⟨rfl, h1.le, b, o, _, h4, h5, h3 i hi⟩

/-! ### rows of bools -/
theorem bools_info : (Tryz.prog.info? 4).map (fun i => (i.zero, i.size, i.bytes)) = some (some (.bool false), 1, 1) := by kernel_rfl
theorem make_bools (n : Nat) (hn : n ≤ 1000000) (w : World) :
    (Instr.makeSlice 34 (.int .i64 (n : Int)) (.int .i64 (n : Int))).run Tryz.prog w = .ok (.slice (some ⟨w.heap.size, 0, none⟩) n n) (w.alloc (.cells ((List.replicate n false).map Value.bool).toArray 4)) := by
  obtain ⟨i0, hi, hz0, hz1, hz2⟩ := info_parts bools_info
  have h := run_make (P := Tryz.prog) w 34 4 i0 (.bool false) Tryz.underlying34 hi hz0 .i64 .i64 (n : Int) (n : Int) (by omega) (by omega) (by rw [hz2]; omega) (by omega)
  rw [h, hz1]
  have e : ((n : Int)).toNat = n := by omega
  rw [e, Nat.mul_one]
  have e2 : (Value.bool false).cells = #[.bool false] := rfl
  have e3 : madeCells #[Value.bool false] n = ((List.replicate n false).map Value.bool).toArray := by
    apply Array.ext
    · simp [size_madeCells]
    · intro i h1 h2
      simp [madeCells, Nat.mod_one]
  rw [e2, e3]
/-- Block g holds the bools bs. -/
abbrev Bits (w : World) (g : Nat) (bs : List Bool) : Prop := VRow 4 w g (bs.map Value.bool)
theorem Bits.at {w : World} {g : Nat} {bs : List Bool} (h : Bits w g bs) {k : Nat} (hk : k < bs.length) : w.cell? ⟨g, k, none⟩ = some (.bool bs[k]) := h.cell (by rw [List.getElem?_map, List.getElem?_eq_getElem hk]; rfl)
theorem Bits.put {w : World} {g : Nat} {bs : List Bool} (h : Bits w g bs) (k : Nat) (b : Bool) : Bits (w.setCell ⟨g, k, none⟩ (.bool b)) g (bs.set k b) := by
  unfold Bits
  rw [List.map_set]
  exact h.set k _
/-- Which numbers below n are in a list. -/
def bitsOf (n : Nat) (l : List Nat) : List Bool := (List.range n).map fun i => l.contains i
theorem bitsOf_len (n : Nat) (l : List Nat) : (bitsOf n l).length = n := by simp [bitsOf]
theorem bitsOf_at {n : Nat} (l : List Nat) {i : Nat} (hi : i < (bitsOf n l).length) : (bitsOf n l)[i] = l.contains i := by simp [bitsOf]
theorem bitsOf_nil (n : Nat) : bitsOf n [] = List.replicate n false := by
  apply List.ext_getElem
  · simp [bitsOf]
  · intro i h1 h2; simp [bitsOf]
theorem bitsOf_set {n : Nat} (l : List Nat) (k : Nat) : (bitsOf n l).set k true = bitsOf n (l ++ [k]) := by
  apply List.ext_getElem
  · simp [bitsOf]
  · intro i h1 h2
    rw [List.getElem_set]
    by_cases h : k = i
    · subst h; simp [bitsOf]
    · have h' : ¬ i = k := fun e => h e.symm
      simp [bitsOf, h, h']
end Go.Proofs.YtmlmogllgnfklaaGreatDoor

/-
  Which rule is next, and the order, in plain words.
-/
namespace Go.Proofs.YtmlmogllgnfklaaGreatDoor
open Go Go.RowKit Go.Kf Go.Sort Go.Proofs

/-- May rule i be next behind out? -/
def candB (E : Nat → List Nat) (isB : Nat → Bool) (out : List Nat) (i : Nat) : Bool := isB i && (!out.contains i && !(E i).any fun j => !out.contains j)
def nextB (E : Nat → List Nat) (isB : Nat → Bool) (n : Nat) (out : List Nat) : Option Nat := (List.range n).find? (candB E isB out)
theorem nextB_hit {E : Nat → List Nat} {isB : Nat → Bool} {n : Nat} {out : List Nat} {i : Nat} (hi : i < n) (h : candB E isB out i = true) (hn : ∀ j, j < i → candB E isB out j = false) : nextB E isB n out = some i := by
  unfold nextB
  rw [List.find?_range_eq_some]
  exact ⟨h, List.mem_range.2 hi, fun j hj => by rw [hn j hj]; rfl⟩
theorem nextB_miss {E : Nat → List Nat} {isB : Nat → Bool} {n : Nat} {out : List Nat} (hn : ∀ j, j < n → candB E isB out j = false) : nextB E isB n out = none :=
  List.find?_eq_none.2 (fun x hx => by rw [hn x (List.mem_range.1 hx)]; decide)
theorem nextB_some {E : Nat → List Nat} {isB : Nat → Bool} {n : Nat} {out : List Nat} {k : Nat} (h : nextB E isB n out = some k) : k < n ∧ candB E isB out k = true :=
  ⟨List.mem_range.1 (List.mem_of_find?_eq_some h), List.find?_some h⟩
def orderGo (E : Nat → List Nat) (isB : Nat → Bool) (n : Nat) : Nat → List Nat → Option (List Nat)
  | 0, out => some out
  | f + 1, out => match nextB E isB n out with
    | none => none
    | some k => orderGo E isB n f (out ++ [k])
def manyB (isB : Nat → Bool) (n : Nat) : Nat := ((List.range n).filter isB).length
theorem manyB_le (isB : Nat → Bool) (n : Nat) : manyB isB n ≤ n := by
  unfold manyB
  exact Nat.le_trans (List.length_filter_le _ _) (by simp)
theorem manyB_succ (isB : Nat → Bool) (n : Nat) : manyB isB (n + 1) = manyB isB n + if isB n = true then 1 else 0 := by
  unfold manyB
  rw [List.range_succ, List.filter_append, List.length_append]
  congr 1
  by_cases h : isB n = true
  · simp [h]
  · simp [h]
/-- The order of those that are so (none: there is none). -/
def orderB (E : Nat → List Nat) (isB : Nat → Bool) (n : Nat) : Option (List Nat) := orderGo E isB n (manyB isB n) []
theorem orderGo_some {E : Nat → List Nat} {isB : Nat → Bool} {n f k : Nat} {out : List Nat} (h : nextB E isB n out = some k) : orderGo E isB n (f + 1) out = orderGo E isB n f (out ++ [k]) := by
  simp [orderGo, h]
theorem orderGo_none {E : Nat → List Nat} {isB : Nat → Bool} {n f : Nat} {out : List Nat} (h : nextB E isB n out = none) : orderGo E isB n (f + 1) out = none := by
  simp [orderGo, h]

/-- How long a slice is. -/
def lenV : Value → Nat
  | .slice _ n _ => n
  | _ => 0
end Go.Proofs.YtmlmogllgnfklaaGreatDoor
