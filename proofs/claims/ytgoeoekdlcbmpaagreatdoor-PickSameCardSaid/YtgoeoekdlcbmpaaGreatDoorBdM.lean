/-
  PickSame, in plain Lean: whatever the picks, the same rules run, and all is the same in the end.
-/
import Derived.Test.YtgoeoekdlcbmpaaGreatDoorBdK

namespace Go.Proofs.YtgoeoekdlcbmpaaGreatDoor
open Go Go.RowKit Go.Kf Go.Sort Go.Proofs

/-- How often each number below n stands in two lists. -/
def cntRow (n : Nat) (xs ys : List Nat) : List Nat := (List.range n).map fun k => xs.count k + ys.count k
theorem cntRow_at {n : Nat} (xs ys : List Nat) {k : Nat} (hk : k < n) : (cntRow n xs ys)[k]? = some (xs.count k + ys.count k) := by
  unfold cntRow
  rw [List.getElem?_map, List.getElem?_eq_getElem (by simpa using hk)]
  simp
theorem cntRow_nil (n : Nat) : cntRow n [] [] = List.replicate n 0 := by
  apply List.ext_getElem
  · simp [cntRow]
  · intro i h1 h2; simp [cntRow]
theorem cntRow_x {n : Nat} (xs ys : List Nat) (x : Nat) : (cntRow n xs ys).set x (xs.count x + ys.count x + 1) = cntRow n (xs ++ [x]) ys := by
  apply List.ext_getElem
  · simp [cntRow]
  · intro i h1 h2
    rw [List.getElem_set]
    by_cases h : x = i
    · subst h; simp [cntRow]; omega
    · simp [cntRow, h, List.count_cons]
theorem cntRow_y {n : Nat} (xs ys : List Nat) (x : Nat) : (cntRow n xs ys).set x (xs.count x + ys.count x + 1) = cntRow n xs (ys ++ [x]) := by
  apply List.ext_getElem
  · simp [cntRow]
  · intro i h1 h2
    rw [List.getElem_set]
    by_cases h : x = i
    · subst h; simp [cntRow]; omega
    · simp [cntRow, h, List.count_cons]
theorem count_nodup {l : List Nat} (h : l.Nodup) (a : Nat) : l.count a = if a ∈ l then 1 else 0 := by
  induction l with
  | nil => rfl
  | cons b l ih =>
    have hb := List.nodup_cons.1 h
    rw [List.count_cons, ih hb.2]
    by_cases e : b = a
    · subst e
      simp [hb.1]
    · have e2 : ¬ a = b := fun h => e h.symm
      simp [e, e2]
/-- Two picks of one build. -/
structure SameP (l : List RuleL) (P : List Nat) (T : Look) (xs ys : List Nat) (a b : Nat → St) : Prop where
  len : xs.length = ys.length
  ran : cntP P a isRan = cntP P b isRan ∧ cntP P a isHit = cntP P b isHit ∧ cntP P a isFailed = cntP P b isFailed ∧ cntP P a isLeft = cntP P b isLeft
  same : ∀ i ∈ P, (a i).state = (b i).state ∧ resOf (a i) = resOf (b i)
  two : ∀ i, xs.count i + ys.count i = 0 ∨ xs.count i + ys.count i = 2
  inx : ∀ i ∈ xs, i ∈ P
  iny : ∀ i ∈ ys, i ∈ P
  few : xs.length ≤ P.length
theorem pick_none {l : List RuleL} {P : List Nat} {T : Look} {c' : Option CS} {st' : Nat → St} {ks : List Nat} (h : StepsL l P T none (fun _ => st0) ks c' st') : c' = none := (h.steps.nohit rfl (fun _ _ => rfl)).1
theorem same_picks {l : List RuleL} {P o : List Nat} {T : Look} {xs ys : List Nat} {ca cb : Option CS} {a b : Nat → St} (ho : Ord l P o) (ha : StepsL l P T none (fun _ => st0) xs ca a) (hb : StepsL l P T none (fun _ => st0) ys cb b) (ea : readyL l P a = []) (eb : readyL l P b = []) : SameP l P T xs ys a b := by
  have h0 : COk none := fun c h => by cases h
  have ia := (ha.steps.inv ho (BInv.zero _ _ _) h0).1
  have ib := (hb.steps.inv ho (BInv.zero _ _ _) h0).1
  have wa := over_all ho.ok ia ea
  have wb := over_all ho.ok ib eb
  have na := (ha.steps.nohit rfl (fun _ _ => rfl)).2
  have nb := (hb.steps.nohit rfl (fun _ _ => rfl)).2
  have hs := fun i (hi : i ∈ P) => final_same ho ia ib wa wb hi
  have ra := ha.ran (fun _ _ => rfl)
  have rb := hb.ran (fun _ _ => rfl)
  have hmem : ∀ i, i ∈ xs ↔ i ∈ ys := fun i => by
    rw [ra.2, rb.2]
    constructor
    · rintro ⟨h1, h2⟩; rw [(hs i h1).1] at h2; exact ⟨h1, h2⟩
    · rintro ⟨h1, h2⟩; rw [← (hs i h1).1] at h2; exact ⟨h1, h2⟩
  have hp : ∀ (p : St → Bool), (∀ s t : St, s.state = t.state → s.hit = t.hit → p s = p t) → cntP P a p = cntP P b p := fun p h => cnt_congr (fun i hi => h _ _ (hs i hi).1 ((na i hi).trans (nb i hi).symm))
  refine ⟨?_, ⟨hp _ ?_, hp _ ?_, hp _ ?_, hp _ ?_⟩, fun i hi => ⟨(hs i hi).1, ?_⟩, fun i => ?_, fun i hi => ((ra.2 i).1 hi).1, fun i hi => ((rb.2 i).1 hi).1, ?_⟩
  · exact ((List.perm_ext_iff_of_nodup ra.1 rb.1).2 hmem).length_eq
  · intro s t h1 h2; simp only [isRan, h1, h2]
  · intro s t h1 h2; simp only [isHit, h1, h2]
  · intro s t h1 h2; simp only [isFailed, h1]
  · intro s t h1 h2; simp only [isLeft, h1]
  · unfold resOf
    rw [(hs i hi).1, (hs i hi).2.1]
  · rw [count_nodup ra.1, count_nodup rb.1]
    by_cases h : i ∈ xs
    · rw [if_pos h, if_pos ((hmem i).1 h)]; exact Or.inr rfl
    · rw [if_neg h, if_neg (fun e => h ((hmem i).2 e))]; exact Or.inl rfl
  · exact nodup_sub xs P ra.1 (fun i hi => ((ra.2 i).1 hi).1)
theorem ints_info : (Tryz.prog.info? 3).map (fun i => (i.zero, i.size, i.bytes)) = some (some (.int .i64 0), 1, 8) := by kernel_rfl
theorem ints_make (n : Nat) (hn : n ≤ 1000000) (w : World) :
    (Instr.makeSlice 24 (.int .i64 (n : Int)) (.int .i64 (n : Int))).run Tryz.prog w = .ok (.slice (some ⟨w.heap.size, 0, none⟩) n n) (w.alloc (.cells ((List.replicate n 0).map intE).toArray 3)) := by
  obtain ⟨i0, hi, hz0, hz1, hz2⟩ := info_parts ints_info
  have h := run_make (P := Tryz.prog) w 24 3 i0 (.int .i64 0) Tryz.underlying24 hi hz0 .i64 .i64 (n : Int) (n : Int) (by omega) (by omega) (by rw [hz2]; omega) (by omega)
  rw [h, hz1]
  have e : ((n : Int)).toNat = n := by omega
  rw [e, Nat.mul_one]
  have e2 : (Value.int .i64 0).cells = #[.int .i64 0] := rfl
  have e3 : madeCells #[Value.int .i64 0] n = ((List.replicate n 0).map intE).toArray := by
    apply Array.ext
    · simp [size_madeCells]
    · intro i h1 h2
      simp [madeCells, Nat.mod_one]
  rw [e2, e3]
/-- Block g holds the numbers xs. -/
abbrev Nums (w : World) (g : Nat) (xs : List Nat) : Prop := VRow 3 w g (xs.map intE)
theorem Nums.at {w : World} {g : Nat} {xs : List Nat} (h : Nums w g xs) {k c : Nat} (hk : xs[k]? = some c) : w.cell? ⟨g, k, none⟩ = some (intE c) := h.cell (by rw [List.getElem?_map, hk]; rfl)
theorem Nums.put {w : World} {g : Nat} {xs : List Nat} (h : Nums w g xs) (k c : Nat) : Nums (w.setCell ⟨g, k, none⟩ (intE c)) g (xs.set k c) := by
  unfold Nums
  rw [List.map_set]
  exact h.set k _
end Go.Proofs.YtgoeoekdlcbmpaaGreatDoor
