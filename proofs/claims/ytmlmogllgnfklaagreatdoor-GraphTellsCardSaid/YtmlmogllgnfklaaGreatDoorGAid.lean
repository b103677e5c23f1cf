/-
  What Needs, Leaves, Order and Cycle stand on: a sheet's answer, outs' places, the map of those needed.
-/
import Derived.Test.YtmlmogllgnfklaaGreatDoorGraphP
namespace Go.Proofs.YtmlmogllgnfklaaGreatDoor
open Go Go.RowKit Go.Kf Go.Sort Go.Proofs

/-- What a wrong sheet is told. -/
def SheetBad (S : Nat → Addr) (l : List RuleL) (B : Nat) (err : Value) (w' : World) : Prop :=
  (40 < l.length ∧ err = errI (S 1)) ∨
  (l.length ≤ 40 ∧ ∃ i r m g, (∀ j q, j < i → l[j]? = some q → errAt l j q = 0) ∧ l[i]? = some r ∧ errAt l i r = m + 1 ∧ err = .iface 77 (.pointer (some ⟨g, 0, none⟩)) ∧ B ≤ g ∧ w'.heap[g]? = some (.cells #[.int .i64 (i : Int), errI (S m)] 79 (0, 0)))
theorem SheetBad.below {S : Nat → Addr} {l : List RuleL} {B : Nat} {err : Value} {w w' : World} (h : SheetBad S l B err w) (hb : Below w.heap.size w w') : SheetBad S l B err w' := by
  rcases h with h | ⟨h0, i, r, m, g, h1, h2, h3, h4, h5, h6⟩
  · exact Or.inl h
  · exact Or.inr ⟨h0, i, r, m, g, h1, h2, h3, h4, h5, (hb.block g (lt_of_heap h6)).trans h6⟩
/-- A sheet that is right. -/
def RightS (l : List RuleL) : Prop := l.length ≤ 40 ∧ Right l
theorem sheet_split {S : Nat → Addr} {l : List RuleL} {B : Nat} {e : Ending} {w' : World} (h : SheetAns S l B e w') : (RightS l ∧ e = .returned .nilIface) ∨ ∃ T x, e = .returned (.iface T x) ∧ SheetBad S l B (.iface T x) w' := by
  rcases h with ⟨h1, h2, rfl⟩ | ⟨h1, rfl⟩ | ⟨h0, i, r, m, g, h1, h2, h3, rfl, h5, h6⟩
  · exact Or.inl ⟨⟨h1, h2⟩, rfl⟩
  · exact Or.inr ⟨_, _, rfl, Or.inl ⟨h1, rfl⟩⟩
  · exact Or.inr ⟨_, _, rfl, Or.inr ⟨h0, i, r, m, g, h1, h2, h3, rfl, h5, h6⟩⟩
theorem SheetBad.wrong {S : Nat → Addr} {l : List RuleL} {B : Nat} {err : Value} {w' : World} (h : SheetBad S l B err w') : ¬ RightS l := fun hr => by
  rcases h with ⟨h1, -⟩ | ⟨-, i, r, m, g, -, h2, h3, -⟩
  · have := hr.1; omega
  · have := hr.2 i r h2
    omega

theorem idxR_cases (p : RV → Bool) (R : List RV) : (∃ k, ∃ h : k < R.length, idxR p R = (k : Int) ∧ p R[k] = true) ∨ (idxR p R = -1 ∧ ∀ x ∈ R, p x = false) := by
  unfold idxR
  by_cases h : R.findIdx p < R.length
  · exact Or.inl ⟨_, h, by rw [if_pos h], List.findIdx_getElem⟩
  · refine Or.inr ⟨by rw [if_neg h], fun x hx => Bool.eq_false_iff.2 (fun hp => h (List.findIdx_lt_length.2 ⟨x, hx, hp⟩))⟩

/-- The places of outs. -/
def PlacesAt (l : List RuleL) (outs : List (List UInt8)) (ks : List Nat) : Prop := (∀ k ∈ ks, k < l.length) ∧ ks.map (fun k => (l.getD k noR).out) = outs
theorem PlacesAt.nil (l : List RuleL) : PlacesAt l [] [] := ⟨fun k h => (by cases h), rfl⟩
theorem PlacesAt.snoc {l : List RuleL} {outs : List (List UInt8)} {ks : List Nat} {k : Nat} {s : List UInt8} (h : PlacesAt l outs ks) (hk : k < l.length) (he : l[k].out = s) : PlacesAt l (outs ++ [s]) (ks ++ [k]) := by
  refine ⟨fun j hj => ?_, ?_⟩
  · rcases List.mem_append.1 hj with hj | hj
    · exact h.1 j hj
    · obtain rfl := List.mem_singleton.1 hj
      exact hk
  · rw [List.map_append, h.2, List.map_singleton, List.getD_eq_getElem?_getD, List.getElem?_eq_getElem hk, Option.getD_some, he]
theorem PlacesAt.len {l : List RuleL} {outs : List (List UInt8)} {ks : List Nat} (h : PlacesAt l outs ks) : ks.length = outs.length := by
  rw [← h.2, List.length_map]
theorem PlacesAt.mem {l : List RuleL} {outs : List (List UInt8)} {ks : List Nat} (h : PlacesAt l outs ks) (hr : Right l) {k : Nat} (hk : k < l.length) : k ∈ ks ↔ l[k].out ∈ outs := by
  rw [← h.2, List.mem_map]
  constructor
  · intro hm
    exact ⟨k, hm, by rw [List.getD_eq_getElem?_getD, List.getElem?_eq_getElem hk]; rfl⟩
  · rintro ⟨j, hj, e⟩
    have hj2 := h.1 j hj
    rw [List.getD_eq_getElem?_getD, List.getElem?_eq_getElem hj2, Option.getD_some] at e
    have := hr.outs hj2 hk e
    exact this ▸ hj

/-- The map of those that are needed. -/
def needM (N : List Nat) : List (Int × Bool) := N.map fun (k : Nat) => ((k : Int), true)
theorem needM_look (N : List Nat) (k : Nat) : mlook (k : Int) (needM N) = if k ∈ N then some true else none := by
  induction N with
  | nil => rfl
  | cons a N ih =>
    unfold needM at ih ⊢
    rw [List.map_cons]
    unfold mlook
    by_cases h : a = k
    · subst h
      simp
    · have h1 : ¬ (a : Int) = (k : Int) := by omega
      have h2 : ¬ k = a := fun e => h e.symm
      simp only [h1, if_false, List.mem_cons, h2, false_or]
      exact ih
theorem needM_upd {N : List Nat} {k : Nat} (h : k ∉ N) : mupd (k : Int) true (needM N) = needM (N ++ [k]) := by
  have h1 : mplace (k : Int) (needM N) = none := by
    have h2 := mlook_isSome_place (k : Int) (needM N)
    rw [needM_look, if_neg h] at h2
    cases hp : mplace (k : Int) (needM N) with
    | none => rfl
    | some j => rw [hp] at h2; cases h2
  rw [mupd_none h1]
  simp [needM]
/-- How many keys a map holds. -/
def mapLen (w : World) (b : Nat) : Nat := match w.heap[b]? with
  | some (.map es _) => es.size
  | _ => 0
theorem mapLen_is {κ α : Type} {ek : κ → Value} {ev : α → Value} {w : World} {b : Nat} {l : List (κ × α)} (h : MapIs ek ev w b l) : mapLen w b = l.length := by
  obtain ⟨es, clock, h1, h2, -⟩ := h
  unfold mapLen
  rw [h1]
  have := congrArg List.length h2
  simpa using this
theorem needUnd : Tryz.prog.underlying 74 = some (.map 3 4) := Tryz.underlying74
theorem needKey : KeyBy Tryz.prog 3 (Value.int .i64) := KeyBy.int Tryz.underlying3
theorem needZero (w : World) : (zeroValue 4).run Tryz.prog w = .ok (.bool false) w := by kernel_rfl
theorem need_step {w : World} {b : Nat} {N : List Nat} (h : MapIs (Value.int .i64) Value.bool w b (needM N)) {k : Nat} (hk : k ∉ N) :
    ∃ W, (Instr.mapUpdate 74 (.map (some b)) (.int .i64 (k : Int)) (.bool true)).run Tryz.prog w = .ok () W ∧ MapIs (Value.int .i64) Value.bool W b (needM (N ++ [k])) ∧ Fr w.heap.size (fun q => q = b) w W ∧ W.heap.size = w.heap.size := by
  obtain ⟨es, c, h1, h2⟩ := MapIs.update needKey needUnd h (k : Int) true
  rw [needM_upd hk] at h2
  exact ⟨_, h1, h2, Fr.putMap (S := fun q => q = b) (.refl _ _ _) (fun _ => rfl) _ _, by simp [Kf.putMap]⟩
theorem needL_snoc (N : List Nat) (i : Nat) : needL (i + 1) N = needL i N ++ if N.contains i then [i] else [] := by
  unfold needL
  rw [List.range_succ, List.filter_append]
  congr 1
  by_cases h : i ∈ N
  · simp [h]
  · simp [h]
theorem edges_lt (l : List RuleL) (i : Nat) : ∀ k ∈ edgesB l i, k < l.length := fun _ hk => List.mem_range.1 (List.mem_filter.1 hk).1
theorem edges_len (l : List RuleL) (i : Nat) : (edgesB l i).length ≤ l.length := by
  unfold edgesB
  exact Nat.le_trans (List.length_filter_le _ _) (by simp)

set_option maxRecDepth 100000 in
theorem needs1_any (x : RV) (B : Nat) (s : List UInt8) (W : World) (hc : W.cell? ⟨B, 0, none⟩ = some (str s)) :
    Calls Tryz.prog 40 #[rvAgg x, .pointer (some ⟨B, 0, none⟩)] W fun e w' => e = .returned (.bool (x.1.out == s)) ∧ Below W.heap.size W w' := by
  obtain ⟨⟨x0, x1, x2, x4⟩, x3⟩ := x
  simp only
  obtain ⟨W0, hW0⟩ : ∃ W0, W.alloc (.cells #[str x0, str x1, str x2, x3] 27) = W0 := ⟨_, rfl⟩
  have hA : Below W.heap.size W W0 := hW0 ▸ (Below.refl _ W).alloc (Nat.le_refl _) _
  have h0 : W0.cell? ⟨W.heap.size, 0, none⟩ = some (str x0) := by rw [← hW0, cell_of_heap (heap_alloc_here W _)]; rfl
  have h1 := (hA.cell (p := ⟨B, 0, none⟩) (lt_of_cell hc)).trans hc
  have HA := Lib.hid hA
  obtain ⟨b, hb⟩ : ∃ b, (x0 == s) = b := ⟨_, rfl⟩
  rw [hb]
  clear hc hA
  go_enter Tryz.func40, Tryz.ntmps40
  go_wp2
  go_ret
  exact ⟨rfl, HA.out⟩
set_option maxRecDepth 100000 in
theorem leaves1_any (x : RV) (B : Nat) (s : List UInt8) (W : World) (hc : W.cell? ⟨B, 0, none⟩ = some (str s)) :
    Calls Tryz.prog 42 #[rvAgg x, .pointer (some ⟨B, 0, none⟩)] W fun e w' => e = .returned (.bool (x.1.out == s)) ∧ Below W.heap.size W w' := by
  obtain ⟨⟨x0, x1, x2, x4⟩, x3⟩ := x
  simp only
  obtain ⟨W0, hW0⟩ : ∃ W0, W.alloc (.cells #[str x0, str x1, str x2, x3] 27) = W0 := ⟨_, rfl⟩
  have hA : Below W.heap.size W W0 := hW0 ▸ (Below.refl _ W).alloc (Nat.le_refl _) _
  have h0 : W0.cell? ⟨W.heap.size, 0, none⟩ = some (str x0) := by rw [← hW0, cell_of_heap (heap_alloc_here W _)]; rfl
  have h1 := (hA.cell (p := ⟨B, 0, none⟩) (lt_of_cell hc)).trans hc
  have HA := Lib.hid hA
  obtain ⟨b, hb⟩ : ∃ b, (x0 == s) = b := ⟨_, rfl⟩
  rw [hb]
  clear hc hA
  go_enter Tryz.func42, Tryz.ntmps42
  go_wp2
  go_ret
  exact ⟨rfl, HA.out⟩
end Go.Proofs.YtmlmogllgnfklaaGreatDoor
