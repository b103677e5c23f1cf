/-
  From the reading of arguments to the words of the walks.
-/
import Derived.Test.YtmlmogllgnfklaaGreatDoorBase
import Derived.ProofKit
import Derived.OpenShut
import Derived.Deep.Slices
import Derived.Deep.Strs
namespace Go.Kf
open Go Go.RowKit Go.ChangeShapes Go.WideShapes

theorem addr_add {a : Addr} (h : a.spot = none) (n : Nat) : a.add n = ⟨a.block, a.off + n, none⟩ := by
  unfold Addr.add
  by_cases hn : n = 0
  · subst hn; simp [← h]
  · simp [hn]

/-- A slice that came in, whatever its elements: they read as rows of cells. -/
theorem readsK_open {H : Type} {enc : TypeId × Value → H} {P : Program} {T E s : Nat} (hT : P.underlying T = some (.slice E)) (hE : P.cellsOf E = s) (hs : 0 < s) {w : World} {v : Value} {fuel : Nat} {x : DataW H × List MemPlace}
    (h : DataW.trod enc P w 0 (fun _ => true) true fuel T [v] = some x) {α : Type} [Inhabited α] (row : α → List Value)
    (dec : ∀ m cs y, DataW.trod enc P w 0 (fun _ => true) true m E cs = some y → ∃ z, cs = row z) : ∃ zs : List α, ReadsK s w v (zs.map row) := by
  rcases Deep.open_slice hT h with ⟨h0, -⟩ | ⟨a, len, cap, m, n, D, Pl, h0, -, hle, hcap, hm, -, hel⟩
  · simp only [List.cons.injEq, and_true] at h0
    subst h0
    exact ⟨[], none, 0, rfl, by simp, fun i u hi => by simp at hi⟩
  · simp only [List.cons.injEq, and_true] at h0
    subst h0
    simp only [if_true] at hm
    subst hm
    rw [hE] at hel
    obtain ⟨f, hf⟩ := Deep.choose_lt (α := α) (n := len) (p := fun i z => w.cells? 0 (a.add (i * s)) s = some (row z)) (fun i hi => by
      obtain ⟨cs, h1, h2⟩ := hel i (by omega)
      obtain ⟨z, rfl⟩ := dec _ _ _ h2
      exact ⟨z, h1⟩)
    have hspot : 0 < len → a.spot = none := by
      intro h0
      obtain ⟨_, hlen, hcell⟩ := World.cells?_some (hf 0 h0)
      have h1 := hcell 0 hs
      rw [List.getElem?_eq_getElem (by omega)] at h1
      rw [Nat.zero_mul] at h1
      have e : (a.add 0).add 0 = a := by simp [Addr.add]
      rw [e] at h1
      unfold World.cell? at h1
      cases hh : w.heap[a.block]? with
      | none => rw [hh] at h1; cases h1
      | some o =>
        rw [hh] at h1
        cases o <;> simp only at h1
        case cells c t fz =>
          by_cases hsp : a.spot.isSome = true
          · rw [if_pos hsp] at h1; cases h1
          · simpa using hsp
        all_goals cases h1
    refine ⟨(List.range len).map f, some a, m, by simp, by unfold maxLen at hcap; simp; omega, fun i u hi => ?_⟩
    simp only [List.map_map, List.getElem?_map] at hi
    obtain ⟨k, hk, rfl⟩ := Option.map_eq_some_iff.1 hi
    have hlt : i < len := by
      rcases Nat.lt_or_ge i len with h' | h'
      · exact h'
      · rw [List.getElem?_eq_none (by simpa using h')] at hk; cases hk
    rw [List.getElem?_range hlt] at hk
    cases hk
    have hsp := hspot (by omega)
    obtain ⟨_, hlen, hcell⟩ := World.cells?_some (hf i hlt)
    refine ⟨a.block, a.off, by rw [← hsp], fun j u hj => ?_⟩
    have hjs : j < s := by
      rcases Nat.lt_or_ge j s with h' | h'
      · exact h'
      · rw [Function.comp_apply, List.getElem?_eq_none (by omega)] at hj; cases hj
    have h1 := hcell j hjs
    rw [addr_add hsp, addr_add rfl] at h1
    rw [h1]
    exact hj

/-- A slice of texts that came in. -/
theorem reads_open {H : Type} {enc : TypeId × Value → H} {P : Program} {T E : Nat} (hT : P.underlying T = some (.slice E)) (hS : P.underlying E = some .string) (hE : P.cellsOf E = 1) {w : World} {v : Value} {fuel : Nat} {x : DataW H × List MemPlace}
    (h : DataW.trod enc P w 0 (fun _ => true) true fuel T [v] = some x) : ∃ l : List (List UInt8), Reads w v (l.map str) := by
  obtain ⟨zs, hz⟩ := readsK_open hT hE (by decide) h (α := List UInt8) (fun l => [str l]) (fun m cs y hy => by
    obtain ⟨s, rfl, -⟩ := DataW.trod_string hS hy
    exact ⟨s.data.toList, by simp⟩)
  obtain ⟨a, cap, rfl, hle, hc⟩ := hz
  refine ⟨zs, a, cap, by simp, by simpa using hle, fun i u hi => ?_⟩
  rw [List.getElem?_map] at hi
  obtain ⟨z, hz, rfl⟩ := Option.map_eq_some_iff.1 hi
  obtain ⟨b, o, rfl, hcell⟩ := hc i [str z] (by rw [List.getElem?_map, hz]; rfl)
  exact ⟨b, o, rfl, by simpa using hcell 0 _ rfl⟩
end Go.Kf
