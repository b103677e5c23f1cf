/-
  The laws' ahead: one rule needs the other one.
-/
import Derived.Test.YtmlmogllgnfklaaGreatDoorGOrder
import Derived.Test.YtmlmogllgnfklaaGreatDoorOwnR
import Derived.Test.YtmlmogllgnfklaaGreatDoorGraphP
namespace Go.Proofs.YtmlmogllgnfklaaGreatDoor
open Go Go.RowKit Go.Kf Go.Sort Go.Proofs

def aheadL : List RuleL := [⟨[97], [117, 112, 112, 101, 114], [], [[98]]⟩, ⟨[98], [119, 114, 105, 116, 101], [120], []⟩]
theorem aheadL_right : RightS aheadL := by
  have h0 : errAt aheadL 0 ⟨[97], [117, 112, 112, 101, 114], [], [[98]]⟩ = 0 := by decide +kernel
  have h1 : errAt aheadL 1 ⟨[98], [119, 114, 105, 116, 101], [120], []⟩ = 0 := by decide +kernel
  refine ⟨by decide, fun i r h => ?_⟩
  match i, h with
  | 0, h => cases h; exact h0
  | 1, h => cases h; exact h1
  | n + 2, h => cases h
theorem aheadL_order : orderB (edgesB aheadL) (fun _ => true) aheadL.length = some [1, 0] := by decide +kernel

/-- What is short is not long. -/
theorem short_bounds {R : List RV} (h : ∀ x ∈ R, ShortR x.1) : ∀ x ∈ R, x.1.out.length ≤ 1000000 ∧ x.1.word.length ≤ 100000 ∧ (∀ s ∈ x.1.ins, s.length ≤ 1000000) ∧ x.1.ins.length ≤ 1000 := fun x hx => by
  obtain ⟨h1, h2, h3, h4, h5, h6⟩ := h x hx
  exact ⟨by omega, by omega, fun s hs => by have := h5 s hs; omega, by omega⟩
theorem short_other {R R' : List RV} (h : ∀ x ∈ R, ShortR x.1) (he : R'.map Prod.fst = R.map Prod.fst) : ∀ x ∈ R', ShortR x.1 := fun x hx => by
  have hm : x.1 ∈ R.map Prod.fst := he ▸ List.mem_map.2 ⟨x, hx, rfl⟩
  obtain ⟨y, hy, e⟩ := List.mem_map.1 hm
  exact e ▸ h y hy

/-- The two rules as they are laid. -/
def aheadR (b : Nat) : List RV := [(⟨[97], [117, 112, 112, 101, 114], [], [[98]]⟩, .slice (some ⟨b, 0, none⟩) 1 1), (⟨[98], [119, 114, 105, 116, 101], [120], []⟩, .slice none 0 0)]
theorem aheadR_short (b : Nat) : ∀ x ∈ aheadR b, x.1.out.length ≤ 1000000 ∧ x.1.word.length ≤ 100000 ∧ (∀ s ∈ x.1.ins, s.length ≤ 1000000) ∧ x.1.ins.length ≤ 1000 := by
  intro x hx
  simp only [aheadR, List.mem_cons, List.not_mem_nil, or_false] at hx
  rcases hx with rfl | rfl
  · exact ⟨by simp, by simp, fun s hs => (by obtain rfl := List.mem_singleton.1 hs; simp), by simp⟩
  · exact ⟨by simp, by simp, fun s hs => (by cases hs), by simp⟩
theorem aheadR_at {w W1 W2 : World} (h1 : w.alloc (.cells #[.string ⟨#[98]⟩] 9) = W1)
    (h2 : W1.alloc (.cells #[.string ⟨#[97]⟩, .string ⟨#[117, 112, 112, 101, 114]⟩, .string ⟨#[]⟩, .slice (some ⟨w.heap.size, 0, none⟩) 1 1, .string ⟨#[98]⟩, .string ⟨#[119, 114, 105, 116, 101]⟩, .string ⟨#[120]⟩, .slice none 0 0] 27) = W2) :
    RulesAt W2 (.slice (some ⟨w.heap.size + 1, 0, none⟩) 2 2) (aheadR w.heap.size) := by
  have hz : W1.heap.size = w.heap.size + 1 := by rw [← h1]; simp
  have hc : ∀ j, W2.cell? ⟨w.heap.size + 1, j, none⟩ = (#[Value.string ⟨#[97]⟩, .string ⟨#[117, 112, 112, 101, 114]⟩, .string ⟨#[]⟩, .slice (some ⟨w.heap.size, 0, none⟩) 1 1, .string ⟨#[98]⟩, .string ⟨#[119, 114, 105, 116, 101]⟩, .string ⟨#[120]⟩, .slice none 0 0] : Array Value)[j]? := fun j => by
    rw [← hz, ← h2, cell_of_heap (heap_alloc_here W1 _)]
  have hb : W2.cell? ⟨w.heap.size, 0, none⟩ = some (.string ⟨#[98]⟩) := by
    have h3 : W1.cell? ⟨w.heap.size, 0, none⟩ = some (.string ⟨#[98]⟩) := by rw [← h1, cell_of_heap (heap_alloc_here w _)]; rfl
    rw [← h2]
    exact (((Below.refl _ W1).alloc (Nat.le_refl _) _).cell (p := ⟨w.heap.size, 0, none⟩) (by simp; omega)).trans h3
  refine ⟨⟨some ⟨w.heap.size + 1, 0, none⟩, 2, rfl, by simp [aheadR], fun i row hi => ⟨_, _, rfl, fun j u hj => ?_⟩⟩, fun x hx => ?_⟩
  · rw [hc]
    match i, hi with
    | 0, hi =>
      cases hi
      match j, hj with
      | 0, hj => cases hj; rfl
      | 1, hj => cases hj; rfl
      | 2, hj => cases hj; rfl
      | 3, hj => cases hj; rfl
      | n + 4, hj => cases hj
    | 1, hi =>
      cases hi
      match j, hj with
      | 0, hj => cases hj; rfl
      | 1, hj => cases hj; rfl
      | 2, hj => cases hj; rfl
      | 3, hj => cases hj; rfl
      | n + 4, hj => cases hj
    | n + 2, hi => cases hi
  · simp only [aheadR, List.mem_cons, List.not_mem_nil, or_false] at hx
    rcases hx with rfl | rfl
    · refine ⟨⟨some ⟨w.heap.size, 0, none⟩, 1, rfl, by simp, fun i u hi => ⟨_, _, rfl, ?_⟩⟩, fun a n c h => ?_⟩
      · match i, hi with
        | 0, hi => cases hi; exact hb
        | n + 1, hi => cases hi
      · cases h
        exact Nat.le_refl _
    · refine ⟨⟨none, 0, rfl, by simp, fun i u hi => (by cases hi)⟩, fun a n c h => ?_⟩
      cases h
      exact Nat.le_refl _

set_option maxRecDepth 100000 in
set_option maxHeartbeats 4000000 in
theorem ahead_any (w : World) (S : Nat → Addr) (hm : Ml w) (hE : KErr w S) (hN : NErr w) (ht : Tab w) :
    Calls Tryz.prog 7 #[] w fun e w' => e = .returned (.bool true) ∧ Below w.heap.size w w' := by
  obtain ⟨W1, hW1⟩ : ∃ W, w.alloc (.cells #[.string ⟨#[98]⟩] 9) = W := ⟨_, rfl⟩
  obtain ⟨W2, hW2⟩ : ∃ W, W1.alloc (.cells #[.string ⟨#[97]⟩, .string ⟨#[117, 112, 112, 101, 114]⟩, .string ⟨#[]⟩, .slice (some ⟨w.heap.size, 0, none⟩) 1 1, .string ⟨#[98]⟩, .string ⟨#[119, 114, 105, 116, 101]⟩, .string ⟨#[120]⟩, .slice none 0 0] 27) = W := ⟨_, rfl⟩
  have hz1 : W1.heap.size = w.heap.size + 1 := by rw [← hW1]; simp
  have hA : Below w.heap.size w W2 := hW2 ▸ (hW1 ▸ (Below.refl _ w).alloc (Nat.le_refl _) _ : Below w.heap.size w W1).alloc (by omega) _
  have hra := aheadR_at hW1 hW2
  have KO := Lib.hid (gorder_any (aheadR w.heap.size) (.slice (some ⟨w.heap.size + 1, 0, none⟩) 2 2) W2 S hra (fun a n c h => by cases h; exact Nat.le_refl _) (hm.below hA (Nat.le_refl _)) (hE.below hA (Nat.le_refl _)) (hN.below hA (Nat.le_refl _)) (tab_below ht hA (Nat.le_refl _)) (aheadR_short _) (by simp [aheadR]))
  have HA := Lib.hid hA
  clear hm hE hN ht hra hA
  go_enter Tryz.func7, Tryz.ntmps7
  go_wp2_with fail
  refine KO.out.mono ?_
  rintro e w3 ⟨ha, hb3⟩
  have hal : (aheadR w.heap.size).map Prod.fst = aheadL := rfl
  rw [hal] at ha
  rcases ha with ⟨-, ⟨o, u, ho, rfl, how⟩ | ⟨ho, -⟩⟩ | ⟨T, x, -, hbad⟩
  · rw [aheadL_order] at ho
    cases ho
    have HB3 := Lib.hid (HA.out.trans (hb3.mono HA.out.size))
    have HRD : Hid (Reads w3 u ([1, 0].map num)) := Lib.hid (ownsRow_reads how)
    have HLT := Lib.hid (fun k hk => (how.lt k hk).2)
    clear how hb3 KO hal
    go_wp2_with fail
    refine (sameInts u (.slice (some ⟨w3.heap.size, 0, none⟩) 2 2) [1, 0] [1, 0] (w3.alloc (.cells #[.int .i64 1, .int .i64 0] 3)) (HRD.out.below0 ((Below.refl _ _).alloc (Nat.le_refl _) _)) ?_ (fun k hk => by have := HLT.out k hk; simp; omega) (fun k hk => by cases hk; simp)).mono ?_
    · refine ⟨some ⟨w3.heap.size, 0, none⟩, 2, rfl, by simp, fun i q hq => ⟨_, _, rfl, ?_⟩⟩
      rw [cell_of_heap (heap_alloc_here w3 _)]
      match i, hq with
      | 0, hq => cases hq; rfl
      | 1, hq => cases hq; rfl
      | n + 2, hq => cases hq
    rintro e w4 ⟨rfl, hb4⟩
    have HB4 := Lib.hid ((HB3.out.alloc HB3.out.size _).trans (hb4.mono (by have := HB3.out.size; simp; omega)))
    clear hb4
    go_wp2
    go_ret
    exact ⟨rfl, HB4.out⟩
  · rw [aheadL_order] at ho
    cases ho
  · exact absurd aheadL_right hbad.wrong
end Go.Proofs.YtmlmogllgnfklaaGreatDoor
