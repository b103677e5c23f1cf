/-
  LongTexts at any texts.
-/
import Derived.Test.YtmlmogllgnfklaaGreatDoorKeyW
namespace Go.Proofs.YtmlmogllgnfklaaGreatDoor
open Go Go.RowKit Go.Kf

/-- What LongTexts lets pass. -/
def FewTexts (l : List (List UInt8)) (many most : Nat) : Prop := l.length ≤ many ∧ (∀ s ∈ l, s.length ≤ most) ∧ (l.map List.length).sum ≤ most
def LongPost (l : List (List UInt8)) (many most : Nat) (w : World) (e : Ending) (w' : World) : Prop := w = w' ∧ ((e = .returned (.int .i64 1)) ∨ (e = .returned (.int .i64 0) ∧ FewTexts l many most))
theorem sum_take_succ {l : List (List UInt8)} {j : Nat} (h : j < l.length) : ((l.take (j + 1)).map List.length).sum = ((l.take j).map List.length).sum + l[j].length := by
  rw [List.take_succ_eq_append_getElem h]
  simp only [List.map_append, List.map_cons, List.map_nil, List.sum_append, List.sum_cons, List.sum_nil, Nat.add_zero]

set_option maxRecDepth 100000 in
theorem longTexts_any (v : Value) (l : List (List UInt8)) (many most : Nat) (w : World) (hr : Reads w v (l.map str)) (hm : many ≤ 1000) (hM : most ≤ 1000000) :
    Calls Tryz.prog 28 #[v, .int .i64 many, .int .i64 most] w (LongPost l many most w) := by
  have hle := hr.le
  obtain ⟨a, cap, rfl, -, -⟩ := id hr
  simp only [List.length_map] at *
  have HR := Lib.hid hr
  clear hr
  by_cases hlm : many < l.length
  · go_enter Tryz.func28, Tryz.ntmps28
    go_wp2
    go_ret
    exact ⟨rfl, Or.inl rfl⟩
  · go_enter Tryz.func28, Tryz.ntmps28
    go_wp2
    go_loop [7, 8] (fun n i => ∃ j : Nat, j ≤ l.length ∧ i = .int .i64 j ∧ n = .int .i64 ((l.take j).map List.length).sum ∧ (∀ s ∈ l.take j, s.length ≤ most) ∧ ((l.take j).map List.length).sum ≤ most) (fun _ i => l.length - (intOf i).toNat)
    case atStart => exact ⟨0, by omega, rfl, rfl, by simp, by simp⟩
    case round =>
      obtain ⟨j, hj, rfl, rfl, hall, hsum⟩ := hrel
      have HA := Lib.hid hall
      clear hall
      by_cases hlt : j < l.length
      · obtain ⟨b, o, hix, hce⟩ := HR.out.at (P := Tryz.prog) Tryz.underlying25 (by kernel_rfl) j (by simpa using hlt)
        simp only [List.getElem_map] at hce
        have HS := Lib.hid (sum_take_succ hlt)
        have hmem : ∀ s ∈ l.take (j + 1), s ∈ l.take j ∨ s = l[j] := by
          intro s hs
          rw [List.take_succ_eq_append_getElem hlt] at hs
          simpa only [List.mem_append, List.mem_singleton] using hs
        have HM := Lib.hid hmem
        clear hmem
        generalize ((l.take j).map List.length).sum = n at *
        generalize l[j] = s at *
        by_cases hs : s.length ≤ most
        · by_cases hs2 : n + s.length ≤ most
          · go_wp2
            go_round
            case rel =>
              refine ⟨j + 1, by omega, by go_num, by rw [HS.out]; go_num, fun t ht => ?_, by rw [HS.out]; omega⟩
              rcases HM.out t ht with h | rfl
              · exact HA.out t h
              · exact hs
            case measure => simp [intOf]; omega
          · go_wp2
            go_ret
            exact ⟨rfl, Or.inl rfl⟩
        · go_wp2
          go_ret
          exact ⟨rfl, Or.inl rfl⟩
      · obtain rfl : j = l.length := by omega
        rw [List.take_length] at hsum HA
        go_wp2
        go_ret
        exact ⟨rfl, Or.inr ⟨rfl, by omega, HA.out, hsum⟩⟩

end Go.Proofs.YtmlmogllgnfklaaGreatDoor
