/-
  The reference's tree: Put. The plain law of the trees: a map of files and the reference's rising list are one; both between two steps of a law. Package kilnfieldlaw2: longFiles and fileTree at any files.
-/
import Derived.Test.YtgjialbmlhbngaaGreatDoorPkP
import Derived.Sort.Walk0
import Derived.Test.YtgjialbmlhbngaaGreatDoorPkF
import Derived.Deep.RegionHeld3

namespace Go.Proofs.YtgjialbmlhbngaaGreatDoor
open Go Go.RowKit Go.Kf

end Go.Proofs.YtgjialbmlhbngaaGreatDoor

namespace Go.Proofs.YtgjialbmlhbngaaGreatDoor
open Go Go.RowKit Go.Kf Go.Sort


end Go.Proofs.YtgjialbmlhbngaaGreatDoor

namespace Go.Proofs.YtgjialbmlhbngaaGreatDoor
open Go Go.RowKit Go.Kf Go.Sort Go.Proofs

/-- Files that are few and short. -/
def FewFiles (fs : List Ent) : Prop := fs.length ≤ 30 ∧ ∀ x ∈ fs, x.1.length ≤ 100 ∧ x.2.length ≤ 4000
set_option maxRecDepth 100000 in
theorem longFiles2_any (v : Value) (fs : List Ent) (w : World) (hr : ReadsK 2 w v (fs.map fileRow)) :
    Calls Tryz.prog 16 #[v] w fun e w' => w = w' ∧ (e = .returned (.bool true) ∨ (e = .returned (.bool false) ∧ FewFiles fs)) := by
  have hle := hr.le
  obtain ⟨a, cap, rfl, -, -⟩ := id hr
  simp only [List.length_map] at *
  have HR := Lib.hid hr
  clear hr
  by_cases hlm : 30 < fs.length
  · go_enter Tryz.func16, Tryz.ntmps16
    go_wp2
    go_ret
    exact ⟨rfl, Or.inl rfl⟩
  · go_enter Tryz.func16, Tryz.ntmps16
    go_wp2
    go_loop [3, 4] (fun n i => ∃ j z : Nat, j ≤ fs.length ∧ i = .int .i64 j ∧ n = .int .i64 z ∧ z ≤ 4000 ∧ ∀ x ∈ fs.take j, x.1.length ≤ 100 ∧ x.2.length ≤ 4000) (fun _ i => fs.length - (intOf i).toNat)
    case atStart => exact ⟨0, 0, by omega, rfl, rfl, by omega, by simp⟩
    case round =>
      obtain ⟨j, z, hj, rfl, rfl, hz, hall⟩ := hrel
      have HA := Lib.hid hall
      clear hall
      by_cases hlt : j < fs.length
      · obtain ⟨b, o, hix, -, hce⟩ := HR.out.at (P := Tryz.prog) Tryz.underlying37 (by kernel_rfl) j (by simpa using hlt)
        simp only [List.getElem_map] at hce
        have h0 := hce 0 _ rfl
        have h1 := hce 1 _ rfl
        simp only [Nat.add_zero] at h0
        have HM := Lib.hid (show ∀ x ∈ fs.take (j + 1), x ∈ fs.take j ∨ x = fs[j] by
          intro s hs
          rw [List.take_succ_eq_append_getElem hlt] at hs
          simpa only [List.mem_append, List.mem_singleton] using hs)
        clear hce
        generalize fs[j] = x at *
        obtain ⟨p, c⟩ := x
        simp only at h0 h1
        by_cases hc : c.length ≤ 4000
        · by_cases hp : p.length ≤ 100
          · by_cases hs2 : z + c.length ≤ 4000
            · go_wp2
              go_round
              case rel =>
                refine ⟨j + 1, z + c.length, by omega, by go_num, by go_num, by omega, fun t ht => ?_⟩
                rcases HM.out t ht with h | rfl
                · exact HA.out t h
                · exact ⟨hp, hc⟩
              case measure => simp [intOf]; omega
            · go_wp2
              go_ret
              exact ⟨rfl, Or.inl rfl⟩
          · go_wp2
            go_ret
            exact ⟨rfl, Or.inl rfl⟩
        · go_wp2
          go_ret
          exact ⟨rfl, Or.inl rfl⟩
      · obtain rfl : j = fs.length := by omega
        rw [List.take_length] at HA
        go_wp2
        go_ret
        exact ⟨rfl, Or.inr ⟨rfl, by omega, HA.out⟩⟩

end Go.Proofs.YtgjialbmlhbngaaGreatDoor
