/-
  The law CacheActs, whatever it is given.
-/
import Derived.Test.YtmmgbgekcpbelaaDoorActsW
namespace Go.Proofs.YtmmgbgekcpbelaaDoor
open Go Go.RowKit Go.Kf

set_option maxRecDepth 100000 in
set_option maxHeartbeats 1000000 in
theorem acts_bad (n : Int) (v : Value) (asks : List AskL) (w : World) (S : Nat → Addr) (hS : ErrW w S) (hr : ReadsK 3 w v (asks.map askRow)) (hl : asks.length ≤ 100) (hn : n < 1 ∨ 100 < n) :
    Calls Tryd.prog 5 #[.int .i64 n, v] w fun e w' => e = .returned (.bool true) ∧ Below w.heap.size w w' := by
  obtain ⟨a, cap, rfl, -, -⟩ := hr
  simp only [List.length_map] at *
  have HS := Lib.hid hS
  have HN := Lib.hid hn
  clear hS
  rcases hn with hn | hn
  · go_enter Tryd.func5, Tryd.ntmps5
    go_wp2_with fail
    refine (cached_any w).mono ?_
    rintro e w1 ⟨rfl, hb1⟩
    have h1 := HS.out.below hb1 (Nat.le_refl _)
    have B1 := Lib.hid hb1
    have H1 := Lib.hid h1
    clear hb1 h1
    go_wp2_with fail
    refine (new_bad n w1 _ HN.out (H1.out.var 1 (by decide))).mono ?_
    rintro e w2 ⟨rfl, q, rfl⟩
    have b2 : Below w1.heap.size w1 (w1.drewN q) := below_drewN (Below.refl _ _) q
    have H2 := Lib.hid (H1.out.below b2 (Nat.le_refl _))
    have B2 := Lib.hid (B1.out.trans (b2.mono B1.out.size))
    clear b2
    generalize w1.drewN q = w2 at *
    go_wp2_with fail
    refine (coded2_yes (errV (S 1)) 2 w2 (code_sent w2 S H2.out 1 (by decide))).mono ?_
    rintro e w3 ⟨rfl, hb3⟩
    have B3 : Below w.heap.size w w3 := B2.out.trans (hb3.mono B2.out.size)
    clear hb3
    go_wp2_with fail
    go_ret
    exact ⟨rfl, B3⟩
  · go_enter Tryd.func5, Tryd.ntmps5
    go_wp2_with fail
    refine (cached_any w).mono ?_
    rintro e w1 ⟨rfl, hb1⟩
    have h1 := HS.out.below hb1 (Nat.le_refl _)
    have B1 := Lib.hid hb1
    have H1 := Lib.hid h1
    clear hb1 h1
    go_wp2_with fail
    refine (new_bad n w1 _ HN.out (H1.out.var 1 (by decide))).mono ?_
    rintro e w2 ⟨rfl, q, rfl⟩
    have b2 : Below w1.heap.size w1 (w1.drewN q) := below_drewN (Below.refl _ _) q
    have H2 := Lib.hid (H1.out.below b2 (Nat.le_refl _))
    have B2 := Lib.hid (B1.out.trans (b2.mono B1.out.size))
    clear b2
    generalize w1.drewN q = w2 at *
    have hn1 : (n < 1) = False := by simp; omega
    go_wp2_with fail
    refine (coded2_yes (errV (S 1)) 2 w2 (code_sent w2 S H2.out 1 (by decide))).mono ?_
    rintro e w3 ⟨rfl, hb3⟩
    have B3 : Below w.heap.size w w3 := B2.out.trans (hb3.mono B2.out.size)
    clear hb3
    go_wp2_with fail
    go_ret
    exact ⟨rfl, B3⟩

set_option maxRecDepth 100000 in
theorem acts_all (n : Int) (v : Value) (asks : List AskL) (w : World) (S : Nat → Addr) (hS : ErrW w S) (hr : ReadsK 3 w v (asks.map askRow)) :
    Calls Tryd.prog 5 #[.int .i64 n, v] w fun e w' => e = .returned (.bool true) ∧ Below w.heap.size w w' := by
  by_cases h3 : 100 < asks.length
  · have hle := hr.le
    clear hS
    obtain ⟨a, cap, rfl, -, -⟩ := hr
    simp only [List.length_map] at *
    go_enter Tryd.func5, Tryd.ntmps5
    go_wp2_with (go_at_call 11; refine (cached_any w).mono ?_; rintro e w1 ⟨rfl, hb1⟩)
    go_ret
    exact ⟨rfl, hb1⟩
  by_cases hn : n < 1 ∨ 100 < n
  · exact acts_bad n v asks w S hS hr (by omega) hn
  obtain ⟨many, rfl⟩ := Int.eq_ofNat_of_zero_le (show 0 ≤ n by omega)
  exact acts_main many v asks w (by omega) (by omega) (by omega) hr
end Go.Proofs.YtmmgbgekcpbelaaDoor
