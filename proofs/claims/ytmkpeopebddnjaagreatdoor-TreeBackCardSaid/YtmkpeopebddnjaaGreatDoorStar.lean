/-
  The walks of package path: star, fits.
-/
import Derived.Test.YtmkpeopebddnjaaGreatDoorPathP
import Derived.Test.YtmkpeopebddnjaaGreatDoorGlob
namespace Go.Proofs.YtmkpeopebddnjaaGreatDoor
open Go Go.RowKit Go.Kf

/-- Does a name fit one with stars? -/
def starB (p s : List UInt8) : Bool := glob (fun c : UInt8 => decide (c = 42)) (fun c d : UInt8 => d == c) p s
theorem starB_nil (s : List UInt8) : starB [] s = s.isEmpty := glob_nil _ _ s
theorem starB_star (p s : List UInt8) : starB (42 :: p) s = (starB p s || (!s.isEmpty && starB (42 :: p) s.tail)) := glob_star _ _ (by simp) p s
theorem starB_one_nil {c : UInt8} (h : c ≠ 42) (p : List UInt8) : starB (c :: p) [] = false := by
  unfold starB; rw [glob_one _ _ (by simpa using h)]
theorem starB_one {c : UInt8} (h : c ≠ 42) (p : List UInt8) (d : UInt8) (s : List UInt8) : starB (c :: p) (d :: s) = (d == c && starB p s) := by
  unfold starB; rw [glob_one _ _ (by simpa using h)]

theorem u8_eq (c d : UInt8) : ((c.toNat : Int) == (d.toNat : Int)) = (c == d) := by
  rw [Bool.eq_iff_iff]
  simp only [beq_iff_eq]
  constructor
  · intro h; exact UInt8.toNat_inj.1 (by omega)
  · intro h; rw [h]

set_option maxRecDepth 100000 in
theorem star_any : ∀ (n : Nat) (p s : List UInt8) (w : World), p.length + s.length = n → n ≤ 1000000 →
    Calls Tryz.prog 96 #[str p, str s] w fun e w' => e = .returned (.bool (starB p s)) ∧ ∃ q, w' = w.drewN q := by
  intro n
  induction n using Nat.strongRecOn with
  | _ n ih =>
    intro p s w hn hle
    have IH := Lib.hid ih
    clear ih
    cases p with
    | nil =>
      rw [starB_nil]
      go_enter Tryz.func96, Tryz.ntmps96
      go_wp2
      go_ret
      exact ⟨rfl, 0, rfl⟩
    | cons c p =>
      have he1 : (⟨(c :: p).toArray⟩ : ByteArray).extract 1 (p.length + 1) = ⟨p.toArray⟩ := by
        rw [extract_list]; simp
      have hidx : ∀ h, (⟨(c :: p).toArray⟩ : ByteArray)[0]'h = c := fun _ => rfl
      simp only [List.length_cons] at hn
      by_cases hc : c = 42
      · subst hc
        have h1 := IH.out (p.length + s.length) (by omega) p s w rfl (by omega)
        have H1 := Lib.hid h1
        clear h1
        rw [starB_star]
        cases hb : starB p s with
        | true =>
          rw [hb] at H1
          clear hb
          go_enter Tryz.func96, Tryz.ntmps96
          go_wp2_with fail
          refine H1.out.mono ?_
          rintro e w1 ⟨rfl, q, rfl⟩
          go_wp2
          go_ret
          exact ⟨rfl, q, rfl⟩
        | false =>
          rw [hb] at H1
          clear hb
          cases s with
          | nil =>
            go_enter Tryz.func96, Tryz.ntmps96
            go_wp2_with fail
            refine H1.out.mono ?_
            rintro e w1 ⟨rfl, q, rfl⟩
            go_wp2
            go_ret
            exact ⟨rfl, q, rfl⟩
          | cons d s =>
            have he2 : (⟨(d :: s).toArray⟩ : ByteArray).extract 1 (s.length + 1) = ⟨s.toArray⟩ := by
              rw [extract_list]; simp
            simp only [List.length_cons] at hn
            have H2 := Lib.hid (fun q => IH.out ((42 :: p).length + s.length) (by simp; omega) (42 :: p) s (w.drewN q) rfl (by simp; omega))
            go_enter Tryz.func96, Tryz.ntmps96
            go_wp2_with fail
            refine H1.out.mono ?_
            rintro e w1 ⟨rfl, q, rfl⟩
            go_wp2_with fail
            refine (H2.out q).mono ?_
            rintro e w2 ⟨rfl, q2, rfl⟩
            go_wp2
            go_ret
            exact ⟨by simp, q + q2, rfl⟩
      · have hcn : ((c.toNat : Int) == 42) = false := by
          have : c.toNat ≠ 42 := fun e => hc (UInt8.toNat_inj.1 (by simpa using e))
          simp; omega
        cases s with
        | nil =>
          rw [starB_one_nil hc]
          clear hc
          go_enter Tryz.func96, Tryz.ntmps96
          go_wp2
          go_quiet (fail)
          go_wp2
          go_ret
          exact ⟨rfl, _, rfl⟩
        | cons d s =>
          rw [starB_one hc]
          have he2 : (⟨(d :: s).toArray⟩ : ByteArray).extract 1 (s.length + 1) = ⟨s.toArray⟩ := by
            rw [extract_list]; simp
          have hidx2 : ∀ h, (⟨(d :: s).toArray⟩ : ByteArray)[0]'h = d := fun _ => rfl
          simp only [List.length_cons] at hn
          have H2 := Lib.hid (fun w => IH.out (p.length + s.length) (by omega) p s w rfl (by omega))
          cases hdc : (d == c) with
          | true =>
            have hd2 : ((d.toNat : Int) == (c.toNat : Int)) = true := by rw [u8_eq, hdc]
            clear hc hdc
            go_enter Tryz.func96, Tryz.ntmps96
            go_wp2
            go_quiet ((go_at_call 96; exact Calls.quiet_of (H2.out _)))
            go_wp2
            go_ret
            exact ⟨rfl, _, rfl⟩
          | false =>
            have hd2 : ((d.toNat : Int) == (c.toNat : Int)) = false := by rw [u8_eq, hdc]
            clear hc hdc
            go_enter Tryz.func96, Tryz.ntmps96
            go_wp2
            go_quiet (fail)
            go_wp2
            go_ret
            exact ⟨rfl, _, rfl⟩
end Go.Proofs.YtmkpeopebddnjaaGreatDoor
