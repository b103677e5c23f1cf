/-
  The walks of package path: fits, Match.
-/
import Derived.Test.YtmkpeopebddnjaaGreatDoorStar
import Derived.Deep.RegionHeld3
namespace Go.Proofs.YtmkpeopebddnjaaGreatDoor
open Go Go.RowKit Go.Kf

/-- Do parts fit those of a pattern? -/
def fitsB (p s : List (List UInt8)) : Bool := glob (fun c : List UInt8 => decide (c = [42, 42])) starB p s
theorem fitsB_nil (s : List (List UInt8)) : fitsB [] s = s.isEmpty := glob_nil _ _ s
theorem fitsB_star (p s : List (List UInt8)) : fitsB ([42, 42] :: p) s = (fitsB p s || (!s.isEmpty && fitsB ([42, 42] :: p) s.tail)) := glob_star _ _ (by simp) p s
theorem fitsB_one_nil {c : List UInt8} (h : c ≠ [42, 42]) (p : List (List UInt8)) : fitsB (c :: p) [] = false := by
  unfold fitsB; rw [glob_one _ _ (by simpa using h)]
theorem fitsB_one {c : List UInt8} (h : c ≠ [42, 42]) (p : List (List UInt8)) (d : List UInt8) (s : List (List UInt8)) : fitsB (c :: p) (d :: s) = (starB c d && fitsB p s) := by
  unfold fitsB; rw [glob_one _ _ (by simpa using h)]

/-- A slice of texts that lies in a block from an offset on: what is behind its head lies so too. -/
def TextsAt (w : World) (g o : Nat) (l : List (List UInt8)) : Prop := ∀ (j : Nat) s, l[j]? = some s → w.cell? ⟨g, o + j, none⟩ = some (str s)
theorem TextsAt.tail {w : World} {g o : Nat} {x : List UInt8} {l : List (List UInt8)} (h : TextsAt w g o (x :: l)) : TextsAt w g (o + 1) l := fun j s hj => by
  have := h (j + 1) s (by simpa using hj)
  rwa [show o + 1 + j = o + (j + 1) by omega]
theorem TextsAt.drewN {w : World} {g o : Nat} {l : List (List UInt8)} (h : TextsAt w g o l) (q : Nat) : TextsAt (w.drewN q) g o l := h
theorem TextsAt.head {w : World} {g o : Nat} {x : List UInt8} {l : List (List UInt8)} (h : TextsAt w g o (x :: l)) : w.cell? ⟨g, o, none⟩ = some (str x) := h 0 x rfl

/-- What is behind the head of a slice: where it lies. -/
theorem TextsAt.cut {w : World} {g o c : Nat} {x : List UInt8} {l : List (List UInt8)} (h : TextsAt w g o (x :: l)) (hc : l.length + 1 ≤ c) :
    ∃ o2, (if c = 1 then some (⟨g, o, none⟩ : Addr) else some ⟨g, o + 1, none⟩) = some ⟨g, o2, none⟩ ∧ TextsAt w g o2 l := by
  by_cases h1 : c = 1
  · obtain rfl : l = [] := List.length_eq_zero_iff.1 (by omega)
    exact ⟨o, by rw [if_pos h1], fun j s hj => by simp at hj⟩
  · exact ⟨o + 1, by rw [if_neg h1], h.tail⟩

/-- A slice value in a block. -/
abbrev sl (g o n c : Nat) : Value := .slice (some ⟨g, o, none⟩) n c

set_option maxRecDepth 100000 in
theorem fits_any : ∀ (n : Nat) (p s : List (List UInt8)) (g o c g' o' c' : Nat) (w : World), p.length + s.length = n → n ≤ 1000 → p.length ≤ c → s.length ≤ c' → c ≤ 1000 → c' ≤ 1000 →
    (∀ t ∈ p, t.length ≤ 1000) → (∀ t ∈ s, t.length ≤ 1000) → TextsAt w g o p → TextsAt w g' o' s →
    Calls Tryz.prog 59 #[sl g o p.length c, sl g' o' s.length c'] w fun e w' => e = .returned (.bool (fitsB p s)) ∧ ∃ q, w' = w.drewN q := by
  intro n
  induction n using Nat.strongRecOn with
  | _ n ih =>
    intro p s g o c g' o' c' w hn hle hpc hsc hc1 hc2 hp hs hP hS
    have IH := Lib.hid ih
    have HPl := Lib.hid hp
    have HSl := Lib.hid hs
    have HP := Lib.hid hP
    have HS := Lib.hid hS
    clear ih hp hs hP hS
    cases p with
    | nil =>
      rw [fitsB_nil]
      cases s with
      | nil =>
        go_enter Tryz.func59, Tryz.ntmps59
        go_wp2
        go_ret
        exact ⟨rfl, 0, rfl⟩
      | cons d s =>
        have hl0 : ((s.length : Int) + 1 == 0) = false := by simp; omega
        go_enter Tryz.func59, Tryz.ntmps59
        go_wp2
        go_ret
        exact ⟨by simp, 0, rfl⟩
    | cons x p =>
      have hx := HP.out.head
      simp only [List.length_cons] at hn hpc
      by_cases hc : x = [42, 42]
      · subst hc
        have hl0 : ((p.length : Int) + 1 == 0) = false := by simp; omega
        obtain ⟨o2, hif, hT⟩ := HP.out.cut hpc
        have H1 := Lib.hid (IH.out (p.length + s.length) (by omega) p s g o2 (c - 1) g' o' c' w rfl (by omega) (by omega) hsc (by omega) hc2 (fun t ht => HPl.out t (List.mem_cons_of_mem _ ht)) HSl.out hT HS.out)
        rw [fitsB_star]
        clear hT
        cases hb : fitsB p s with
        | true =>
          rw [hb] at H1
          clear hb
          go_enter Tryz.func59, Tryz.ntmps59
          go_wp2_with fail
          refine H1.out.mono ?_
          rintro e w1 ⟨rfl, q, rfl⟩
          go_wp2
          go_ret
          exact ⟨rfl, q, rfl⟩
        | false =>
          rw [hb] at H1
          clear hb
          cases s with
          | nil =>
            go_enter Tryz.func59, Tryz.ntmps59
            go_wp2_with fail
            refine H1.out.mono ?_
            rintro e w1 ⟨rfl, q, rfl⟩
            go_wp2
            go_ret
            exact ⟨rfl, q, rfl⟩
          | cons d s =>
            simp only [List.length_cons] at hn hsc
            obtain ⟨o3, hif3, hT3⟩ := HS.out.cut hsc
            have H2 := Lib.hid (fun q => IH.out ((([42, 42] : List UInt8) :: p).length + s.length) (by simp; omega) ([42, 42] :: p) s g o c g' o3 (c' - 1) (w.drewN q) rfl (by simp; omega) (by simp; omega) (by omega) hc1 (by omega) HPl.out (fun t ht => HSl.out t (List.mem_cons_of_mem _ ht)) HP.out hT3)
            have hl3 : ((0 : Int) < (s.length : Int) + 1) = True := by simp
            clear hT3
            go_enter Tryz.func59, Tryz.ntmps59
            go_wp2_with fail
            refine H1.out.mono ?_
            rintro e w1 ⟨rfl, q, rfl⟩
            go_wp2_with fail
            refine (H2.out q).mono ?_
            rintro e w2 ⟨rfl, q2, rfl⟩
            go_wp2
            go_ret
            exact ⟨by simp, q + q2, rfl⟩
      · have hx1 : (x == [42, 42]) = false := by simpa using hc
        have hl0 : ((p.length : Int) + 1 == 0) = false := by simp; omega
        cases s with
        | nil =>
          rw [fitsB_one_nil hc]
          clear hc
          go_enter Tryz.func59, Tryz.ntmps59
          go_wp2
          go_quiet (fail)
          go_wp2
          go_ret
          exact ⟨rfl, _, rfl⟩
        | cons d s =>
          rw [fitsB_one hc]
          clear hc
          simp only [List.length_cons] at hn hsc
          obtain ⟨o2, hif, hT⟩ := HP.out.cut hpc
          obtain ⟨o3, hif3, hT3⟩ := HS.out.cut hsc
          have hd := HS.out.head
          have hl3 : decide ((0 : Int) < (s.length : Int) + 1) = true := by simp
          have hxl := HPl.out x List.mem_cons_self
          have hdl := HSl.out d List.mem_cons_self
          have H2 := Lib.hid (fun q => IH.out (p.length + s.length) (by omega) p s g o2 (c - 1) g' o3 (c' - 1) (w.drewN q) rfl (by omega) (by omega) (by omega) (by omega) (by omega) (fun t ht => HPl.out t (List.mem_cons_of_mem _ ht)) (fun t ht => HSl.out t (List.mem_cons_of_mem _ ht)) hT hT3)
          have H1 := Lib.hid (fun q => star_any (x.length + d.length) x d (w.drewN q) rfl (by omega))
          clear hT hT3
          cases hsb : starB x d with
          | true =>
            rw [hsb] at H1
            clear hsb
            go_enter Tryz.func59, Tryz.ntmps59
            go_wp2
            go_quiet ((first | (go_at_call 96; exact Calls.quiet_of (H1.out _)) | (go_at_call 59; exact Calls.quiet_of (H2.out _))))
            go_wp2
            go_ret
            exact ⟨rfl, _, rfl⟩
          | false =>
            rw [hsb] at H1
            clear hsb
            go_enter Tryz.func59, Tryz.ntmps59
            go_wp2
            go_quiet ((go_at_call 96; exact Calls.quiet_of (H1.out _)))
            go_wp2
            go_ret
            exact ⟨rfl, _, rfl⟩

/-- A pattern that is none, or a text that is no path. -/
def noMatch (p s : List UInt8) : Bool := decide (partsL p true = [] ∨ partsL s false = [])
/-- What Match answers. -/
def matchB (p s : List UInt8) : Bool := !noMatch p s && fitsB (partsL p true) (partsL s false)
def matchV (S : Nat → Addr) (p s : List UInt8) : Value := if noMatch p s = true then errI (S 3) else .nilIface

set_option maxRecDepth 100000 in
set_option maxHeartbeats 1000000 in
theorem match_any (p s : List UInt8) (w : World) (S : Nat → Addr) (hm : Ml w) (hE : PErr w S) (hp : p.length ≤ 1000) (hs : s.length ≤ 1000) :
    Calls Tryz.prog 42 #[str p, str s] w fun e w' => e = .returned (.tuple #[.bool (matchB p s), matchV S p s]) ∧ Below w.heap.size w w' := by
  have HP := Lib.hid (parts_any p true w hm (by omega))
  have HM := Lib.hid hm
  have HE := Lib.hid hE
  have q1 := nilYes
  have q2 := nilNo
  clear hm hE
  go_enter Tryz.func42, Tryz.ntmps42
  go_wp2_with fail
  refine HP.out.mono ?_
  rintro e w1 ⟨hb, ⟨h0, rfl⟩ | ⟨h0, v, rfl, hv⟩⟩
  · have H0 := Lib.hid h0
    have H1 := Lib.hid (parts_any s false w1 (HM.out.below hb (Nat.le_refl _)) (by omega))
    clear h0
    go_wp2_with fail
    refine H1.out.mono ?_
    rintro e w2 ⟨hb2, ho⟩
    have hv : ∃ v, e = .returned v := by
      rcases ho with ⟨-, h⟩ | ⟨-, v, h, -⟩
      · exact ⟨_, h⟩
      · exact ⟨_, h⟩
    obtain ⟨v, rfl⟩ := hv
    have b2 := hb.trans (hb2.mono hb.size)
    have c3 := (HE.out.below b2 (Nat.le_refl _)).name
    clear ho hb2
    go_wp2
    go_quiet (fail)
    go_wp2
    go_ret2
    refine ⟨?_, below_drewN b2 _⟩
    have hn : noMatch p s = true := by unfold noMatch; simp [H0.out]
    unfold matchB matchV
    rw [hn]
    rfl
  · have H0 := Lib.hid h0
    have H1 := Lib.hid (parts_any s false w1 (HM.out.below hb (Nat.le_refl _)) (by omega))
    obtain ⟨g, rfl, hgB, hg, hc⟩ := hv
    have HC := Lib.hid hc
    clear h0 hc
    go_wp2_with fail
    refine H1.out.mono ?_
    rintro e w2 ⟨hb2, ⟨h2, rfl⟩ | ⟨h2, v, rfl, hv⟩⟩
    · have H2 := Lib.hid h2
      have b2 := hb.trans (hb2.mono hb.size)
      have c3 := (HE.out.below b2 (Nat.le_refl _)).name
      clear h2 hb2
      go_wp2
      go_quiet (fail)
      go_wp2
      go_ret2
      refine ⟨?_, below_drewN b2 _⟩
      have hn : noMatch p s = true := by unfold noMatch; simp [H2.out]
      unfold matchB matchV
      rw [hn]
      rfl
    · have H2 := Lib.hid h2
      obtain ⟨g2, rfl, hgB2, hg2, hc2⟩ := hv
      have b2 := hb.trans (hb2.mono hb.size)
      have hlp := partsL_len p true
      have hls := partsL_len s false
      have hF := fits_any _ (partsL p true) (partsL s false) g 0 (partsL p true).length g2 0 (partsL s false).length w2 rfl (by omega) (Nat.le_refl _) (Nat.le_refl _) (by omega) (by omega)
        (fun t ht => by have := partsL_mem p true t ht; omega) (fun t ht => by have := partsL_mem s false t ht; omega)
        (fun j t hj => by rw [Nat.zero_add]; exact (hb2.cell (p := ⟨g, j, none⟩) hg).trans (HC.out j t hj)) (fun j t hj => by rw [Nat.zero_add]; exact hc2 j t hj)
      have HF := Lib.hid hF
      have HR : Hid (matchB p s = fitsB (partsL p true) (partsL s false) ∧ matchV S p s = .nilIface) := Lib.hid (by
        have hn : noMatch p s = false := by unfold noMatch; simp [H0.out, h2]
        unfold matchB matchV
        rw [hn]
        exact ⟨rfl, rfl⟩)
      clear h2 hb2 hF hc2
      go_wp2_with fail
      refine HF.out.mono ?_
      rintro e w3 ⟨rfl, q, rfl⟩
      go_wp2
      go_ret2
      exact ⟨by rw [HR.out.1, HR.out.2]; rfl, below_drewN b2 q⟩
end Go.Proofs.YtmkpeopebddnjaaGreatDoor
