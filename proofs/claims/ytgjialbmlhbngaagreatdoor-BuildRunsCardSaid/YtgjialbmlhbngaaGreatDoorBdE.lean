/-
  The laws' built, in plain Lean: one rule, one file: it runs, and is had again. The laws' built: a rule runs, and is had again. BuildOnce, in plain Lean: all rules are made; each runs once.
-/
import Derived.Test.YtgjialbmlhbngaaGreatDoorBdA
import Derived.Test.YtgjialbmlhbngaaGreatDoorBdB
import Derived.Test.YtgjialbmlhbngaaGreatDoorPkO
import Derived.Test.YtgjialbmlhbngaaGreatDoorBdD
import Derived.Test.YtgjialbmlhbngaaGreatDoorPkG
import Derived.Test.YtgjialbmlhbngaaGreatDoorPkH

set_option maxRecDepth 100000
namespace Go.Proofs.YtgjialbmlhbngaaGreatDoor
open Go Go.RowKit Go.Kf Go.Sort Go.Proofs
def key1 : List UInt8 := keyL [117, 112, 112, 101, 114] [] [[120]]
def cs0 : CS := ⟨3, [], []⟩
def cs1 : CS := cPut cs0 key1 [88]
theorem cs0_ok : CSt cs0 := CSt.zero (by decide) (by decide)
theorem cs1_ok : CSt cs1 := cs0_ok.put _ _
theorem act1 : actOf [117, 112, 112, 101, 114] [] [[120]] = (0, [88]) := by decide +kernel
theorem look1 : mlook key1 cs1.mp = some [88] := by decide +kernel
theorem one_edges : edgesB oneL 0 = [] := by decide +kernel
theorem one_inP : inP oneL [0] (fun p => mlook p aFiles) (fun _ => st0) [97] = some [120] := by decide +kernel
theorem one_ready : ReadyP oneL (fun _ => st0) 0 := ⟨rfl, fun k hk => by rw [one_edges] at hk; cases hk⟩
theorem one_ins {ins : List (List UInt8)} (h : (oneL.getD 0 noR).ins.map (inP oneL [0] (fun p => mlook p aFiles) (fun _ => st0)) = ins.map some) : ins = [[120]] := by
  have e : (oneL.getD 0 noR).ins = [[97]] := rfl
  rw [e, List.map_cons, List.map_nil, one_inP] at h
  match ins, h with
  | [x], h =>
    simp only [List.map_cons, List.map_nil, List.cons.injEq, Option.some.injEq, and_true] at h
    rw [h]
theorem one_part {N : List Nat} (hN : (0 : Nat) ∈ N) : needL oneL.length N = [0] := by
  show (List.range 1).filter (fun k => N.contains k) = [0]
  rw [show List.range 1 = [0] from rfl, List.filter_cons_of_pos (by simpa using hN)]
  rfl
theorem one_rel {c c' : Option CS} {st' : Nat → St} {hit : Bool} {code : Nat} (h : RunRel oneL [0] (fun p => mlook p aFiles) c (fun _ => st0) ((0 : Nat) : Int) hit code c' st') : code = 0 ∧ GoRel oneL [0] (fun p => mlook p aFiles) c (fun _ => st0) 0 hit c' st' := by
  generalize hi : ((0 : Nat) : Int) = i at h
  cases h with
  | none h => exact absurd hi.symm (h 0 (List.mem_singleton_self 0))
  | done h1 h2 => exact absurd rfl h2
  | turn h1 h2 h3 =>
    have : _ = 0 := List.mem_singleton.1 h1
    subst this
    exact absurd one_ready h3
  | go h1 h2 h3 =>
    have : _ = 0 := List.mem_singleton.1 h1
    subst this
    exact ⟨rfl, h3⟩
theorem run_first {c' : CS} {st' : Nat → St} {hit : Bool} {code : Nat} (h : RunRel oneL [0] (fun p => mlook p aFiles) (some cs0) (fun _ => st0) ((0 : Nat) : Int) hit code (some c') st') : hit = false ∧ code = 0 ∧ c' = cs1 := by
  obtain ⟨rfl, hg⟩ := one_rel h
  generalize hc' : some c' = o at hg
  cases hg with
  | gone h1 h2 =>
    obtain ⟨s, hs, hn⟩ := h1
    have : s = [97] := List.mem_singleton.1 hs
    subst this
    rw [one_inP] at hn
    cases hn
  | hit h1 h2 => cases h2
  | run h1 h2 h3 =>
    have := one_ins h1
    subst this
    have h4 : _ = ((0 : Nat), _) := h3
    have h5 : actOf [117, 112, 112, 101, 114] [] [[120]] = _ := h3
    rw [act1] at h5
    cases h5
    cases hc'
    exact ⟨rfl, rfl, rfl⟩
  | bad h1 h2 h3 h4 =>
    have := one_ins h1
    subst this
    have h5 : actOf [117, 112, 112, 101, 114] [] [[120]] = _ := h3
    rw [act1] at h5
    cases h5
theorem run_again {c' : CS} {st' : Nat → St} {hit : Bool} {code : Nat} (h : RunRel oneL [0] (fun p => mlook p aFiles) (some cs1) (fun _ => st0) ((0 : Nat) : Int) hit code (some c') st') : hit = true ∧ code = 0 ∧ st' 0 = ⟨2, true, [88], 0⟩ := by
  obtain ⟨rfl, hg⟩ := one_rel h
  generalize hc' : some c' = o at hg
  cases hg with
  | gone h1 h2 =>
    obtain ⟨s, hs, hn⟩ := h1
    have : s = [97] := List.mem_singleton.1 hs
    subst this
    rw [one_inP] at hn
    cases hn
  | hit h1 h2 =>
    have := one_ins h1
    subst this
    have h5 : mlook key1 cs1.mp = _ := h2
    rw [look1] at h5
    cases h5
    exact ⟨rfl, rfl, setSt_at _ _ _⟩
  | run h1 h2 h3 =>
    have := one_ins h1
    subst this
    have h5 : mlook key1 cs1.mp = none := h2 _ rfl
    rw [look1] at h5
    cases h5
  | bad h1 h2 h3 h4 =>
    have := one_ins h1
    subst this
    have h5 : mlook key1 cs1.mp = none := h2 _ rfl
    rw [look1] at h5
    cases h5
theorem over_one {st : Nat → St} (h : (st 0).state = 2) : overB [0] st = true := by
  rw [overB_iff]
  intro i hi
  have : i = 0 := List.mem_singleton.1 hi
  subst this
  omega
theorem env_one {w : World} {S : Nat → Addr} (hm : Ml w) (hE : BErr w S) (hN : NErr w) (ht : Tab w) : BEnv S oneL aFiles w :=
  ⟨hm, hE, hN, ht, fun r hr => by obtain rfl := List.mem_singleton.1 hr; exact ⟨by simp, by simp, by simp, fun s hs => (by obtain rfl := List.mem_singleton.1 hs; simp), by simp⟩,
    fun p b hp => by
      unfold aFiles mlook at hp
      split at hp
      · cases hp; simp
      · cases hp⟩
theorem new_one {S : Nat → Addr} {m : List Ent} {cv : Value} {B : Nat} {e : Ending} {w' : World} (h : BNewAns S oneL [[98]] m cv B e w') : ∃ D : BPl, e = .returned (.tuple #[ptrV D.b, .nilIface]) ∧ D.cv = cv ∧ PartOk oneL [0] ∧ BAt S oneL [0] m D w' (fun _ => st0) ∧ ∀ k, D.has [0] k → B ≤ k := by
  have hpl0 : ∀ {ks : List Nat}, PlacesAt oneL [[98]] ks → 0 ∈ ks := by
    intro ks h
    obtain ⟨h1, h2⟩ := h
    match ks, h1, h2 with
    | k :: _, h1, _ =>
      have : k < 1 := h1 k List.mem_cons_self
      obtain rfl : k = 0 := by omega
      exact List.mem_cons_self
  rcases h with ⟨T, x, -, hbad | ⟨-, i, g, hi, -, hno, -⟩ | ⟨-, ks, N, hpl, hN, ho, -⟩⟩ | ⟨ks, N, o, D, hpl, hN, ho, hord, rfl, hcv, hat, hB⟩
  · exact absurd oneL_right hbad.wrong
  · have : i = 0 := by simp at hi; omega
    subst this
    exact absurd (show [98] ∈ oneL.map RuleL.out by decide) hno
  · exfalso
    rw [one_part ((hN 0).2 (.base (hpl0 hpl)))] at ho
    have : orderB (edgesB oneL) (fun k => [0].contains k) oneL.length = some [0] := by decide +kernel
    rw [this] at ho
    cases ho
  · rw [one_part ((hN 0).2 (.base (hpl0 hpl)))] at hord hat hB
    exact ⟨D, rfl, hcv, hord.ok, hat, hB⟩
set_option maxHeartbeats 4000000 in
theorem built_any (w : World) (S : Nat → Addr) (hm : Ml w) (hE : BErr w S) (hN : NErr w) (ht : Tab w) :
    Calls Tryz.prog 26 #[] w fun e w' => e = .returned (.bool true) ∧ Below w.heap.size w w' := by
  have HV := Hd (fun wl (hb : Below w.heap.size w wl) => (env_one hm hE hN ht).below hb)
  have KT := Hd (new_tree w)
  clear hm hE hN ht
  go_enter Tryz.func26, Tryz.ntmps26
  go_wp2_with fail
  refine KT.out.mono ?_
  rintro e w1 ⟨tb, mb, rfl, htb, hmb, hT1, hb1⟩
  have HB1 := Hd hb1
  have KC := Hd (new_ok 3 w1 (by omega) (by omega))
  have hz1 := hb1.size
  have HT1 := Hd hT1
  clear hT1 hb1
  go_wp2_with fail
  refine KC.out.mono ?_
  rintro e w2 ⟨pb, cb, rfl, hpb, hcb, hC2, hb2⟩
  have HB2 := Hd (HB1.out.trans (hb2.mono hz1))
  have HC2 := Hd hC2
  have hT2 := HT1.out.below hb2
  have hz2 := hb2.size
  have KP := Hd (put_tree tb mb [] [97] [120] w2 S hT2 (HV.out w2 HB2.out).ml (HV.out w2 HB2.out).err.t (by simp) (by simp) (fun y hy => by cases hy))
  rw [show putC [97] [120] [] = 0 by decide +kernel, show putM [97] [120] [] = aFiles by decide +kernel] at KP
  have HL2 : Hid (tb < w1.heap.size ∧ mb < w1.heap.size) := Hd HT1.out.lt
  clear hC2 hb2 hT2
  go_wp2_with fail
  refine KP.out.mono ?_
  rintro e w3 ⟨rfl, hT3, hF3⟩
  have HB3 := Hd (HB2.out.trans ((hF3.mono (S' := fun k => k = mb) HB2.out.size (fun _ _ h => h)).below (fun k hk e => by omega)))
  have HC3 := Hd (HC2.out.fr hF3 (fun q hq => ⟨HC2.out.lt hq, fun e => by
    have := HL2.out
    rcases hq with rfl | rfl | hq
    · omega
    · omega
    · cases hq⟩))
  have HT3 := Hd hT3
  have hz3 := hF3.size
  have hz3' := HB3.out.size
  clear hT3 hF3
  simp only [codeV, if_pos]
  obtain ⟨W1, hW1⟩ : ∃ W, w3.alloc (.cells #[.string ⟨#[97]⟩] 9) = W := ⟨_, rfl⟩
  obtain ⟨W2, hW2⟩ : ∃ W, W1.alloc (.cells #[.string ⟨#[98]⟩, .string ⟨#[117, 112, 112, 101, 114]⟩, .string ⟨#[]⟩, .slice (some ⟨w3.heap.size, 0, none⟩) 1 1] 35) = W := ⟨_, rfl⟩
  obtain ⟨W3, hW3⟩ : ∃ W, W2.alloc (.cells #[.string ⟨#[98]⟩] 9) = W := ⟨_, rfl⟩
  have hz1 : W1.heap.size = w3.heap.size + 1 := by rw [← hW1]; simp
  have hz2 : W2.heap.size = w3.heap.size + 1 + 1 := by rw [← hW2, ← hz1]; simp
  have hA2 : Below w3.heap.size w3 W2 := hW2 ▸ (hW1 ▸ (Below.refl _ w3).alloc (Nat.le_refl _) _ : Below w3.heap.size w3 W1).alloc (by omega) _
  have hA3 : Below W2.heap.size W2 W3 := hW3 ▸ (Below.refl _ W2).alloc (Nat.le_refl _) _
  have hra := oneR_at hW1 hW2
  have hb3 := HB3.out.trans ((hA2.trans (hA3.mono (by omega))).mono hz3')
  have hB33 : Below w3.heap.size w3 W3 := hA2.trans (hA3.mono (by omega))
  have hrow : ∀ r ∈ (oneR w3.heap.size).map rvRow, r ≠ [] := fun r hr => by obtain ⟨x, -, rfl⟩ := List.mem_map.1 hr; simp [rvRow]
  have HRA := Hd (fun wl (hb : Below W2.heap.size W2 wl) => hra.below0 hb)
  have hvo : Reads W3 (.slice (some ⟨w3.heap.size + 1 + 1, 0, none⟩) 1 1) ([[98]].map str) := by
    rw [← hz2]
    exact ⟨_, _, rfl, by simp, fun i u hi => ⟨_, _, rfl, by rw [Nat.zero_add, ← hW3, cell_of_heap (heap_alloc_here W2 _)]; simpa [str] using hi⟩⟩
  have hv3 := HV.out W3 hb3
  have KN := Hd (bnew_any (S := S) W3 [[98]] _ (some ⟨pb, 0, none⟩) (HRA.out W3 hA3) (fun a n c h => by cases h; exact Nat.le_refl _) (HT3.out.below hB33) hvo (by simp) hv3.ml hv3.err.k hv3.err.l hv3.num hv3.tab (oneR_short _) (by simp [oneR]))
  have HB33 := Hd hb3
  have HC33 := Hd (HC3.out.below hB33)
  have HT33 := Hd (HT3.out.below hB33)
  have HA3 := Hd hA3
  have hs33 := hB33.size
  go_wp2_with fail
  refine KN.out.mono ?_
  rintro e w4 ⟨ha, hb4⟩
  have hol : (oneR w3.heap.size).map Prod.fst = oneL := rfl
  rw [hol] at ha
  obtain ⟨D, rfl, hcv, hP, hA4, hD4⟩ := new_one ha
  have hs4 := hb4.size
  obtain ⟨W5, hW5⟩ : ∃ W, w4.alloc (.cells #[.string ⟨#[98]⟩] 9) = W := ⟨_, rfl⟩
  have hs5 : W5.heap.size = w4.heap.size + 1 := by rw [← hW5]; simp
  have hA5 : Below w4.heap.size w4 W5 := hW5 ▸ (Below.refl _ w4).alloc (Nat.le_refl _) _
  have hb45 : Below W3.heap.size W3 W5 := hb4.trans (hA5.mono hs4)
  have hvo5 : Reads W5 (.slice (some ⟨w4.heap.size, 0, none⟩) 1 1) ([[98]].map str) :=
    ⟨_, _, rfl, by simp, fun i u hi => ⟨_, _, rfl, by rw [Nat.zero_add, ← hW5, cell_of_heap (heap_alloc_here w4 _)]; simpa [str] using hi⟩⟩
  have hb5 := HB33.out.trans (hb45.mono HB33.out.size)
  have hv5 := HV.out W5 hb5
  have KN5 := Hd (bnew_any (S := S) W5 [[98]] _ (some ⟨pb, 0, none⟩) (HRA.out W5 (HA3.out.trans (hb45.mono HA3.out.size))) (fun a n c h => by cases h; exact Nat.le_refl _) (HT33.out.below hb45) hvo5 (by simp) hv5.ml hv5.err.k hv5.err.l hv5.num hv5.tab (oneR_short _) (by simp [oneR]))
  have HA5 := Hd (hA4.below hA5)
  have HC5 := Hd (HC33.out.below hb45)
  have HB5 := Hd hb5
  have HD4 := Hd hD4
  have HP := Hd hP
  clear ha hb4 hA4 hD4 hA5 hb45 hvo5 hb5 hv5 KN hvo hv3 hra hA2 hA3 hb3 hB33 hol hP
  go_wp2_with fail
  refine KN5.out.mono ?_
  rintro e w6 ⟨ha, hb6⟩
  have hol : (oneR w3.heap.size).map Prod.fst = oneL := rfl
  rw [hol] at ha
  obtain ⟨E, rfl, hcw, -, hE6, hE0⟩ := new_one ha
  have HE6 := Hd hE6
  have HE0 := Hd hE0
  have HD6 := Hd (HA5.out.below hb6)
  have HC6 := Hd (HC5.out.below hb6)
  have HB6 := Hd (HB5.out.trans (hb6.mono HB5.out.size))
  have hs6 := hb6.size
  have HLC : Hid (∀ q, foot pb cb (.slice none 0 0) q → w.heap.size ≤ q ∧ q < W3.heap.size) := Hd (fun q hq => by
    refine ⟨?_, HC33.out.lt hq⟩
    have := HB1.out.size
    rcases hq with rfl | rfl | hq
    · omega
    · omega
    · cases hq)
  have hw3 := HB33.out.size
  have HLD : Hid (∀ q, D.has [0] q → W3.heap.size ≤ q ∧ q < W5.heap.size) := Hd (fun q hq => ⟨HD4.out q hq, HA5.out.lt hq⟩)
  have KX := Hd (brunC_any (c := cs0) w6 HD6.out HP.out w (HV.out w (Below.refl _ _)) HB6.out (fun q hq => by
    rcases hq with hq | hq
    · have := (HLD.out q (Or.inr hq)).1; omega
    · exact (HLC.out q hq).1) (BInv.zero _ _ _) hcv HC6.out cs0_ok (fun q hq hf => by have := (HLD.out q hq).1; have := (HLC.out q hf).2; omega) 0)
  clear ha hb6 hE6 hE0 KN5 hol
  go_wp2_with fail
  refine KX.out.mono ?_
  rintro e w7 ⟨hit, code, c', st', lv, rfl, hrel, -, hC7, hF7, hl7⟩
  obtain ⟨rfl, rfl, rfl⟩ := run_first hrel
  have hE7 := HE6.out.of_fr hF7 (fun q hq => ⟨HE6.out.lt hq, fun h => by
    have h1 := HE0.out q hq
    rcases h with h | h
    · have := (HLD.out q (Or.inr h)).2; omega
    · have := (HLC.out q h).2; omega⟩)
  have HE7 := Hd hE7
  have HB7 := Hd (HB6.out.trans ((hF7.mono HB6.out.size (fun _ _ h => h)).below (fun q hq h => by
    rcases h with h | h
    · have := (HLD.out q (Or.inr h)).1; omega
    · have := (HLC.out q h).1; omega)))
  have KY := Hd (brunC_any (c := cs1) w7 hE7 HP.out w (HV.out w (Below.refl _ _)) HB7.out (fun q hq => by
    rcases hq with hq | hq | hq | hq
    · have := HE0.out q (Or.inr hq); omega
    · exact (HLC.out q (Or.inl hq)).1
    · exact (HLC.out q (Or.inr (Or.inl hq))).1
    · rcases hl7 q hq with h | h
      · cases h
      · omega) (BInv.zero _ _ _) hcw hC7 cs1_ok (fun q hq hf => by
    have h1 := HE0.out q hq
    have h2 := HE6.out.lt hq
    rcases hf with hf | hf | hf
    · have := (HLC.out q (Or.inl hf)).2; omega
    · have := (HLC.out q (Or.inr (Or.inl hf))).2; omega
    · rcases hl7 q hf with h | h
      · cases h
      · omega) 0)
  have HQ7 : Hid (∀ q, E.steps [0] q ∨ foot pb cb lv q → w.heap.size ≤ q) := Hd (fun q hq => by
    rcases hq with hq | hq | hq | hq
    · have := HE0.out q (Or.inr hq); omega
    · exact (HLC.out q (Or.inl hq)).1
    · exact (HLC.out q (Or.inr (Or.inl hq))).1
    · rcases hl7 q hq with h | h
      · cases h
      · omega)
  clear hrel hE7 hC7 hF7 hl7 KX
  simp only [errN, if_pos]
  go_wp2_with fail
  refine KY.out.mono ?_
  rintro e w8 ⟨hit, code, c', st', lv', rfl, hrel, hA8, -, hF8, -⟩
  obtain ⟨rfl, rfl, hst⟩ := run_again hrel
  have HB8 := Hd (HB7.out.trans ((hF8.mono HB7.out.size (fun _ _ h => h)).below (fun q hq h => by
    have := HQ7.out q h; omega)))
  have KR := Hd (bResult_any w8 hA8 (List.mem_singleton_self 0))
  rw [hst] at KR
  have HST := Hd hst
  have HA8 := Hd hA8
  clear hrel hA8 hF8 KY hst
  simp only [errN, if_pos]
  go_wp2_with fail
  refine KR.out.mono ?_
  rintro e w9 ⟨rfl, hb9⟩
  have KO := Hd (bOver_any w9 (HA8.out.below hb9) HP.out)
  rw [over_one (by rw [HST.out])] at KO
  have HB9 := Hd (HB8.out.trans (hb9.mono HB8.out.size))
  clear hb9 KR
  simp only [resOf, if_pos]
  go_wp2_with fail
  refine KO.out.mono ?_
  rintro e w10 ⟨rfl, hb10⟩
  have HB10 := Hd (HB9.out.trans (hb10.mono HB9.out.size))
  clear hb10 KO
  go_wp2
  go_ret
  exact ⟨rfl, HB10.out⟩
end Go.Proofs.YtgjialbmlhbngaaGreatDoor
