/-
  Builds with no cache: what runs make of them is one thing; New's error and the reference's fault. OwnTexts: what it gives is roomy. A slice that is nil, or has an address, as an argument.
-/
import Derived.Test.YtgoeoekdlcbmpaaGreatDoorRbD
import Derived.Test.YtgoeoekdlcbmpaaGreatDoorBdK
import Derived.Test.YtgoeoekdlcbmpaaGreatDoorBdD
import Derived.Test.YtgoeoekdlcbmpaaGreatDoorPkT
import Derived.Test.YtgoeoekdlcbmpaaGreatDoorPkI
import Derived.Test.YtgoeoekdlcbmpaaGreatDoorBdB
import Derived.Test.YtgoeoekdlcbmpaaGreatDoorPkE
import Derived.Test.YtgoeoekdlcbmpaaGreatDoorPkC
import Derived.Test.YtgoeoekdlcbmpaaGreatDoorPkB
import Derived.Test.YtgoeoekdlcbmpaaGreatDoorPkU
import Derived.ChangeSlices

namespace Go.Proofs.YtgoeoekdlcbmpaaGreatDoor
open Go Go.RowKit Go.Kf Go.Sort Go.Proofs

theorem map_some_inj {a b : List (List UInt8)} (h : a.map some = b.map some) : a = b := by
  induction a generalizing b with
  | nil => cases b with
    | nil => rfl
    | cons y b => simp at h
  | cons x a ih => cases b with
    | nil => simp at h
    | cons y b =>
      simp only [List.map_cons, List.cons.injEq, Option.some.injEq] at h
      rw [h.1, ih h.2]
theorem gone_not {l : List RuleL} {P : List Nat} {T : Look} {st : Nat → St} {k : Nat} {ins : List (List UInt8)} (h : ∃ s ∈ (l.getD k noR).ins, inP l P T st s = none) (h2 : (l.getD k noR).ins.map (inP l P T st) = ins.map some) : False := by
  obtain ⟨s, hs, h3⟩ := h
  have : none ∈ ins.map some := by
    rw [← h2, ← h3]
    exact List.mem_map.2 ⟨s, hs, rfl⟩
  obtain ⟨b, -, hb⟩ := List.mem_map.1 this
  cases hb
theorem GoRel.same {l : List RuleL} {P : List Nat} {T : Look} {c c1 c2 : Option CS} {st a b : Nat → St} {k : Nat} {x y : Bool} (hP : PartOk l P) (h1 : GoRel l P T c st k x c1 a) (h2 : GoRel l P T c st k y c2 b) (hc : c = none) : a = b ∧ c1 = none ∧ c2 = none := by
  cases h1 with
  | gone g1 f1 => cases h2 with
    | gone g2 f2 => exact ⟨f1.same hP f2, hc, hc⟩
    | hit i2 m2 => cases hc
    | run i2 m2 r2 => exact (gone_not g1 i2).elim
    | bad i2 m2 r2 f2 => exact (gone_not g1 i2).elim
  | hit i1 m1 => cases hc
  | run i1 m1 r1 => cases h2 with
    | gone g2 f2 => exact (gone_not g2 i1).elim
    | hit i2 m2 => cases hc
    | run i2 m2 r2 =>
      obtain rfl := map_some_inj (i1.symm.trans i2)
      rw [r1] at r2
      cases r2
      subst hc
      exact ⟨rfl, rfl, rfl⟩
    | bad i2 m2 r2 f2 =>
      obtain rfl := map_some_inj (i1.symm.trans i2)
      rw [r1] at r2
      cases r2
  | bad i1 m1 r1 f1 => cases h2 with
    | gone g2 f2 => exact (gone_not g2 i1).elim
    | hit i2 m2 => cases hc
    | run i2 m2 r2 =>
      obtain rfl := map_some_inj (i1.symm.trans i2)
      rw [r1] at r2
      cases r2
    | bad i2 m2 r2 f2 =>
      obtain rfl := map_some_inj (i1.symm.trans i2)
      rw [r1] at r2
      cases r2
      exact ⟨f1.same hP f2, hc, hc⟩
theorem AllRel.same {l : List RuleL} {P : List Nat} {T : Look} (hP : PartOk l P) {c : Option CS} {st : Nat → St} {js : List Nat} {c1 : Option CS} {a : Nat → St} (h1 : AllRel l P T c st js c1 a) : ∀ {ks : List Nat} {c2 : Option CS} {b : Nat → St}, c = none → AllRel l P T c st ks c2 b → js = ks ∧ a = b := by
  induction h1 with
  | stop r1 =>
    intro ks c2 b hc h2
    cases h2 with
    | stop r2 => exact ⟨rfl, rfl⟩
    | more r2 g2 a2 => rw [r1] at r2; cases r2
  | more r1 g1 a1 ih =>
    intro ks c2 b hc h2
    cases h2 with
    | stop r2 => rw [r2] at r1; cases r1
    | more r2 g2 a2 =>
      rw [r1] at r2
      cases r2
      obtain ⟨rfl, e1, e2⟩ := g1.same hP g2 hc
      subst e1 e2
      obtain ⟨rfl, rfl⟩ := ih rfl a2
      exact ⟨rfl, rfl⟩
theorem PickRel.same {l : List RuleL} {P : List Nat} {T : Look} (hP : PartOk l P) {c : Option CS} {st : Nat → St} {ps : List Int} {ks : List Nat} {c1 : Option CS} {a : Nat → St} (h1 : PickRel l P T c st ps ks c1 a) : ∀ {js : List Nat} {c2 : Option CS} {b : Nat → St}, c = none → PickRel l P T c st ps js c2 b → ks = js ∧ a = b ∧ c1 = none ∧ c2 = none := by
  induction h1 with
  | nil =>
    intro js c2 b hc h2
    generalize hq : ([] : List Int) = qs at h2
    cases h2 with
    | nil => exact ⟨rfl, rfl, hc, hc⟩
    | skip _ _ => simp at hq
    | go _ _ _ => simp at hq
  | @skip cb sa sb pa ka p h1 r1 ih =>
    intro js c2 b hc h2
    generalize hq : pa ++ [p] = qs at h2
    cases h2 with
    | nil => simp at hq
    | skip h2 r2 =>
      obtain ⟨rfl, -⟩ := List.append_inj' hq rfl
      exact ih hc h2
    | go h2 r2 g2 =>
      obtain ⟨rfl, -⟩ := List.append_inj' hq rfl
      obtain ⟨rfl, rfl, e1, e2⟩ := ih hc h2
      rw [r1] at r2
      simp at r2
  | @go cb cc sa sb sc pa ka p k hit h1 r1 g1 ih =>
    intro js c2 b hc h2
    generalize hq : pa ++ [p] = qs at h2
    cases h2 with
    | nil => simp at hq
    | skip h2 r2 =>
      obtain ⟨rfl, -⟩ := List.append_inj' hq rfl
      obtain ⟨rfl, rfl, e1, e2⟩ := ih hc h2
      rw [r2] at r1
      simp at r1
    | go h2 r2 g2 =>
      obtain ⟨rfl, e⟩ := List.append_inj' hq rfl
      cases e
      obtain ⟨rfl, rfl, e1, e2⟩ := ih hc h2
      rw [r1] at r2
      cases r2
      subst e1 e2
      obtain ⟨rfl, e3, e4⟩ := g1.same hP g2 rfl
      exact ⟨rfl, rfl, e3, e4⟩
/-- New's answer beside the reference's fault. -/
theorem new_fault {S : Nat → Addr} {l : List RuleL} {outs : List (List UInt8)} {m : List Ent} {cv : Value} {B : Nat} {e : Ending} {w' : World} {c : Nat} {p : Int} (h : BNewAns S l outs m cv B e w') (hf : BFaultIs l outs c p) :
    (0 < c ∧ ∃ T x, e = .returned (.tuple #[.pointer none, .iface T x])) ∨
    (c = 0 ∧ (∀ s ∈ outs, s ∈ l.map RuleL.out) ∧ ∃ P o D ks, PlacesAt l outs ks ∧ (∀ k, k ∈ P ↔ Reach (edgesB l) ks k) ∧ Ord l P o ∧ e = .returned (.tuple #[ptrV D.b, .nilIface]) ∧ D.cv = cv ∧ BAt S l P m D w' (fun _ => st0) ∧ ∀ k, D.has P k → B ≤ k) := by
  have key : ∀ {ks N ks' N' : List Nat}, RightS l → PlacesAt l outs ks → (∀ k, k ∈ N ↔ Reach (edgesB l) ks k) → PlacesAt l outs ks' → (∀ k, k ∈ N' ↔ Reach (edgesB l) ks' k) → orderB (edgesB l) (fun k => N'.contains k) l.length = orderB (edgesB l) (fun i => (needL l.length N).contains i) l.length := by
    intro ks N ks' N' hr h1 h2 h3 h4
    congr 1
    funext k
    have hlt : ∀ k ∈ N', k < l.length := fun k hk => ((h4 k).1 hk).lt (fun a b hb => edges_lt _ a b hb) h3.1
    rw [same_needs hr.2 h1 h3 h2 h4, Bool.eq_iff_iff, List.contains_iff_mem, List.contains_iff_mem, mem_needL hlt]
  rcases h with ⟨T, x, rfl, hbad⟩ | ⟨ks, N, o, D, hpl, hN, hob, hord, rfl, hcv, hat, hB⟩
  · refine Or.inl ⟨?_, T, x, rfl⟩
    rcases hf with ⟨-, h, -⟩ | ⟨-, i, hi, -, -, h, -⟩ | ⟨hr, ks', N', h3, h4, ⟨-, h, -⟩ | ⟨o, h, -⟩⟩
    · exact h
    · omega
    · omega
    · exfalso
      rcases hbad with hbad | ⟨-, i, g, hi, -, hno, -⟩ | ⟨-, ks, N, h1, h2, hon, -⟩
      · exact hbad.wrong hr
      · exact hno (places_made h3 _ (List.getElem_mem hi))
      · rw [key hr h1 h2 h3 h4, hon] at h
        cases h
  · refine Or.inr ⟨?_, places_made hpl, needL l.length N, o, D, ks, hpl, fun k => ?_, hord, rfl, hcv, hat, hB⟩
    · rcases hf with ⟨h, -⟩ | ⟨-, i, hi, -, h, -⟩ | ⟨hr, ks', N', h3, h4, ⟨h, -⟩ | ⟨o, -, h, -⟩⟩
      · exact absurd hord.ok.right h
      · exact absurd (places_made hpl _ (List.getElem_mem hi)) h
      · rw [key hord.ok.right hpl hN h3 h4, hob] at h
        cases h
      · exact h
    · rw [mem_needL (fun k hk => ((hN k).1 hk).lt (fun a b hb => edges_lt _ a b hb) hpl.1)]
      exact hN k
theorem Steps.rest {l : List RuleL} {P : List Nat} {T : Look} {c c' : Option CS} {st st' : Nat → St} (h : Steps l P T c st c' st') : ∀ j, j ∉ P → st' j = st j := by
  induction h with
  | refl => exact fun _ _ => rfl
  | go h1 hk hr hg ih =>
    intro j hj
    rw [← ih j hj]
    cases hg with
    | gone _ f => exact f.none j hj
    | hit _ _ => exact setSt_ne _ (fun e => hj (e ▸ hk))
    | run _ _ _ => exact setSt_ne _ (fun e => hj (e ▸ hk))
    | bad _ _ _ f => exact f.none j hj
section
variable {S : Nat → Addr} {l : List RuleL} {P : List Nat} {m : List Ent} {D : BPl} {w : World} {st : Nat → St}
theorem bstR_any (h : BAt S l P m D w st) (hi : BInv l P (fun p => mlook p m) st) (i : Nat) :
    Calls Tryz.prog 16 #[ptrV D.b, .int .i64 (i : Int)] w fun e w' => e = .returned (str (rSt P st i)) ∧ Below w.heap.size w w' := by
  by_cases hP : i ∈ P
  · have h1 := bState_any w h hP (hi.one i hP)
    rwa [show rSt P st i = stName (st i).state by simp [rSt, hP]]
  · have h1 := bStateNo_any w h (i := (i : Int)) (fun k hk e => hP (by
      have : i = k := by omega
      exact this ▸ hk))
    rwa [show rSt P st i = [] by simp [rSt, hP]]
theorem bresR_any (h : BAt S l P m D w st) (hi : BInv l P (fun p => mlook p m) st) (hov : ∀ i ∈ P, (st i).state ≠ 1) (hre : ∀ j, j ∉ P → st j = st0) (i : Nat) :
    Calls Tryz.prog 23 #[ptrV D.b, .int .i64 (i : Int)] w fun e w' => (∃ b, e = .returned (.tuple #[str (st i).out, .bool b])) ∧ Below w.heap.size w w' := by
  by_cases hP : i ∈ P
  · refine (bResult_any w h hP).mono ?_
    rintro e w' ⟨rfl, hb⟩
    refine ⟨⟨(resOf (st i)).2, ?_⟩, hb⟩
    have : (resOf (st i)).1 = (st i).out := by
      have h1 := hi.one i hP
      have h2 := hov i hP
      unfold resOf
      split
      · rfl
      · rename_i h3
        rcases (show (st i).state = 3 ∨ (st i).state = 4 by omega) with h4 | h4
        · exact (hi.fail i hP h4).2.2.2.2.symm
        · exact (hi.left i hP h4).2.2.1.symm
    rw [this]
  · refine (bResultNo_any w h (i := (i : Int)) (fun k hk e => hP (by
      have : i = k := by omega
      exact this ▸ hk))).mono ?_
    rintro e w' ⟨rfl, hb⟩
    exact ⟨⟨false, by rw [hre i hP]; rfl⟩, hb⟩
end
end Go.Proofs.YtgoeoekdlcbmpaaGreatDoor

namespace Go.Proofs.YtgoeoekdlcbmpaaGreatDoor
open Go Go.RowKit Go.Kf Go.Sort Go.Proofs

set_option maxRecDepth 100000 in
theorem own_textsR (v : Value) (l : List (List UInt8)) (w : World) (hr : Reads w v (l.map str)) (hn : NilOr v) (hl : l.length ≤ 1000) :
    Calls Tryz.prog 39 #[v] w fun e w' => ∃ v', e = .returned v' ∧ Roomy v' ∧ Reads w' v' (l.map str) ∧ Below w.heap.size w w' := by
  rcases hn with rfl | ⟨ad, n, c, rfl⟩
  · obtain ⟨i, hi, hz0, hz1, hz2⟩ := info_parts tyStrsK.info
    have HR := Lib.hid hr
    clear hr
    go_enter Tryz.func39, Tryz.ntmps39
    go_wp2_with (at_builtin; refine wpList_append_own_none rfl _ _ 32 rfl 0 9 i 1 tyStrsK.und hi _ 0 [] rfl (World.ownsRow_nil _ _ _ _) rfl ?_)
    go_ret
    refine ⟨_, rfl, fun a n c h => ?_, HR.out, Below.refl _ _⟩
    cases h
    exact Nat.le_refl _
  · obtain rfl := hr.len
    have HR := Lib.hid hr
    have hm : (l.map str).length = l.length := List.length_map _
    rw [hm]
    clear hr hm
    go_enter Tryz.func39, Tryz.ntmps39
    go_wp2_with (at_builtin; refine wpList_app _ rfl _ _ 32 rfl tyStrsK 0 _ 0 [] rfl (World.ownsRow_nil _ _ _ _) ad l.length c (l.map str) rfl (by simp) ?c1 ?c2 (by decide) (by omega) (Nat.zero_le _) ?_)
    case c1 =>
      intro j u hj
      obtain ⟨a', cap', e, -, hc⟩ := HR.out
      cases e
      obtain ⟨b, o, e, hcell⟩ := hc j u hj
      cases e
      rw [addr_add rfl]
      exact hcell
    case c2 =>
      intro u hu
      obtain ⟨t, -, rfl⟩ := List.mem_map.1 hu
      rfl
    intro v' w' hown hgrow hblk
    go_wp2
    go_ret
    refine ⟨_, rfl, ?_, ?_, (Below.refl _ _).grown hgrow (Nat.le_refl _) (fun k hk => by cases hk)⟩
    · rcases hown.2 with ⟨rfl, -⟩ | ⟨g, cap, cur, rfl, -, -, hcn, -⟩
      · intro a n c h
        cases h
        exact Nat.le_refl _
      · intro a n c h
        cases h
        exact hcn
    · have := ownsRow_reads hown
      simpa using this
end Go.Proofs.YtgoeoekdlcbmpaaGreatDoor

namespace Go.Proofs.YtgoeoekdlcbmpaaGreatDoor
open Go Go.ChangeShapes Go.WideShapes Go.ChangeAt Go.RowKit Go.Kf

theorem nil_texts {H : Type} {enc : TypeId × Value → H} {w : World} {v : Value} {fuel : Nat} {x : DataW H × List MemPlace} (h : DataW.trod enc Tryz.prog w 0 (fun _ => true) true fuel 32 [v] = some x) : NilOr v := by
  rcases Deep.open_slice Tryz.underlying32 h with ⟨h0, -⟩ | ⟨a, len, cap, m, n, D, Pl, h0, -⟩
  · simp only [List.cons.injEq, and_true] at h0
    exact Or.inl h0
  · simp only [List.cons.injEq, and_true] at h0
    exact Or.inr ⟨_, _, _, h0⟩
theorem nil_ints {H : Type} {enc : TypeId × Value → H} {w : World} {v : Value} {fuel : Nat} {x : DataW H × List MemPlace} (h : DataW.trod enc Tryz.prog w 0 (fun _ => true) true fuel 24 [v] = some x) : NilOr v := by
  rcases Deep.open_slice Tryz.underlying24 h with ⟨h0, -⟩ | ⟨a, len, cap, m, n, D, Pl, h0, -⟩
  · simp only [List.cons.injEq, and_true] at h0
    exact Or.inl h0
  · simp only [List.cons.injEq, and_true] at h0
    exact Or.inr ⟨_, _, _, h0⟩
end Go.Proofs.YtgoeoekdlcbmpaaGreatDoor
