/-
  Builds with no cache: what runs make of them is one thing; New's error and the reference's fault. OwnTexts: what it gives is roomy. A slice that is nil, or has an address, as an argument.
-/
import Derived.Test.YtgjialbmlhbngaaGreatDoorRbD
import Derived.Test.YtgjialbmlhbngaaGreatDoorBdK
import Derived.Test.YtgjialbmlhbngaaGreatDoorBdD
import Derived.Test.YtgjialbmlhbngaaGreatDoorPkT
import Derived.Test.YtgjialbmlhbngaaGreatDoorPkI
import Derived.Test.YtgjialbmlhbngaaGreatDoorBdB
import Derived.Test.YtgjialbmlhbngaaGreatDoorPkE
import Derived.Test.YtgjialbmlhbngaaGreatDoorPkC
import Derived.Test.YtgjialbmlhbngaaGreatDoorPkB
import Derived.Test.YtgjialbmlhbngaaGreatDoorPkU
import Derived.ChangeSlices

set_option maxRecDepth 100000
namespace Go.Proofs.YtgjialbmlhbngaaGreatDoor
open Go Go.RowKit Go.Kf Go.Sort Go.Proofs
theorem map_some_inj {a b : List (List UInt8)} (h : a.map some = b.map some) : a = b := by
  induction a generalizing b with
  | nil => cases b with
    | nil => rfl
    | cons y b => simp at h
  | cons x a ih => cases b with
    | nil => simp at h
    | cons y b =>
      simp only [List.map_cons, List.cons.injEq, Option.some.injEq] at h
      rw [h.1, ih h.2]
theorem gone_not {l : List RuleL} {P : List Nat} {T : Look} {st : Nat → St} {k : Nat} {ins : List (List UInt8)} (h : ∃ s ∈ (l.getD k noR).ins, inP l P T st s = none) (h2 : (l.getD k noR).ins.map (inP l P T st) = ins.map some) : False := by
  obtain ⟨s, hs, h3⟩ := h
  have : none ∈ ins.map some := by
    rw [← h2, ← h3]
    exact List.mem_map.2 ⟨s, hs, rfl⟩
  obtain ⟨b, -, hb⟩ := List.mem_map.1 this
  cases hb
theorem new_fault {S : Nat → Addr} {l : List RuleL} {outs : List (List UInt8)} {m : List Ent} {cv : Value} {B : Nat} {e : Ending} {w' : World} {c : Nat} {p : Int} (h : BNewAns S l outs m cv B e w') (hf : BFaultIs l outs c p) :
    (0 < c ∧ ∃ T x, e = .returned (.tuple #[.pointer none, .iface T x])) ∨
    (c = 0 ∧ (∀ s ∈ outs, s ∈ l.map RuleL.out) ∧ ∃ P o D ks, PlacesAt l outs ks ∧ (∀ k, k ∈ P ↔ Reach (edgesB l) ks k) ∧ Ord l P o ∧ e = .returned (.tuple #[ptrV D.b, .nilIface]) ∧ D.cv = cv ∧ BAt S l P m D w' (fun _ => st0) ∧ ∀ k, D.has P k → B ≤ k) := by
  have key : ∀ {ks N ks' N' : List Nat}, RightS l → PlacesAt l outs ks → (∀ k, k ∈ N ↔ Reach (edgesB l) ks k) → PlacesAt l outs ks' → (∀ k, k ∈ N' ↔ Reach (edgesB l) ks' k) → orderB (edgesB l) (fun k => N'.contains k) l.length = orderB (edgesB l) (fun i => (needL l.length N).contains i) l.length := by
    intro ks N ks' N' hr h1 h2 h3 h4
    congr 1
    funext k
    have hlt : ∀ k ∈ N', k < l.length := fun k hk => ((h4 k).1 hk).lt (fun a b hb => edges_lt _ a b hb) h3.1
    rw [same_needs hr.2 h1 h3 h2 h4, Bool.eq_iff_iff, List.contains_iff_mem, List.contains_iff_mem, mem_needL hlt]
  rcases h with ⟨T, x, rfl, hbad⟩ | ⟨ks, N, o, D, hpl, hN, hob, hord, rfl, hcv, hat, hB⟩
  · refine Or.inl ⟨?_, T, x, rfl⟩
    rcases hf with ⟨-, h, -⟩ | ⟨-, i, hi, -, -, h, -⟩ | ⟨hr, ks', N', h3, h4, ⟨-, h, -⟩ | ⟨o, h, -⟩⟩
    · exact h
    · omega
    · omega
    · exfalso
      rcases hbad with hbad | ⟨-, i, g, hi, -, hno, -⟩ | ⟨-, ks, N, h1, h2, hon, -⟩
      · exact hbad.wrong hr
      · exact hno (places_made h3 _ (List.getElem_mem hi))
      · rw [key hr h1 h2 h3 h4, hon] at h
        cases h
  · refine Or.inr ⟨?_, places_made hpl, needL l.length N, o, D, ks, hpl, fun k => ?_, hord, rfl, hcv, hat, hB⟩
    · rcases hf with ⟨h, -⟩ | ⟨-, i, hi, -, h, -⟩ | ⟨hr, ks', N', h3, h4, ⟨h, -⟩ | ⟨o, -, h, -⟩⟩
      · exact absurd hord.ok.right h
      · exact absurd (places_made hpl _ (List.getElem_mem hi)) h
      · rw [key hord.ok.right hpl hN h3 h4, hob] at h
        cases h
      · exact h
    · rw [mem_needL (fun k hk => ((hN k).1 hk).lt (fun a b hb => edges_lt _ a b hb) hpl.1)]
      exact hN k
theorem Steps.rest {l : List RuleL} {P : List Nat} {T : Look} {c c' : Option CS} {st st' : Nat → St} (h : Steps l P T c st c' st') : ∀ j, j ∉ P → st' j = st j := by
  induction h with
  | refl => exact fun _ _ => rfl
  | go h1 hk hr hg ih =>
    intro j hj
    rw [← ih j hj]
    cases hg with
    | gone _ f => exact f.none j hj
    | hit _ _ => exact setSt_ne _ (fun e => hj (e ▸ hk))
    | run _ _ _ => exact setSt_ne _ (fun e => hj (e ▸ hk))
    | bad _ _ _ f => exact f.none j hj
section
variable {S : Nat → Addr} {l : List RuleL} {P : List Nat} {m : List Ent} {D : BPl} {w : World} {st : Nat → St}
theorem bstR_any (h : BAt S l P m D w st) (hi : BInv l P (fun p => mlook p m) st) (i : Nat) :
    Calls Tryz.prog 73 #[ptrV D.b, .int .i64 (i : Int)] w fun e w' => e = .returned (str (rSt P st i)) ∧ Below w.heap.size w w' := by
  by_cases hP : i ∈ P
  · have h1 := bState_any w h hP (hi.one i hP)
    rwa [show rSt P st i = stName (st i).state by simp [rSt, hP]]
  · have h1 := bStateNo_any w h (i := (i : Int)) (fun k hk e => hP (by
      have : i = k := by omega
      exact this ▸ hk))
    rwa [show rSt P st i = [] by simp [rSt, hP]]
end
theorem own_textsR (v : Value) (l : List (List UInt8)) (w : World) (hr : Reads w v (l.map str)) (hn : NilOr v) (hl : l.length ≤ 1000) :
    Calls Tryz.prog 32 #[v] w fun e w' => ∃ v', e = .returned v' ∧ Roomy v' ∧ Reads w' v' (l.map str) ∧ Below w.heap.size w w' := by
  rcases hn with rfl | ⟨ad, n, c, rfl⟩
  · obtain ⟨i, hi, hz0, hz1, hz2⟩ := info_parts tyStrsK.info
    have HR := Hd hr
    clear hr
    go_enter Tryz.func32, Tryz.ntmps32
    go_wp2_with (at_builtin; refine wpList_append_own_none rfl _ _ 33 rfl 0 9 i 1 tyStrsK.und hi _ 0 [] rfl (World.ownsRow_nil _ _ _ _) rfl ?_)
    go_ret
    refine ⟨_, rfl, fun a n c h => ?_, HR.out, Below.refl _ _⟩
    cases h
    exact Nat.le_refl _
  · obtain rfl := hr.len
    have HR := Hd hr
    have hm : (l.map str).length = l.length := List.length_map _
    rw [hm]
    clear hr hm
    go_enter Tryz.func32, Tryz.ntmps32
    go_wp2_with (at_builtin; refine wpList_app _ rfl _ _ 33 rfl tyStrsK 0 _ 0 [] rfl (World.ownsRow_nil _ _ _ _) ad l.length c (l.map str) rfl (by simp) ?c1 ?c2 (by decide) (by omega) (Nat.zero_le _) ?_)
    case c1 =>
      intro j u hj
      obtain ⟨a', cap', e, -, hc⟩ := HR.out
      cases e
      obtain ⟨b, o, e, hcell⟩ := hc j u hj
      cases e
      rw [addr_add rfl]
      exact hcell
    case c2 =>
      intro u hu
      obtain ⟨t, -, rfl⟩ := List.mem_map.1 hu
      rfl
    intro v' w' hown hgrow hblk
    go_wp2
    go_ret
    refine ⟨_, rfl, ?_, ?_, (Below.refl _ _).grown hgrow (Nat.le_refl _) (fun k hk => by cases hk)⟩
    · rcases hown.2 with ⟨rfl, -⟩ | ⟨g, cap, cur, rfl, -, -, hcn, -⟩
      · intro a n c h
        cases h
        exact Nat.le_refl _
      · intro a n c h
        cases h
        exact hcn
    · have := ownsRow_reads hown
      simpa using this
end Go.Proofs.YtgjialbmlhbngaaGreatDoor

namespace Go.Proofs.YtgjialbmlhbngaaGreatDoor
open Go Go.ChangeShapes Go.WideShapes Go.ChangeAt Go.RowKit Go.Kf
theorem nil_texts {H : Type} {enc : TypeId × Value → H} {w : World} {v : Value} {fuel : Nat} {x : DataW H × List MemPlace} (h : DataW.trod enc Tryz.prog w 0 (fun _ => true) true fuel 33 [v] = some x) : NilOr v := by
  rcases Deep.open_slice Tryz.underlying33 h with ⟨h0, -⟩ | ⟨a, len, cap, m, n, D, Pl, h0, -⟩
  · simp only [List.cons.injEq, and_true] at h0
    exact Or.inl h0
  · simp only [List.cons.injEq, and_true] at h0
    exact Or.inr ⟨_, _, _, h0⟩
end Go.Proofs.YtgjialbmlhbngaaGreatDoor
