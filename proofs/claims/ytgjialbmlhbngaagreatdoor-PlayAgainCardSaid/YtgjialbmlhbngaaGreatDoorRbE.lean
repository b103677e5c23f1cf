/-
  Builds with no cache: what runs make of them is one thing; New's error and the reference's fault. OwnTexts: what it gives is roomy. A slice that is nil, or has an address, as an argument.
-/
import Derived.Test.YtgjialbmlhbngaaGreatDoorRbD
import Derived.Test.YtgjialbmlhbngaaGreatDoorBdK
import Derived.Test.YtgjialbmlhbngaaGreatDoorBdD
import Derived.Test.YtgjialbmlhbngaaGreatDoorPkT
import Derived.Test.YtgjialbmlhbngaaGreatDoorPkI
import Derived.Test.YtgjialbmlhbngaaGreatDoorBdB
import Derived.Test.YtgjialbmlhbngaaGreatDoorPkE
import Derived.Test.YtgjialbmlhbngaaGreatDoorPkC
import Derived.Test.YtgjialbmlhbngaaGreatDoorPkB
import Derived.Test.YtgjialbmlhbngaaGreatDoorPkU
import Derived.ChangeSlices

namespace Go.Proofs.YtgjialbmlhbngaaGreatDoor
open Go Go.RowKit Go.Kf Go.Sort Go.Proofs

theorem map_some_inj {a b : List (List UInt8)} (h : a.map some = b.map some) : a = b := by
  induction a generalizing b with
  | nil => cases b with
    | nil => rfl
    | cons y b => simp at h
  | cons x a ih => cases b with
    | nil => simp at h
    | cons y b =>
      simp only [List.map_cons, List.cons.injEq, Option.some.injEq] at h
      rw [h.1, ih h.2]
theorem gone_not {l : List RuleL} {P : List Nat} {T : Look} {st : Nat → St} {k : Nat} {ins : List (List UInt8)} (h : ∃ s ∈ (l.getD k noR).ins, inP l P T st s = none) (h2 : (l.getD k noR).ins.map (inP l P T st) = ins.map some) : False := by
  obtain ⟨s, hs, h3⟩ := h
  have : none ∈ ins.map some := by
    rw [← h2, ← h3]
    exact List.mem_map.2 ⟨s, hs, rfl⟩
  obtain ⟨b, -, hb⟩ := List.mem_map.1 this
  cases hb
theorem GoRel.same {l : List RuleL} {P : List Nat} {T : Look} {c c1 c2 : Option CS} {st a b : Nat → St} {k : Nat} {x y : Bool} (hP : PartOk l P) (h1 : GoRel l P T c st k x c1 a) (h2 : GoRel l P T c st k y c2 b) (hc : c = none) : a = b ∧ c1 = none ∧ c2 = none := by
  cases h1 with
  | gone g1 f1 => cases h2 with
    | gone g2 f2 => exact ⟨f1.same hP f2, hc, hc⟩
    | hit i2 m2 => cases hc
    | run i2 m2 r2 => exact (gone_not g1 i2).elim
    | bad i2 m2 r2 f2 => exact (gone_not g1 i2).elim
  | hit i1 m1 => cases hc
  | run i1 m1 r1 => cases h2 with
    | gone g2 f2 => exact (gone_not g2 i1).elim
    | hit i2 m2 => cases hc
    | run i2 m2 r2 =>
      obtain rfl := map_some_inj (i1.symm.trans i2)
      rw [r1] at r2
      cases r2
      subst hc
      exact ⟨rfl, rfl, rfl⟩
    | bad i2 m2 r2 f2 =>
      obtain rfl := map_some_inj (i1.symm.trans i2)
      rw [r1] at r2
      cases r2
  | bad i1 m1 r1 f1 => cases h2 with
    | gone g2 f2 => exact (gone_not g2 i1).elim
    | hit i2 m2 => cases hc
    | run i2 m2 r2 =>
      obtain rfl := map_some_inj (i1.symm.trans i2)
      rw [r1] at r2
      cases r2
    | bad i2 m2 r2 f2 =>
      obtain rfl := map_some_inj (i1.symm.trans i2)
      rw [r1] at r2
      cases r2
      exact ⟨f1.same hP f2, hc, hc⟩
theorem AllRel.same {l : List RuleL} {P : List Nat} {T : Look} (hP : PartOk l P) {c : Option CS} {st : Nat → St} {js : List Nat} {c1 : Option CS} {a : Nat → St} (h1 : AllRel l P T c st js c1 a) : ∀ {ks : List Nat} {c2 : Option CS} {b : Nat → St}, c = none → AllRel l P T c st ks c2 b → js = ks ∧ a = b := by
  induction h1 with
  | stop r1 =>
    intro ks c2 b hc h2
    cases h2 with
    | stop r2 => exact ⟨rfl, rfl⟩
    | more r2 g2 a2 => rw [r1] at r2; cases r2
  | more r1 g1 a1 ih =>
    intro ks c2 b hc h2
    cases h2 with
    | stop r2 => rw [r2] at r1; cases r1
    | more r2 g2 a2 =>
      rw [r1] at r2
      cases r2
      obtain ⟨rfl, e1, e2⟩ := g1.same hP g2 hc
      subst e1 e2
      obtain ⟨rfl, rfl⟩ := ih rfl a2
      exact ⟨rfl, rfl⟩
theorem Steps.rest {l : List RuleL} {P : List Nat} {T : Look} {c c' : Option CS} {st st' : Nat → St} (h : Steps l P T c st c' st') : ∀ j, j ∉ P → st' j = st j := by
  induction h with
  | refl => exact fun _ _ => rfl
  | go h1 hk hr hg ih =>
    intro j hj
    rw [← ih j hj]
    cases hg with
    | gone _ f => exact f.none j hj
    | hit _ _ => exact setSt_ne _ (fun e => hj (e ▸ hk))
    | run _ _ _ => exact setSt_ne _ (fun e => hj (e ▸ hk))
    | bad _ _ _ f => exact f.none j hj
section
variable {S : Nat → Addr} {l : List RuleL} {P : List Nat} {m : List Ent} {D : BPl} {w : World} {st : Nat → St}
theorem bstR_any (h : BAt S l P m D w st) (hi : BInv l P (fun p => mlook p m) st) (i : Nat) :
    Calls Tryz.prog 73 #[ptrV D.b, .int .i64 (i : Int)] w fun e w' => e = .returned (str (rSt P st i)) ∧ Below w.heap.size w w' := by
  by_cases hP : i ∈ P
  · have h1 := bState_any w h hP (hi.one i hP)
    rwa [show rSt P st i = stName (st i).state by simp [rSt, hP]]
  · have h1 := bStateNo_any w h (i := (i : Int)) (fun k hk e => hP (by
      have : i = k := by omega
      exact this ▸ hk))
    rwa [show rSt P st i = [] by simp [rSt, hP]]
end
end Go.Proofs.YtgjialbmlhbngaaGreatDoor

namespace Go.Proofs.YtgjialbmlhbngaaGreatDoor
open Go Go.RowKit Go.Kf Go.Sort Go.Proofs

end Go.Proofs.YtgjialbmlhbngaaGreatDoor

namespace Go.Proofs.YtgjialbmlhbngaaGreatDoor
open Go Go.ChangeShapes Go.WideShapes Go.ChangeAt Go.RowKit Go.Kf

theorem nil_ints {H : Type} {enc : TypeId × Value → H} {w : World} {v : Value} {fuel : Nat} {x : DataW H × List MemPlace} (h : DataW.trod enc Tryz.prog w 0 (fun _ => true) true fuel 53 [v] = some x) : NilOr v := by
  rcases Deep.open_slice Tryz.underlying53 h with ⟨h0, -⟩ | ⟨a, len, cap, m, n, D, Pl, h0, -⟩
  · simp only [List.cons.injEq, and_true] at h0
    exact Or.inl h0
  · simp only [List.cons.injEq, and_true] at h0
    exact Or.inr ⟨_, _, _, h0⟩
end Go.Proofs.YtgjialbmlhbngaaGreatDoor
