/-
  The reference's build: Many; Why of the program's build. New's error and the reference's fault: number and place. A build beside the reference's, with one cache each: what runs make of them is one thing.
-/
import Derived.Test.YtgjialbmlhbngaaGreatDoorRbA
import Derived.Test.YtgjialbmlhbngaaGreatDoorBdC
import Derived.Test.YtgjialbmlhbngaaGreatDoorRbE
import Derived.Test.YtgjialbmlhbngaaGreatDoorPkO
import Derived.Test.YtgjialbmlhbngaaGreatDoorRbJ
import Derived.Test.YtgjialbmlhbngaaGreatDoorBdH

namespace Go.Proofs.YtgjialbmlhbngaaGreatDoor
open Go Go.RowKit Go.Kf Go.Sort Go.Proofs


end Go.Proofs.YtgjialbmlhbngaaGreatDoor

namespace Go.Proofs.YtgjialbmlhbngaaGreatDoor
open Go Go.RowKit Go.Kf Go.Sort Go.Proofs

end Go.Proofs.YtgjialbmlhbngaaGreatDoor

namespace Go.Proofs.YtgjialbmlhbngaaGreatDoor
open Go Go.RowKit Go.Kf Go.Sort Go.Proofs

theorem GoRel.one {l : List RuleL} {P : List Nat} {T : Look} {c c1 c2 : Option CS} {st a b : Nat → St} {k : Nat} {x y : Bool} (hP : PartOk l P) (h1 : GoRel l P T c st k x c1 a) (h2 : GoRel l P T c st k y c2 b) : a = b ∧ c1 = c2 ∧ x = y := by
  cases h1 with
  | gone g1 f1 => cases h2 with
    | gone g2 f2 => exact ⟨f1.same hP f2, rfl, rfl⟩
    | hit i2 m2 => exact (gone_not g1 i2).elim
    | run i2 m2 r2 => exact (gone_not g1 i2).elim
    | bad i2 m2 r2 f2 => exact (gone_not g1 i2).elim
  | hit i1 m1 => cases h2 with
    | gone g2 f2 => exact (gone_not g2 i1).elim
    | hit i2 m2 =>
      obtain rfl := map_some_inj (i1.symm.trans i2)
      rw [m1] at m2
      cases m2
      exact ⟨rfl, rfl, rfl⟩
    | run i2 m2 r2 =>
      obtain rfl := map_some_inj (i1.symm.trans i2)
      rw [m2 _ rfl] at m1
      cases m1
    | bad i2 m2 r2 f2 =>
      obtain rfl := map_some_inj (i1.symm.trans i2)
      rw [m2 _ rfl] at m1
      cases m1
  | run i1 m1 r1 => cases h2 with
    | gone g2 f2 => exact (gone_not g2 i1).elim
    | hit i2 m2 =>
      obtain rfl := map_some_inj (i1.symm.trans i2)
      rw [m1 _ rfl] at m2
      cases m2
    | run i2 m2 r2 =>
      obtain rfl := map_some_inj (i1.symm.trans i2)
      rw [r1] at r2
      cases r2
      exact ⟨rfl, rfl, rfl⟩
    | bad i2 m2 r2 f2 =>
      obtain rfl := map_some_inj (i1.symm.trans i2)
      rw [r1] at r2
      cases r2
  | bad i1 m1 r1 f1 => cases h2 with
    | gone g2 f2 => exact (gone_not g2 i1).elim
    | hit i2 m2 =>
      obtain rfl := map_some_inj (i1.symm.trans i2)
      rw [m1 _ rfl] at m2
      cases m2
    | run i2 m2 r2 =>
      obtain rfl := map_some_inj (i1.symm.trans i2)
      rw [r1] at r2
      cases r2
    | bad i2 m2 r2 f2 =>
      obtain rfl := map_some_inj (i1.symm.trans i2)
      rw [r1] at r2
      cases r2
      exact ⟨f1.same hP f2, rfl, rfl⟩
theorem RunRel.parts {l : List RuleL} {P : List Nat} {T : Look} {c c' : Option CS} {st st' : Nat → St} {i : Int} {hit : Bool} {code : Nat} (h : RunRel l P T c st i hit code c' st') :
    ((∀ (k : Nat), k ∈ P → i ≠ (k : Int)) ∧ hit = false ∧ code = 6 ∧ c' = c ∧ st' = st) ∨ (∃ k : Nat, i = (k : Int) ∧ k ∈ P ∧ (st k).state ≠ 1 ∧ hit = false ∧ code = 12 ∧ c' = c ∧ st' = st) ∨
    (∃ k : Nat, i = (k : Int) ∧ k ∈ P ∧ (st k).state = 1 ∧ ¬ ReadyP l st k ∧ hit = false ∧ code = 11 ∧ c' = c ∧ st' = st) ∨ (∃ k : Nat, i = (k : Int) ∧ k ∈ P ∧ ReadyP l st k ∧ code = 0 ∧ GoRel l P T c st k hit c' st') := by
  cases h with
  | none h1 => exact Or.inl ⟨h1, rfl, rfl, rfl, rfl⟩
  | done h1 h2 => exact Or.inr (Or.inl ⟨_, rfl, h1, h2, rfl, rfl, rfl, rfl⟩)
  | turn h1 h2 h3 => exact Or.inr (Or.inr (Or.inl ⟨_, rfl, h1, h2, h3, rfl, rfl, rfl, rfl⟩))
  | go h1 h2 h3 => exact Or.inr (Or.inr (Or.inr ⟨_, rfl, h1, h2, rfl, h3⟩))
theorem RunRel.one {l : List RuleL} {P : List Nat} {T : Look} {c c1 c2 : Option CS} {st a b : Nat → St} {i : Int} {x y : Bool} {n k : Nat} (hP : PartOk l P) (h1 : RunRel l P T c st i x n c1 a) (h2 : RunRel l P T c st i y k c2 b) : a = b ∧ c1 = c2 ∧ x = y ∧ n = k := by
  rcases h1.parts with ⟨g1, rfl, rfl, rfl, rfl⟩ | ⟨q, rfl, g1, s1, rfl, rfl, rfl, rfl⟩ | ⟨q, rfl, g1, s1, r1, rfl, rfl, rfl, rfl⟩ | ⟨q, rfl, g1, r1, rfl, go1⟩ <;>
    rcases h2.parts with ⟨g2, rfl, rfl, rfl, rfl⟩ | ⟨q', e, g2, s2, rfl, rfl, rfl, rfl⟩ | ⟨q', e, g2, s2, r2, rfl, rfl, rfl, rfl⟩ | ⟨q', e, g2, r2, rfl, go2⟩
  · exact ⟨rfl, rfl, rfl, rfl⟩
  · exact absurd e (g1 _ g2)
  · exact absurd e (g1 _ g2)
  · exact absurd e (g1 _ g2)
  · exact absurd rfl (g2 _ g1)
  · exact ⟨rfl, rfl, rfl, rfl⟩
  · obtain rfl : q = q' := by omega
    exact absurd s2 s1
  · obtain rfl : q = q' := by omega
    exact absurd r2.1 s1
  · exact absurd rfl (g2 _ g1)
  · obtain rfl : q = q' := by omega
    exact absurd s1 s2
  · exact ⟨rfl, rfl, rfl, rfl⟩
  · obtain rfl : q = q' := by omega
    exact absurd r2 r1
  · exact absurd rfl (g2 _ g1)
  · obtain rfl : q = q' := by omega
    exact absurd r1.1 s2
  · obtain rfl : q = q' := by omega
    exact absurd r1 r2
  · obtain rfl : q = q' := by omega
    obtain ⟨h3, h4, h5⟩ := go1.one hP go2
    exact ⟨h3, h4, h5, rfl⟩
theorem AllRel.one {l : List RuleL} {P : List Nat} {T : Look} (hP : PartOk l P) {c : Option CS} {st : Nat → St} {js : List Nat} {c1 : Option CS} {a : Nat → St} (h1 : AllRel l P T c st js c1 a) : ∀ {ks : List Nat} {c2 : Option CS} {b : Nat → St}, AllRel l P T c st ks c2 b → js = ks ∧ a = b ∧ c1 = c2 := by
  induction h1 with
  | stop r1 =>
    intro ks c2 b h2
    cases h2 with
    | stop r2 => exact ⟨rfl, rfl, rfl⟩
    | more r2 g2 a2 => rw [r1] at r2; cases r2
  | more r1 g1 a1 ih =>
    intro ks c2 b h2
    cases h2 with
    | stop r2 => rw [r2] at r1; cases r1
    | more r2 g2 a2 =>
      rw [r1] at r2
      cases r2
      obtain ⟨rfl, rfl, -⟩ := g1.one hP g2
      obtain ⟨rfl, rfl, rfl⟩ := ih a2
      exact ⟨rfl, rfl, rfl⟩

end Go.Proofs.YtgjialbmlhbngaaGreatDoor
