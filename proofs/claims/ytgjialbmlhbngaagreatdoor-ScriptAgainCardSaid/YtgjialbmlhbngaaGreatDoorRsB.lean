/-
  Plays in plain Lean: what Make of some outs makes of a yard, and what each number of a script makes of it; each makes one thing alone. Plays: the program's walks. Plays: one number of a script. Plays: a script, a new yard, a yard's sum: the program's walks. Plays: a new yard, and the sum of a yard. The closed fact of plays; the walk of the law PlayAgain. The walk of the law PlayAgain.
-/
import Derived.Test.YtgjialbmlhbngaaGreatDoorRsA
import Derived.Test.YtgjialbmlhbngaaGreatDoorYdC
import Derived.Test.YtgjialbmlhbngaaGreatDoorMid
import Derived.Test.YtgjialbmlhbngaaGreatDoorPkI
import Derived.Test.YtgjialbmlhbngaaGreatDoorPkK
import Derived.Test.YtgjialbmlhbngaaGreatDoorPkO

namespace Go.Proofs.YtgjialbmlhbngaaGreatDoor
open Go Go.RowKit Go.Kf Go.Sort Go.Proofs
def MakeRel (l : List RuleL) (outs : List (List UInt8)) (T : Look) (mo : List Ent) (c : CS) (n : Nat → Nat) (mo' : List Ent) (c' : CS) : Prop :=
  ∃ P o ks js ord st', PlacesAt l (outsOf l outs) ks ∧ (∀ k, k ∈ P ↔ Reach (edgesB l) ks k) ∧ Ord l P o ∧ AllRel l P T (some c) (fun _ => st0) js (some c') st' ∧ orderB (edgesB l) (fun _ => true) l.length = some ord ∧ mo' = ord.foldl (layOne l P st') mo ∧
    n 0 = cntP P st' isRan ∧ n 1 = cntP P st' isHit ∧ n 2 = cntP P st' isFailed ∧ n 3 = cntP P st' isLeft
theorem sorted_one {a b : List Nat} (ha : a.Pairwise (· < ·)) (hb : b.Pairwise (· < ·)) (h : ∀ k, k ∈ a ↔ k ∈ b) : a = b :=
  List.Perm.eq_of_pairwise (le := fun a b => a < b) (fun _ _ _ _ h1 h2 => absurd h1 (Nat.lt_asymm h2)) ha hb (perm_nodup (ha.imp (fun h => Nat.ne_of_lt h)) (hb.imp (fun h => Nat.ne_of_lt h)) h)
theorem MakeRel.one {l : List RuleL} {outs : List (List UInt8)} {T : Look} {mo : List Ent} {c : CS} {n n2 : Nat → Nat} {a b : List Ent} {c1 c2 : CS} (h1 : MakeRel l outs T mo c n a c1) (h2 : MakeRel l outs T mo c n2 b c2) : a = b ∧ c1 = c2 ∧ n 0 = n2 0 ∧ n 1 = n2 1 ∧ n 2 = n2 2 ∧ n 3 = n2 3 := by
  obtain ⟨P, o, ks, js, ord, st1, hp, hn, ho, ha, hord, rfl, e0, e1, e2, e3⟩ := h1
  obtain ⟨P2, o2, ks2, js2, ord2, st2, hp2, hn2, ho2, ha2, hord2, rfl, f0, f1, f2, f3⟩ := h2
  have hP : P = P2 := sorted_one ho.ok.rise ho2.ok.rise (fun k => by rw [hn, hn2]; exact reach_congr (places_same ho.ok.right.2 hp hp2) k)
  subst hP
  obtain ⟨-, hs, hc⟩ := ha.one ho.ok ha2
  subst hs
  rw [hord] at hord2
  cases hord2
  exact ⟨rfl, Option.some.inj hc, e0.trans f0.symm, e1.trans f1.symm, e2.trans f2.symm, e3.trans f3.symm⟩
theorem snoc_inj {α : Type} {a b : List α} {x y : α} (h : a ++ [x] = b ++ [y]) : a = b ∧ x = y := by
  obtain ⟨h1, h2⟩ := List.append_inj' h rfl
  exact ⟨h1, by simpa using h2⟩
def YTurn (Y : YPl) (vl : Value) (R : List RV) (lv lv' : Value) (w w' : World) : Prop := Fr w.heap.size (fun q => ∃ i, ysec Y lv vl R i q) w w' ∧ ∀ i q, ysec Y lv' vl R i q → ysec Y lv vl R i q ∨ w.heap.size ≤ q
section
variable {Y : YPl} {vl lv lv' lv2 : Value} {R : List RV} {w w' w2 : World}
theorem YTurn.foot (hf : Fr w.heap.size (fun q => q = Y.om ∨ foot Y.pb Y.cm lv q) w w') (hl : ∀ q, foot Y.pb Y.cm lv' q → foot Y.pb Y.cm lv q ∨ w.heap.size ≤ q) : YTurn Y vl R lv lv' w w' := by
  refine ⟨hf.mono (Nat.le_refl _) (fun q _ e => ?_), fun i q hq => ?_⟩
  · rcases e with e | e
    · exact ⟨2, Or.inr e⟩
    · exact ⟨3, e⟩
  · match i, hq with
    | 0, hq => exact Or.inl hq
    | 1, hq => exact Or.inl hq
    | 2, hq => exact Or.inl hq
    | 3, hq => exact hl q hq
    | 4, hq => exact Or.inl hq
    | _ + 5, hq => exact Or.inl hq
end
theorem Good.layAll {l : List RuleL} {P : List Nat} {st : Nat → St} : ∀ (o : List Nat) (mo : List Ent), Good mo → Good (List.foldl (layOne l P st) mo o)
  | [], _, h => h
  | k :: o, _, h => Good.layAll o _ (by
    unfold layOne
    split
    · exact h.put _ _
    · split
      · exact h.del _
      · exact h)
end Go.Proofs.YtgjialbmlhbngaaGreatDoor
