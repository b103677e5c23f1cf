/-
  A build: Count. A build, with a cache or with none: Run, All.
-/
import Derived.Test.YtgoeoekdlcbmpaaGreatDoorBdB
import Derived.Test.YtgoeoekdlcbmpaaGreatDoorPkM
import Derived.Test.YtgoeoekdlcbmpaaGreatDoorBdD

namespace Go.Proofs.YtgoeoekdlcbmpaaGreatDoor
open Go Go.RowKit Go.Kf Go.Sort Go.Proofs

end Go.Proofs.YtgoeoekdlcbmpaaGreatDoor

namespace Go.Proofs.YtgoeoekdlcbmpaaGreatDoor
open Go Go.RowKit Go.Kf Go.Sort Go.Proofs

/-- The blocks of a build's cache, if it has one. -/
def cfoot (pb mb : Nat) (lv : Value) : Option CS → Nat → Prop
  | none, _ => False
  | some _, q => foot pb mb lv q
/-- A build's cache. -/
def CacheO (D : BPl) (pb mb : Nat) (lv : Value) (w : World) : Option CS → Prop
  | none => D.cv = .pointer none
  | some c => D.cv = ptrV pb ∧ CacheAt w pb mb lv c.many c.ks c.mp
/-- A build as it stands. -/
structure BO (S : Nat → Addr) (l : List RuleL) (P : List Nat) (m : List Ent) (D : BPl) (pb mb B : Nat) (lv : Value) (c : Option CS) (st : Nat → St) (w : World) : Prop where
  at_ : BAt S l P m D w st
  cache : CacheO D pb mb lv w c
  low : ∀ q, D.steps P q ∨ cfoot pb mb lv c q → B ≤ q
  apart : ∀ q, D.has P q → ¬ cfoot pb mb lv c q
  inv : BInv l P (fun p => mlook p m) st
  cok : COk c
/-- What runs may have turned. -/
def Turned (D : BPl) (P : List Nat) (pb mb : Nat) (lv : Value) (c : Option CS) (w : World) (lv' : Value) (c' : Option CS) (w' : World) : Prop :=
  Fr w.heap.size (fun q => D.steps P q ∨ cfoot pb mb lv c q) w w' ∧ ∀ q, cfoot pb mb lv' c' q → cfoot pb mb lv c q ∨ w.heap.size ≤ q
section
variable {S : Nat → Addr} {l : List RuleL} {P : List Nat} {m : List Ent} {D : BPl} {pb mb B : Nat} {lv lv' lv2 : Value} {c c' c2 : Option CS} {st : Nat → St} {w w' w2 : World}
theorem Turned.refl (D : BPl) (P : List Nat) (pb mb : Nat) (lv : Value) (c : Option CS) (w : World) : Turned D P pb mb lv c w lv c w := ⟨Fr.refl _ _ _, fun _ h => Or.inl h⟩
theorem Turned.trans (h : Turned D P pb mb lv c w lv' c' w') (k : Turned D P pb mb lv' c' w' lv2 c2 w2) : Turned D P pb mb lv c w lv2 c2 w2 :=
  ⟨h.1.trans (k.1.mono h.1.size (fun q hq hs => hs.elim Or.inl (fun h1 => (h.2 q h1).elim Or.inr (fun h2 => by omega)))), fun q hq => (k.2 q hq).elim (fun h1 => h.2 q h1) (fun h1 => Or.inr (Nat.le_trans h.1.size h1))⟩
theorem Turned.of_below (hb : Below w.heap.size w w') : Turned D P pb mb lv c w lv c w' := ⟨Fr.of_below hb, fun _ h => Or.inl h⟩
theorem CacheO.lt (h : CacheO D pb mb lv w c) {q : Nat} (hq : cfoot pb mb lv c q) : q < w.heap.size := by
  cases c with
  | none => exact absurd hq id
  | some c => exact h.2.lt hq
theorem BO.lt (h : BO S l P m D pb mb B lv c st w) {q : Nat} (hq : D.has P q ∨ cfoot pb mb lv c q) : q < w.heap.size := hq.elim h.at_.lt h.cache.lt
theorem CacheO.fr {N : Nat} {Q : Nat → Prop} (h : CacheO D pb mb lv w c) (hf : Fr N Q w w') (hq : ∀ q, cfoot pb mb lv c q → q < N ∧ ¬ Q q) : CacheO D pb mb lv w' c := by
  cases c with
  | none => exact h
  | some c => exact ⟨h.1, h.2.fr hf hq⟩
theorem BO.fr {N : Nat} {Q : Nat → Prop} (h : BO S l P m D pb mb B lv c st w) (hf : Fr N Q w w') (hq : ∀ q, D.has P q ∨ cfoot pb mb lv c q → q < N ∧ ¬ Q q) : BO S l P m D pb mb B lv c st w' :=
  ⟨h.at_.of_fr hf (fun q hk => hq q (Or.inl hk)), h.cache.fr hf (fun q hk => hq q (Or.inr hk)), h.low, h.apart, h.inv, h.cok⟩
theorem BO.below (h : BO S l P m D pb mb B lv c st w) (hb : Below w.heap.size w w') : BO S l P m D pb mb B lv c st w' :=
  h.fr (Q := fun _ => False) (Fr.of_below hb) (fun _ hq => ⟨h.lt hq, id⟩)
/-- Below the base nothing turns. -/
theorem BO.base (h : BO S l P m D pb mb B lv c st w) {w0 : World} (h0 : w0.heap.size = B) (hb : Below w0.heap.size w0 w) (ht : Turned D P pb mb lv c w lv' c' w') : Below w0.heap.size w0 w' :=
  hb.trans ((ht.1.mono (S' := fun q => D.steps P q ∨ cfoot pb mb lv c q) hb.size (fun _ _ h => h)).below (fun q hq hs => by have := h.low q hs; omega))
/-- A build has been made. -/
theorem BO.made (h : BAt S l P m D w (fun _ => st0)) (hB : ∀ q, D.has P q → B ≤ q) (hc : CacheO D pb mb lv w c) (hl : ∀ q, cfoot pb mb lv c q → B ≤ q) (ha : ∀ q, D.has P q → ¬ cfoot pb mb lv c q) (hk : COk c) : BO S l P m D pb mb B lv c (fun _ => st0) w :=
  ⟨h, hc, fun q hq => hq.elim (fun h1 => hB q (Or.inr h1)) (hl q), ha, BInv.zero _ _ _, hk⟩

set_option maxRecDepth 100000 in
theorem brun_any {o : List Nat} (w : World) (h : BO S l P m D pb mb B lv c st w) (ho : Ord l P o) (w0 : World) (hB : w0.heap.size = B) (hV : BEnv S l m w0) (hb0 : Below w0.heap.size w0 w) (i : Int) :
    Calls Tryz.prog 18 #[ptrV D.b, .int .i64 i] w fun e w' => ∃ hit code c' st' lv', e = .returned (.tuple #[.bool hit, errN S code]) ∧ RunRel l P (fun p => mlook p m) c st i hit code c' st' ∧ BO S l P m D pb mb B lv' c' st' w' ∧ Turned D P pb mb lv c w lv' c' w' := by
  subst hB
  cases c with
  | none =>
    refine (brunN_any w h.at_ ho.ok (hV.below hb0) h.inv h.cache i).mono ?_
    rintro e w' ⟨hit, code, st', rfl, hrel, hat, hfr⟩
    have hi := hrel.steps.inv ho h.inv h.cok
    exact ⟨hit, code, none, st', lv, rfl, hrel, ⟨hat, h.cache, h.low, h.apart, hi.1, h.cok⟩, hfr.mono (Nat.le_refl _) (fun _ _ h => Or.inl h), fun _ h => Or.inl h⟩
  | some c =>
    refine (brunC_any w h.at_ ho.ok w0 hV hb0 h.low h.inv h.cache.1 h.cache.2 (h.cok c rfl).1 h.apart i).mono ?_
    rintro e w' ⟨hit, code, c', st', lv', rfl, hrel, hat, hca, hfr, hlv⟩
    have hi := hrel.steps.inv ho h.inv h.cok
    have hft : ∀ q, foot pb mb lv' q → foot pb mb lv q ∨ w.heap.size ≤ q := fun q hq => by
      rcases hq with h1 | h1 | h1
      · exact Or.inl (Or.inl h1)
      · exact Or.inl (Or.inr (Or.inl h1))
      · exact (hlv q h1).elim (fun h2 => Or.inl (Or.inr (Or.inr h2))) Or.inr
    refine ⟨hit, code, some c', st', lv', rfl, hrel, ⟨hat, ⟨h.cache.1, hca⟩, ?_, ?_, hi.1, hi.2.1⟩, hfr, hft⟩
    · rintro q (h1 | h1)
      · exact h.low q (Or.inl h1)
      · exact (hft q h1).elim (fun h2 => h.low q (Or.inr h2)) (fun h2 => Nat.le_trans hb0.size h2)
    · intro q hq hf
      rcases hft q hf with h2 | h2
      · exact h.apart q hq h2
      · have := h.at_.lt hq; omega
end

end Go.Proofs.YtgoeoekdlcbmpaaGreatDoor
