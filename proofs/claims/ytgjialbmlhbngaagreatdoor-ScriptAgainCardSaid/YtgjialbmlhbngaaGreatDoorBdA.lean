/-
  A build, in plain words: its rules' states; what fails, and what is left; a rule that runs. A build, in plain words: a rule that runs keeps what is always so; when none is ready all are over; counts. Builds in plain words: a cache keeps right bytes; runs one after the other; what is the same in the end. Builds in plain words: in the end all is the same; which rules ran.
-/
import Derived.Test.YtgjialbmlhbngaaGreatDoorPkY
import Derived.Test.YtgjialbmlhbngaaGreatDoorPkC
import Derived.Test.YtgjialbmlhbngaaGreatDoorPkZ

namespace Go.Proofs.YtgjialbmlhbngaaGreatDoor
open Go Go.RowKit Go.Kf Go.Sort Go.Proofs
structure St where
  state : Nat
  hit : Bool
  out : List UInt8
  why : Nat
def st0 : St := ⟨1, false, [], 0⟩
structure PartOk (l : List RuleL) (P : List Nat) : Prop where
  right : RightS l
  lt : ∀ k ∈ P, k < l.length
  rise : P.Pairwise (· < ·)
  shut : ∀ k ∈ P, ∀ j ∈ edgesB l k, j ∈ P
  rank : ∃ r : Nat → Nat, ∀ i ∈ P, ∀ j ∈ edgesB l i, r j < r i
theorem PartOk.nodup {l : List RuleL} {P : List Nat} (h : PartOk l P) : P.Nodup := h.rise.imp (fun hab => Nat.ne_of_lt hab)
theorem PartOk.many {l : List RuleL} {P : List Nat} (h : PartOk l P) : P.length ≤ 40 := Nat.le_trans (nodup_le _ _ h.nodup h.lt) h.right.1
def ReadyP (l : List RuleL) (st : Nat → St) (i : Nat) : Prop := (st i).state = 1 ∧ ∀ k ∈ edgesB l i, (st k).state = 2
def readyB (l : List RuleL) (st : Nat → St) (i : Nat) : Bool := decide ((st i).state = 1) && (edgesB l i).all fun k => decide ((st k).state = 2)
theorem readyB_iff {l : List RuleL} {st : Nat → St} {i : Nat} : readyB l st i = true ↔ ReadyP l st i := by
  unfold readyB ReadyP
  simp [List.all_eq_true]
structure FailPost (l : List RuleL) (P : List Nat) (st st' : Nat → St) (i e : Nat) : Prop where
  at_ : st' i = { st i with state := 3, why := e }
  none : ∀ j, j ∉ P → st' j = st j
  rest : ∀ j ∈ P, j ≠ i → st' j = st j ∨ ((st j).state = 1 ∧ st' j = { st j with state := 4 } ∧ ∃ k ∈ edgesB l j, 3 ≤ (st' k).state)
  shut : ∀ j ∈ P, (st' j).state = 1 → ∀ k ∈ edgesB l j, (st' k).state < 3
theorem FailPost.same {l : List RuleL} {P : List Nat} {st a b : Nat → St} {i e : Nat} (h : PartOk l P) (ha : FailPost l P st a i e) (hb : FailPost l P st b i e) : a = b := by
  obtain ⟨r, hr⟩ := h.rank
  have key : ∀ n j, r j = n → j ∈ P → a j = b j := by
    intro n
    induction n using Nat.strongRecOn with
    | ind n ih =>
      intro j hn hj
      by_cases hji : j = i
      · subst hji
        rw [ha.at_, hb.at_]
      · have hk : ∀ k ∈ edgesB l j, a k = b k := fun k hk => ih (r k) (by have := hr j hj k hk; omega) k rfl (h.shut j hj k hk)
        rcases ha.rest j hj hji with h1 | ⟨h1, h2, k, hkE, hk3⟩ <;> rcases hb.rest j hj hji with h3 | ⟨h3, h4, k', hkE', hk3'⟩
        · rw [h1, h3]
        · exfalso
          have := ha.shut j hj (by rw [h1]; exact h3) k' hkE'
          rw [hk k' hkE'] at this
          omega
        · exfalso
          have := hb.shut j hj (by rw [h3]; exact h1) k hkE
          rw [← hk k hkE] at this
          omega
        · rw [h2, h4]
  funext j
  by_cases hj : j ∈ P
  · exact key _ j rfl hj
  · rw [ha.none j hj, hb.none j hj]
structure BInv (l : List RuleL) (P : List Nat) (T : Look) (st : Nat → St) : Prop where
  one : ∀ i ∈ P, 1 ≤ (st i).state ∧ (st i).state ≤ 4
  wait : ∀ i ∈ P, (st i).state = 1 → (∀ k ∈ edgesB l i, (st k).state ≤ 2) ∧ (st i).hit = false ∧ (st i).out = [] ∧ (st i).why = 0
  done : ∀ i ∈ P, (st i).state = 2 → (∀ k ∈ edgesB l i, (st k).state = 2) ∧ wantV l T (l.getD i noR).out = (0, (st i).out) ∧ (st i).why = 0
  fail : ∀ i ∈ P, (st i).state = 3 → (∀ k ∈ edgesB l i, (st k).state = 2) ∧ (wantV l T (l.getD i noR).out).1 = (st i).why ∧ (st i).why ≠ 0 ∧ (st i).hit = false ∧ (st i).out = []
  left : ∀ i ∈ P, (st i).state = 4 → (∃ k ∈ edgesB l i, 3 ≤ (st k).state) ∧ (st i).hit = false ∧ (st i).out = [] ∧ (st i).why = 0
theorem BInv.zero (l : List RuleL) (P : List Nat) (T : Look) : BInv l P T (fun _ => st0) :=
  ⟨fun i _ => ⟨Nat.le_refl _, by decide⟩, fun i _ _ => ⟨fun k _ => by decide, rfl, rfl, rfl⟩, fun i _ h => absurd h (by decide), fun i _ h => absurd h (by decide), fun i _ h => absurd h (by decide)⟩
def inP (l : List RuleL) (P : List Nat) (T : Look) (st : Nat → St) (s : List UInt8) : Option (List UInt8) := match P.find? (fun k => (l.getD k noR).out == s) with
  | some k => some (st k).out
  | none => T s
theorem getD_at {l : List RuleL} {i : Nat} (h : i < l.length) : l.getD i noR = l[i] := by
  rw [List.getD_eq_getElem?_getD, List.getElem?_eq_getElem h]
  rfl
theorem inP_made {l : List RuleL} {P : List Nat} {T : Look} {st : Nat → St} (h : PartOk l P) {k : Nat} (hk : k ∈ P) : inP l P T st (l.getD k noR).out = some (st k).out := by
  have hf : P.find? (fun j => (l.getD j noR).out == (l.getD k noR).out) = some k := by
    obtain ⟨t, ht, rfl⟩ := List.mem_iff_getElem.1 hk
    rw [List.find?_eq_some_iff_getElem]
    refine ⟨by simp, t, ht, rfl, fun j hj => ?_⟩
    have hne : (l.getD P[j] noR).out ≠ (l.getD P[t] noR).out := fun e => by
      have h1 := h.lt _ (List.getElem_mem ht)
      have h2 := h.lt _ (List.getElem_mem (show j < P.length by omega))
      rw [getD_at h1, getD_at h2] at e
      have := nodup_at h.nodup (h.right.2.outs h2 h1 e)
      omega
    simpa using hne
  unfold inP
  rw [hf]
theorem inP_file {l : List RuleL} {P : List Nat} {T : Look} {st : Nat → St} {s : List UInt8} (h : ∀ k ∈ P, (l.getD k noR).out ≠ s) : inP l P T st s = T s := by
  have hf : P.find? (fun j => (l.getD j noR).out == s) = none := by
    rw [List.find?_eq_none]
    intro k hk e
    exact h k hk (by simpa using e)
  unfold inP
  rw [hf]
def inT : Option (List UInt8) → Told
  | some b => (0, b)
  | none => (6, [])
theorem want_ready {l : List RuleL} {P : List Nat} {T : Look} {st : Nat → St} {o : List Nat} (h : PartOk l P) (ho : Outs (edgesB l) (fun k => P.contains k) l.length o) (ha : ∀ k ∈ P, k ∈ o) (hi : BInv l P T st) {i : Nat} (hiP : i ∈ P) (hd : ∀ k ∈ edgesB l i, (st k).state = 2) :
    wantV l T (l.getD i noR).out = toldOf (l.getD i noR) ((l.getD i noR).ins.map fun s => inT (inP l P T st s)) := by
  have hil := h.lt i hiP
  rw [getD_at hil, wantV_rule h.right.2 ho hil (ha i hiP)]
  congr 1
  refine List.map_congr_left (fun s hs => ?_)
  rcases out_cases l s with ⟨j, hj, rfl⟩ | hno
  · have hje : j ∈ edgesB l i := (mem_edges hil).2 ⟨hj, hs⟩
    have hjP := h.shut i hiP j hje
    have h1 := inP_made (T := T) (st := st) h hjP
    have h2 := (hi.done j hjP (hd j hje)).2.1
    rw [getD_at hj] at h1 h2
    rw [h1, h2]
    rfl
  · rw [wantV_leaf hno, inP_file (fun k hk e => hno (by
      rw [getD_at (h.lt k hk)] at e
      exact List.mem_map.2 ⟨_, List.getElem_mem (h.lt k hk), e⟩))]
    rfl
def setSt (st : Nat → St) (i : Nat) (s : St) : Nat → St := fun j => if j = i then s else st j
theorem setSt_at (st : Nat → St) (i : Nat) (s : St) : setSt st i s i = s := if_pos rfl
theorem setSt_ne {st : Nat → St} {i j : Nat} (s : St) (h : j ≠ i) : setSt st i s j = st j := if_neg h
theorem BInv.set_done {l : List RuleL} {P : List Nat} {T : Look} {st : Nat → St} (_h : PartOk l P) (hi : BInv l P T st) {i : Nat} (hiP : i ∈ P) (hr : ReadyP l st i) {b : List UInt8} (hit : Bool) (hw : wantV l T (l.getD i noR).out = (0, b)) : BInv l P T (setSt st i ⟨2, hit, b, 0⟩) := by
  have h1 : ∀ k, (st k).state ≠ 1 → setSt st i ⟨2, hit, b, 0⟩ k = st k := fun k hk => setSt_ne _ (fun e => hk (by rw [e]; exact hr.1))
  have h2 : ∀ k, (setSt st i ⟨2, hit, b, 0⟩ k).state = 2 ∨ (setSt st i ⟨2, hit, b, 0⟩ k).state = (st k).state := fun k => by
    by_cases hk : k = i
    · subst hk; rw [setSt_at]; exact Or.inl rfl
    · rw [setSt_ne _ hk]; exact Or.inr rfl
  refine ⟨fun j hj => ?_, fun j hj hs => ?_, fun j hj hs => ?_, fun j hj hs => ?_, fun j hj hs => ?_⟩
  · have := hi.one j hj
    rcases h2 j with e | e <;> omega
  · have hji : j ≠ i := fun e => by subst e; rw [setSt_at] at hs; cases hs
    rw [setSt_ne _ hji] at hs ⊢
    obtain ⟨h3, h4⟩ := hi.wait j hj hs
    refine ⟨fun k hk => ?_, h4⟩
    have := h3 k hk
    rcases h2 k with e | e <;> omega
  · by_cases hji : j = i
    · subst hji
      rw [setSt_at]
      exact ⟨fun k hk => by rw [h1 k (by rw [hr.2 k hk]; decide)]; exact hr.2 k hk, hw, rfl⟩
    · rw [setSt_ne _ hji] at hs ⊢
      obtain ⟨h3, h4⟩ := hi.done j hj hs
      exact ⟨fun k hk => by rw [h1 k (by rw [h3 k hk]; decide)]; exact h3 k hk, h4⟩
  · have hji : j ≠ i := fun e => by subst e; rw [setSt_at] at hs; cases hs
    rw [setSt_ne _ hji] at hs ⊢
    obtain ⟨h3, h4⟩ := hi.fail j hj hs
    exact ⟨fun k hk => by rw [h1 k (by rw [h3 k hk]; decide)]; exact h3 k hk, h4⟩
  · have hji : j ≠ i := fun e => by subst e; rw [setSt_at] at hs; cases hs
    rw [setSt_ne _ hji] at hs ⊢
    obtain ⟨⟨k, hk, h3⟩, h4⟩ := hi.left j hj hs
    exact ⟨⟨k, hk, by rw [h1 k (by omega)]; exact h3⟩, h4⟩
theorem FailPost.keep {l : List RuleL} {P : List Nat} {st st' : Nat → St} {i e : Nat} (h : FailPost l P st st' i e) (hi : (st i).state = 1) {j : Nat} (hj : (st j).state ≠ 1) : st' j = st j := by
  by_cases hP : j ∈ P
  · rcases h.rest j hP (fun e => hj (by rw [e]; exact hi)) with h1 | ⟨h1, -⟩
    · exact h1
    · exact absurd h1 hj
  · exact h.none j hP
theorem BInv.set_fail {l : List RuleL} {P : List Nat} {T : Look} {st st' : Nat → St} (hi : BInv l P T st) {i e : Nat} (hiP : i ∈ P) (hr : ReadyP l st i) (hf : FailPost l P st st' i e) (he : e ≠ 0) (hw : (wantV l T (l.getD i noR).out).1 = e) : BInv l P T st' := by
  have hk := fun j => hf.keep hr.1 (j := j)
  have hiw := hi.wait i hiP hr.1
  refine ⟨fun j hj => ?_, fun j hj hs => ?_, fun j hj hs => ?_, fun j hj hs => ?_, fun j hj hs => ?_⟩
  · by_cases hji : j = i
    · subst hji; rw [hf.at_]; exact ⟨Nat.le_of_ble_eq_true rfl, Nat.le_of_ble_eq_true rfl⟩
    · rcases hf.rest j hj hji with h1 | ⟨-, h1, -⟩ <;> rw [h1]
      · exact hi.one j hj
      · exact ⟨Nat.le_of_ble_eq_true rfl, Nat.le_of_ble_eq_true rfl⟩
  · have hji : j ≠ i := fun e => by subst e; rw [hf.at_] at hs; cases hs
    refine ⟨fun k hk => by have := hf.shut j hj hs k hk; omega, ?_⟩
    rcases hf.rest j hj hji with h1 | ⟨-, h1, -⟩
    · rw [h1] at hs ⊢; exact (hi.wait j hj hs).2
    · rw [h1] at hs; cases hs
  · have hji : j ≠ i := fun e => by subst e; rw [hf.at_] at hs; cases hs
    rcases hf.rest j hj hji with h1 | ⟨-, h1, -⟩
    · rw [h1] at hs ⊢
      obtain ⟨h3, h4⟩ := hi.done j hj hs
      exact ⟨fun k hk2 => by rw [hk k (by rw [h3 k hk2]; decide)]; exact h3 k hk2, h4⟩
    · rw [h1] at hs; cases hs
  · by_cases hji : j = i
    · subst hji
      rw [hf.at_]
      exact ⟨fun k hk2 => by rw [hk k (by rw [hr.2 k hk2]; decide)]; exact hr.2 k hk2, hw, he, hiw.2.1, hiw.2.2.1⟩
    · rcases hf.rest j hj hji with h1 | ⟨-, h1, -⟩
      · rw [h1] at hs ⊢
        obtain ⟨h3, h4⟩ := hi.fail j hj hs
        exact ⟨fun k hk2 => by rw [hk k (by rw [h3 k hk2]; decide)]; exact h3 k hk2, h4⟩
      · rw [h1] at hs; cases hs
  · have hji : j ≠ i := fun e => by subst e; rw [hf.at_] at hs; cases hs
    rcases hf.rest j hj hji with h1 | ⟨h0, h1, h2⟩
    · rw [h1] at hs ⊢
      obtain ⟨⟨k, hk2, h3⟩, h4⟩ := hi.left j hj hs
      exact ⟨⟨k, hk2, by rw [hk k (by omega)]; exact h3⟩, h4⟩
    · rw [h1]
      exact ⟨h2, (hi.wait j hj h0).2⟩
def readyL (l : List RuleL) (P : List Nat) (st : Nat → St) : List Nat := P.filter (readyB l st)
def waitL (P : List Nat) (st : Nat → St) : List Nat := P.filter fun i => decide ((st i).state = 1)
def cntP (P : List Nat) (st : Nat → St) (p : St → Bool) : Nat := (P.filter fun i => p (st i)).length
def isRan (s : St) : Bool := decide (s.state = 2) && !s.hit
def isHit (s : St) : Bool := decide (s.state = 2) && s.hit
def isFailed (s : St) : Bool := decide (s.state = 3)
def isLeft (s : St) : Bool := decide (s.state = 4)
theorem wait_less {P : List Nat} {st st' : Nat → St} {i : Nat} (hi : i ∈ P) (h1 : (st i).state = 1) (h2 : (st' i).state ≠ 1) (h : ∀ j ∈ P, (st' j).state = 1 → (st j).state = 1) : (waitL P st').length < (waitL P st).length := by
  unfold waitL
  induction P with
  | nil => cases hi
  | cons a P ih =>
    have hle : ∀ Q : List Nat, (∀ j ∈ Q, (st' j).state = 1 → (st j).state = 1) → (Q.filter fun i => decide ((st' i).state = 1)).length ≤ (Q.filter fun i => decide ((st i).state = 1)).length := by
      intro Q
      induction Q with
      | nil => intro _; exact Nat.le_refl _
      | cons q Q ihq =>
        intro hQ
        have ihq := ihq (fun j hj => hQ j (List.mem_cons_of_mem _ hj))
        have hq := hQ q List.mem_cons_self
        simp only [List.filter_cons]
        by_cases e : (st' q).state = 1
        · simp [e, hq e]; exact ihq
        · by_cases e2 : (st q).state = 1
          · simp [e, e2]; omega
          · simp [e, e2]; exact ihq
    have hP := hle P (fun j hj => h j (List.mem_cons_of_mem _ hj))
    simp only [List.filter_cons]
    rcases List.mem_cons.1 hi with rfl | hi
    · simp [h1, h2]; omega
    · have ih := ih hi (fun j hj => h j (List.mem_cons_of_mem _ hj))
      have ha := h a List.mem_cons_self
      by_cases e : (st' a).state = 1
      · simp [e, ha e]; exact ih
      · by_cases e2 : (st a).state = 1
        · simp [e, e2]; omega
        · simp [e, e2]; exact ih
structure CS where
  many : Nat
  ks : List (List UInt8)
  mp : List (List UInt8 × List UInt8)
def cGet (c : CS) (key : List UInt8) : CS := { c with ks := if (mlook key c.mp).isSome then without key c.ks ++ [key] else c.ks }
def cPut (c : CS) (key v : List UInt8) : CS := { c with ks := putKeys c.many key c.ks, mp := putMapL c.many key v c.ks c.mp }
def CInv (c : CS) : Prop := ∀ k w ins b, mlook (keyL k w ins) c.mp = some b → actOf k w ins = (0, b)
inductive GoRel (l : List RuleL) (P : List Nat) (T : Look) : Option CS → (Nat → St) → Nat → Bool → Option CS → (Nat → St) → Prop
  | gone {c : Option CS} {st st' : Nat → St} {i : Nat} : (∃ s ∈ (l.getD i noR).ins, inP l P T st s = none) → FailPost l P st st' i 6 → GoRel l P T c st i false c st'
  | hit {c : CS} {st : Nat → St} {i : Nat} {ins : List (List UInt8)} {b : List UInt8} : (l.getD i noR).ins.map (inP l P T st) = ins.map some → mlook (keyL (l.getD i noR).kind (l.getD i noR).word ins) c.mp = some b →
      GoRel l P T (some c) st i true (some (cGet c (keyL (l.getD i noR).kind (l.getD i noR).word ins))) (setSt st i ⟨2, true, b, 0⟩)
  | run {c : Option CS} {st : Nat → St} {i : Nat} {ins : List (List UInt8)} {b : List UInt8} : (l.getD i noR).ins.map (inP l P T st) = ins.map some → (∀ c0, c = some c0 → mlook (keyL (l.getD i noR).kind (l.getD i noR).word ins) c0.mp = none) → actOf (l.getD i noR).kind (l.getD i noR).word ins = (0, b) →
      GoRel l P T c st i false (c.map fun c0 => cPut c0 (keyL (l.getD i noR).kind (l.getD i noR).word ins) b) (setSt st i ⟨2, false, b, 0⟩)
  | bad {c : Option CS} {st st' : Nat → St} {i e : Nat} {ins : List (List UInt8)} {x : List UInt8} : (l.getD i noR).ins.map (inP l P T st) = ins.map some → (∀ c0, c = some c0 → mlook (keyL (l.getD i noR).kind (l.getD i noR).word ins) c0.mp = none) → actOf (l.getD i noR).kind (l.getD i noR).word ins = (e + 1, x) → FailPost l P st st' i (e + 1) →
      GoRel l P T c st i false c st'
theorem want_ins {l : List RuleL} {P : List Nat} {T : Look} {st : Nat → St} {o : List Nat} (h : PartOk l P) (ho : Outs (edgesB l) (fun k => P.contains k) l.length o) (ha : ∀ k ∈ P, k ∈ o) (hi : BInv l P T st) {i : Nat} (hiP : i ∈ P) (hd : ∀ k ∈ edgesB l i, (st k).state = 2) {ins : List (List UInt8)} (hins : (l.getD i noR).ins.map (inP l P T st) = ins.map some) :
    wantV l T (l.getD i noR).out = actOf (l.getD i noR).kind (l.getD i noR).word ins := by
  rw [want_ready h ho ha hi hiP hd]
  have e : ((l.getD i noR).ins.map fun s => inT (inP l P T st s)) = ins.map fun b => ((0, b) : Told) := by
    have h2 := congrArg (List.map inT) hins
    rw [List.map_map, List.map_map] at h2
    exact h2
  rw [e, toldOf_good (fun x hx => by obtain ⟨b, -, rfl⟩ := List.mem_map.1 hx; rfl), List.map_map]
  congr 1
  simp [Function.comp_def]
theorem want_gone {l : List RuleL} {P : List Nat} {T : Look} {st : Nat → St} {o : List Nat} (h : PartOk l P) (ho : Outs (edgesB l) (fun k => P.contains k) l.length o) (ha : ∀ k ∈ P, k ∈ o) (hi : BInv l P T st) {i : Nat} (hiP : i ∈ P) (hd : ∀ k ∈ edgesB l i, (st k).state = 2) (hg : ∃ s ∈ (l.getD i noR).ins, inP l P T st s = none) :
    wantV l T (l.getD i noR).out = (6, []) := by
  rw [want_ready h ho ha hi hiP hd]
  obtain ⟨s, hs, hn⟩ := hg
  unfold toldOf
  split
  · rename_i x hx
    have h1 := List.find?_some hx
    obtain ⟨t, ht, rfl⟩ := List.mem_map.1 (List.mem_of_find?_eq_some hx)
    cases hq : inP l P T st t with
    | some b => rw [hq] at h1; simp [inT] at h1
    | none => rfl
  · rename_i hx
    have := List.find?_eq_none.1 hx (6, []) (List.mem_map.2 ⟨s, hs, by simp only [hn, inT]⟩)
    simp at this
theorem GoRel.inv {l : List RuleL} {P : List Nat} {T : Look} {c c' : Option CS} {st st' : Nat → St} {i : Nat} {hit : Bool} {o : List Nat} (hg : GoRel l P T c st i hit c' st') (h : PartOk l P) (ho : Outs (edgesB l) (fun k => P.contains k) l.length o) (ha : ∀ k ∈ P, k ∈ o) (hi : BInv l P T st) (hiP : i ∈ P) (hr : ReadyP l st i) (hc : ∀ c0, c = some c0 → CInv c0) : BInv l P T st' := by
  cases hg with
  | gone h1 h2 => exact hi.set_fail hiP hr h2 (by decide) (by rw [want_gone h ho ha hi hiP hr.2 h1])
  | hit h1 h2 => exact hi.set_done h hiP hr true (by rw [want_ins h ho ha hi hiP hr.2 h1]; exact hc _ rfl _ _ _ _ h2)
  | run h1 h2 h3 => exact hi.set_done h hiP hr false (by rw [want_ins h ho ha hi hiP hr.2 h1]; exact h3)
  | bad h1 h2 h3 h4 => exact hi.set_fail hiP hr h4 (by omega) (by rw [want_ins h ho ha hi hiP hr.2 h1, h3])
theorem GoRel.less {l : List RuleL} {P : List Nat} {T : Look} {c c' : Option CS} {st st' : Nat → St} {i : Nat} {hit : Bool} (hg : GoRel l P T c st i hit c' st') : (st' i).state ≠ 1 ∧ ∀ j ∈ P, (st' j).state = 1 → (st j).state = 1 := by
  have hfail : ∀ {a b : Nat → St} {e : Nat}, FailPost l P a b i e → (b i).state ≠ 1 ∧ ∀ j ∈ P, (b j).state = 1 → (a j).state = 1 := by
    intro a b e hf
    refine ⟨by rw [hf.at_]; exact Nat.succ_succ_ne_one 1, fun j hj hs => ?_⟩
    by_cases hji : j = i
    · subst hji; rw [hf.at_] at hs; cases hs
    · rcases hf.rest j hj hji with h1 | ⟨h1, -⟩
      · rw [← h1]; exact hs
      · exact h1
  have hset : ∀ {a : Nat → St} (s : St), s.state = 2 → (setSt a i s i).state ≠ 1 ∧ ∀ j ∈ P, (setSt a i s j).state = 1 → (a j).state = 1 := by
    intro a s h2
    refine ⟨by rw [setSt_at, h2]; decide, fun j hj hs => ?_⟩
    by_cases hji : j = i
    · subst hji; rw [setSt_at, h2] at hs; cases hs
    · rw [setSt_ne _ hji] at hs; exact hs
  cases hg with
  | gone h1 h2 => exact hfail h2
  | hit h1 h2 => exact hset _ rfl
  | run h1 h2 h3 => exact hset _ rfl
  | bad h1 h2 h3 h4 => exact hfail h4
structure CSt (c : CS) : Prop where
  nd : (c.mp.map Prod.fst).Nodup
  mem : ∀ x, x ∈ c.mp.map Prod.fst ↔ x ∈ c.ks
  ndk : c.ks.Nodup
  le : c.ks.length ≤ c.many
  one : 1 ≤ c.many
  lim : c.many ≤ 100
theorem CSt.zero {many : Nat} (h1 : 1 ≤ many) (h2 : many ≤ 100) : CSt ⟨many, [], []⟩ := ⟨List.nodup_nil, fun x => Iff.rfl, List.nodup_nil, by simp, h1, h2⟩
theorem look_key {α : Type} {x : List UInt8} {m : List (List UInt8 × α)} : (mlook x m).isSome = true ↔ x ∈ m.map Prod.fst := by
  constructor
  · intro h
    refine Classical.byContradiction (fun hn => ?_)
    rw [mlook_none.2 hn] at h
    cases h
  · intro h
    cases hx : mlook x m with
    | none => exact absurd h (mlook_none.1 hx)
    | some v => rfl
theorem rot_mem {x y : List UInt8} {K : List (List UInt8)} : y ∈ without x K ++ [x] ↔ y ∈ K ∨ y = x := by
  rw [List.mem_append, List.mem_singleton, mem_without]
  by_cases h : y = x
  · simp [h]
  · simp [h]
theorem rot_nodup {x : List UInt8} {K : List (List UInt8)} (h : K.Nodup) : (without x K ++ [x]).Nodup := by
  rw [List.nodup_append]
  exact ⟨h.sublist List.filter_sublist, by simp, fun a ha c hc => by simp at hc; subst hc; exact (mem_without.1 ha).2⟩
theorem CSt.get {c : CS} (h : CSt c) (x : List UInt8) : CSt (cGet c x) := by
  unfold cGet
  by_cases hx : (mlook x c.mp).isSome = true
  · have hK : x ∈ c.ks := (h.mem x).1 (look_key.1 hx)
    simp only [hx, if_true]
    refine ⟨h.nd, fun y => ?_, rot_nodup h.ndk, ?_, h.one, h.lim⟩
    · rw [h.mem, rot_mem]
      exact ⟨Or.inl, fun h' => h'.elim id (fun e => e ▸ hK)⟩
    · have := without_lt hK
      have := h.le
      simp only [List.length_append, List.length_singleton]
      omega
  · simp only [hx]
    exact h
theorem tail_mem {a : List UInt8} {l : List (List UInt8)} {y : List UInt8} (hd : (a :: l).Nodup) : y ∈ l ↔ y ∈ a :: l ∧ y ≠ a := by
  rw [List.mem_cons]
  constructor
  · intro hy
    exact ⟨Or.inr hy, fun e => (List.nodup_cons.1 hd).1 (e ▸ hy)⟩
  · rintro ⟨h1 | h1, h2⟩
    · exact absurd h1 h2
    · exact h1
theorem CSt.put {c : CS} (h : CSt c) (x v : List UInt8) : CSt (cPut c x v) := by
  have hnu : ((mupd x v c.mp).map Prod.fst).Nodup := by
    rw [mkeys_upd]
    split
    · exact h.nd
    · rename_i hx
      rw [List.nodup_append]
      exact ⟨h.nd, by simp, fun a ha b hb => by simp at hb; subst hb; exact fun e => hx (e ▸ ha)⟩
  have hmu : ∀ y, y ∈ (mupd x v c.mp).map Prod.fst ↔ y ∈ without x c.ks ++ [x] := by
    intro y
    rw [mkeys_upd, rot_mem]
    split
    · rename_i hx
      rw [h.mem]
      exact ⟨Or.inl, fun h' => h'.elim id (fun e => e ▸ (h.mem x).1 hx)⟩
    · rw [List.mem_append, List.mem_singleton, h.mem]
  have hndr := rot_nodup (x := x) h.ndk
  have hlr : (without x c.ks ++ [x]).length ≤ c.ks.length + 1 := by
    unfold without
    have := List.length_filter_le (fun y => decide (y ≠ x)) c.ks
    simp only [List.length_append, List.length_singleton]
    have h2 := List.length_filter_le (fun s => !(s == x)) c.ks
    first | omega | (simp at *; omega)
  unfold cPut putKeys putMapL
  generalize without x c.ks ++ [x] = K at *
  by_cases hlt : c.many < K.length
  · simp only [hlt, if_true]
    cases K with
    | nil => simp at hlt
    | cons a K =>
      simp only [List.tail_cons, List.headD_cons, List.length_cons] at *
      refine ⟨?_, fun y => ?_, (List.nodup_cons.1 hndr).2, ?_, h.one, h.lim⟩
      · simp only
        rw [mkeys_del _ _ hnu]
        exact hnu.sublist List.filter_sublist
      · simp only
        rw [mkeys_del _ _ hnu, List.mem_filter, hmu, decide_eq_true_eq, tail_mem hndr]
      · have := h.le
        simp only
        omega
  · simp only [hlt, if_false]
    exact ⟨hnu, hmu, hndr, by simp only; omega, h.one, h.lim⟩
theorem look_put {c : CS} (h : CSt c) (x v y : List UInt8) {b : List UInt8} (hb : mlook y (cPut c x v).mp = some b) : (y = x ∧ b = v) ∨ mlook y c.mp = some b := by
  have hnu : ((mupd x v c.mp).map Prod.fst).Nodup := by
    rw [mkeys_upd]
    split
    · exact h.nd
    · rename_i hx
      rw [List.nodup_append]
      exact ⟨h.nd, by simp, fun a ha b hb => by simp at hb; subst hb; exact fun e => hx (e ▸ ha)⟩
  have hu : mlook y (mupd x v c.mp) = some b := by
    unfold cPut putMapL at hb
    simp only at hb
    split at hb
    · rw [mlook_del _ _ _ hnu] at hb
      split at hb
      · cases hb
      · exact hb
    · exact hb
  rw [mlook_upd] at hu
  split at hu
  · rename_i e
    exact Or.inl ⟨e.symm, (Option.some.inj hu).symm⟩
  · exact Or.inr hu
theorem CInv.get {c : CS} (h : CInv c) (x : List UInt8) : CInv (cGet c x) := h
theorem CInv.put {c : CS} (h : CInv c) (hs : CSt c) {k w : List UInt8} {ins : List (List UInt8)} {b : List UInt8} (hb : actOf k w ins = (0, b)) : CInv (cPut c (keyL k w ins) b) := by
  intro k' w' ins' b' hl
  rcases look_put hs _ _ _ hl with ⟨e, rfl⟩ | h2
  · obtain ⟨rfl, rfl, rfl⟩ := keyL_inj.1 e
    exact hb
  · exact h _ _ _ _ h2
theorem CInv.zero (many : Nat) : CInv ⟨many, [], []⟩ := fun k w ins b h => by simp [mlook] at h
def COk (c : Option CS) : Prop := ∀ c0, c = some c0 → CSt c0 ∧ CInv c0
theorem GoRel.cok {l : List RuleL} {P : List Nat} {T : Look} {c c' : Option CS} {st st' : Nat → St} {i : Nat} {hit : Bool} (hg : GoRel l P T c st i hit c' st') (h : COk c) : COk c' := by
  cases hg with
  | gone h1 h2 => exact h
  | hit h1 h2 =>
    intro c0 e
    obtain rfl := Option.some.inj e
    exact ⟨(h _ rfl).1.get _, (h _ rfl).2.get _⟩
  | run h1 h2 h3 =>
    intro c0 e
    obtain ⟨c1, rfl, rfl⟩ := Option.map_eq_some_iff.1 e
    exact ⟨(h _ rfl).1.put _ _, (h _ rfl).2.put (h _ rfl).1 h3⟩
  | bad h1 h2 h3 h4 => exact h
theorem GoRel.some_ {l : List RuleL} {P : List Nat} {T : Look} {c c' : Option CS} {st st' : Nat → St} {i : Nat} {hit : Bool} (hg : GoRel l P T c st i hit c' st') : c'.isSome = c.isSome := by
  cases hg <;> simp
inductive RunRel (l : List RuleL) (P : List Nat) (T : Look) : Option CS → (Nat → St) → Int → Bool → Nat → Option CS → (Nat → St) → Prop
  | none {c : Option CS} {st : Nat → St} {i : Int} : (∀ (k : Nat), k ∈ P → i ≠ (k : Int)) → RunRel l P T c st i false 6 c st
  | done {c : Option CS} {st : Nat → St} {k : Nat} : k ∈ P → (st k).state ≠ 1 → RunRel l P T c st k false 12 c st
  | turn {c : Option CS} {st : Nat → St} {k : Nat} : k ∈ P → (st k).state = 1 → ¬ ReadyP l st k → RunRel l P T c st k false 11 c st
  | go {c c' : Option CS} {st st' : Nat → St} {k : Nat} {hit : Bool} : k ∈ P → ReadyP l st k → GoRel l P T c st k hit c' st' → RunRel l P T c st k hit 0 c' st'
inductive Steps (l : List RuleL) (P : List Nat) (T : Look) : Option CS → (Nat → St) → Option CS → (Nat → St) → Prop
  | refl {c : Option CS} {st : Nat → St} : Steps l P T c st c st
  | go {c c1 c' : Option CS} {st st1 st' : Nat → St} {k : Nat} {hit : Bool} : Steps l P T c st c1 st1 → k ∈ P → ReadyP l st1 k → GoRel l P T c1 st1 k hit c' st' → Steps l P T c st c' st'
theorem Steps.trans {l : List RuleL} {P : List Nat} {T : Look} {c c1 c' : Option CS} {st st1 st' : Nat → St} (h : Steps l P T c st c1 st1) (h2 : Steps l P T c1 st1 c' st') : Steps l P T c st c' st' := by
  induction h2 with
  | refl => exact h
  | go _ h3 h4 h5 ih => exact .go (ih h) h3 h4 h5
theorem RunRel.steps {l : List RuleL} {P : List Nat} {T : Look} {c c' : Option CS} {st st' : Nat → St} {i : Int} {hit : Bool} {code : Nat} (h : RunRel l P T c st i hit code c' st') : Steps l P T c st c' st' := by
  cases h with
  | none _ => exact .refl
  | done _ _ => exact .refl
  | turn _ _ _ => exact .refl
  | go h1 h2 h3 => exact .go .refl h1 h2 h3
inductive AllRel (l : List RuleL) (P : List Nat) (T : Look) : Option CS → (Nat → St) → List Nat → Option CS → (Nat → St) → Prop
  | stop {c : Option CS} {st : Nat → St} : readyL l P st = [] → AllRel l P T c st [] c st
  | more {c c1 c' : Option CS} {st st1 st' : Nat → St} {k : Nat} {r ks : List Nat} {hit : Bool} : readyL l P st = k :: r → GoRel l P T c st k hit c1 st1 → AllRel l P T c1 st1 ks c' st' → AllRel l P T c st (k :: ks) c' st'
theorem ready_head {l : List RuleL} {P : List Nat} {st : Nat → St} {k : Nat} {r : List Nat} (h : readyL l P st = k :: r) : k ∈ P ∧ ReadyP l st k := by
  have hm : k ∈ readyL l P st := by rw [h]; exact List.mem_cons_self
  obtain ⟨h1, h2⟩ := List.mem_filter.1 hm
  exact ⟨h1, readyB_iff.1 h2⟩
theorem AllRel.steps {l : List RuleL} {P : List Nat} {T : Look} {c c' : Option CS} {st st' : Nat → St} {ks : List Nat} (h : AllRel l P T c st ks c' st') : Steps l P T c st c' st' ∧ readyL l P st' = [] := by
  induction h with
  | stop h => exact ⟨.refl, h⟩
  | more h1 h2 h3 ih =>
    obtain ⟨hk, hr⟩ := ready_head h1
    exact ⟨(Steps.go .refl hk hr h2).trans ih.1, ih.2⟩
structure Ord (l : List RuleL) (P : List Nat) (o : List Nat) : Prop where
  ok : PartOk l P
  outs : Outs (edgesB l) (fun k => P.contains k) l.length o
  all : ∀ k ∈ P, k ∈ o
theorem Steps.inv {l : List RuleL} {P : List Nat} {T : Look} {c c' : Option CS} {st st' : Nat → St} {o : List Nat} (h : Steps l P T c st c' st') (ho : Ord l P o) (hi : BInv l P T st) (hc : COk c) : BInv l P T st' ∧ COk c' ∧ c'.isSome = c.isSome := by
  induction h with
  | refl => exact ⟨hi, hc, rfl⟩
  | go h1 h2 h3 h4 ih =>
    obtain ⟨ih1, ih2, ih3⟩ := ih hi
    exact ⟨h4.inv ho.ok ho.outs ho.all ih1 h2 h3 (fun c0 e => (ih2 c0 e).2), h4.cok ih2, by rw [h4.some_, ih3]⟩
def insW (l : List RuleL) (T : Look) (i : Nat) : List (List UInt8) := (l.getD i noR).ins.map fun s => (wantV l T s).2
theorem ins_same {l : List RuleL} {P : List Nat} {T : Look} {st : Nat → St} (h : PartOk l P) (hi : BInv l P T st) {i : Nat} (hiP : i ∈ P) (hd : ∀ k ∈ edgesB l i, (st k).state = 2) {ins : List (List UInt8)} (hins : (l.getD i noR).ins.map (inP l P T st) = ins.map some) : ins = insW l T i := by
  have hil := h.lt i hiP
  have key : (insW l T i).map some = (l.getD i noR).ins.map (inP l P T st) := by
    unfold insW
    rw [List.map_map]
    refine List.map_congr_left (fun s hs => ?_)
    have hsome : (inP l P T st s).isSome = true := by
      have hm : inP l P T st s ∈ ins.map some := by rw [← hins]; exact List.mem_map.2 ⟨s, hs, rfl⟩
      obtain ⟨b, -, e⟩ := List.mem_map.1 hm
      rw [← e]
      rfl
    rw [getD_at hil] at hs
    rcases out_cases l s with ⟨j, hj, rfl⟩ | hno
    · have hje : j ∈ edgesB l i := (mem_edges hil).2 ⟨hj, hs⟩
      have hjP := h.shut i hiP j hje
      have h1 := inP_made (T := T) (st := st) h hjP
      have h2 := (hi.done j hjP (hd j hje)).2.1
      rw [getD_at hj] at h1 h2
      rw [h1]
      simp only [Function.comp_apply, h2]
    · have hf : inP l P T st s = T s := inP_file (fun k hk e => hno (by
        rw [getD_at (h.lt k hk)] at e
        exact List.mem_map.2 ⟨_, List.getElem_mem (h.lt k hk), e⟩))
      rw [hf] at hsome ⊢
      simp only [Function.comp_apply, wantV_leaf hno]
      unfold leafT
      cases hT : T s with
      | none => rw [hT] at hsome; cases hsome
      | some b => rfl
  have := hins.symm.trans key.symm
  exact (List.map_inj_right (fun a b e => Option.some.inj e)).1 this
end Go.Proofs.YtgjialbmlhbngaaGreatDoor
