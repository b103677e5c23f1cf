/-
  YardFresh, in plain Lean: what Make of all leaves in the out tree. A cache that has been in use: what a build puts or finds stays, where there is room for the build alone. One rule, made in a yard: in plain Lean. The laws' yarded: a yard makes a file. YardFresh, in plain Lean: trees that hold one thing have one text; a tree can be copied. A path does not end in a slash; what the law YardFresh asks of outs is that they are level. Make of all, in a yard whose rules are right and have an order: it makes, and leaves the out tree fresh. The walk of the law YardFresh. (A draft: the statement only.)
-/
import Derived.Test.YtgjialbmlhbngaaGreatDoorYdB
import Derived.Test.YtgjialbmlhbngaaGreatDoorBdE
import Derived.Test.YtgjialbmlhbngaaGreatDoorBdQ
import Derived.Test.YtgjialbmlhbngaaGreatDoorRbJ
import Derived.Test.YtgjialbmlhbngaaGreatDoorPkP
import Derived.Test.YtgjialbmlhbngaaGreatDoorPkA
import Derived.Test.YtgjialbmlhbngaaGreatDoorBdF
import Derived.Test.YtgjialbmlhbngaaGreatDoorRbE
import Derived.Test.YtgjialbmlhbngaaGreatDoorPkI
import Derived.Test.YtgjialbmlhbngaaGreatDoorPkQ
import Derived.Deep.RegionHeld3

namespace Go.Proofs.YtgjialbmlhbngaaGreatDoor
open Go Go.RowKit Go.Kf Go.Sort Go.Proofs

/-- No out is a directory of another. -/
def Level (l : List RuleL) : Prop := ∀ i k, i < l.length → k < l.length → aboveB (l.getD i noR).out (l.getD k noR).out = false
/-- The out tree holds outs alone, each once. -/
structure OutsIn (l : List RuleL) (mo : List Ent) : Prop where
  nd : (mo.map Prod.fst).Nodup
  sub : ∀ p ∈ mo.map Prod.fst, ∃ i, i < l.length ∧ (l.getD i noR).out = p
theorem OutsIn.nil (l : List RuleL) : OutsIn l [] := ⟨List.nodup_nil, fun p h => by cases h⟩
theorem nodup_subL {α : Type} [DecidableEq α] : ∀ (a b : List α), a.Nodup → (∀ x ∈ a, x ∈ b) → a.length ≤ b.length
  | [], _, _, _ => Nat.zero_le _
  | x :: a, b, hn, hs => by
    rw [List.nodup_cons] at hn
    have hx : x ∈ b := hs x List.mem_cons_self
    have h1 := nodup_subL a (b.erase x) hn.2 (fun y hy => (List.mem_erase_of_ne (fun e : y = x => hn.1 (e ▸ hy))).2 (hs y (List.mem_cons_of_mem _ hy)))
    rw [List.length_erase_of_mem hx] at h1
    have := List.length_pos_of_mem hx
    rw [List.length_cons]
    omega
theorem OutsIn.len {l : List RuleL} {mo : List Ent} (h : OutsIn l mo) : mo.length ≤ l.length := by
  have := nodup_subL (mo.map Prod.fst) (l.map RuleL.out) h.nd (fun p hp => by
    obtain ⟨i, hi, rfl⟩ := h.sub p hp
    rw [getD_at hi]
    exact List.mem_map.2 ⟨_, List.getElem_mem hi, rfl⟩)
  rwa [List.length_map, List.length_map] at this
theorem OutsIn.put {l : List RuleL} {mo : List Ent} (h : OutsIn l mo) (hl : l.length ≤ 12) (hr : RightS l) (hA : Level l) {i : Nat} (hi : i < l.length) {b : List UInt8} (hb : b.length ≤ 2000) : putC (l.getD i noR).out b mo = 0 := by
  have hp : isPathB (l.getD i noR).out = true := by
    have := (hr.2.rule hi).1
    rw [getD_at hi]
    unfold ruleErr at this
    cases hx : isPathB l[i].out with
    | true => rfl
    | false => rw [hx] at this; simp at this
  have hc : clash (l.getD i noR).out mo = false := by
    unfold clash
    rw [List.any_eq_false]
    intro y hy
    obtain ⟨k, hk, he⟩ := h.sub y.1 (List.mem_map.2 ⟨y, hy, rfl⟩)
    rw [← he, hA i k hi hk, hA k i hk hi]
    decide
  have hn := h.len
  unfold putC
  rw [if_neg (by rw [hp]; decide), if_neg (by omega), if_neg (by rw [hc]; decide), if_neg (by omega)]
theorem OutsIn.upd {l : List RuleL} {mo : List Ent} (h : OutsIn l mo) {i : Nat} (hi : i < l.length) (b : List UInt8) : OutsIn l (mupd (l.getD i noR).out b mo) := by
  refine ⟨?_, fun p hp => ?_⟩
  · rw [mkeys_upd]
    split
    · exact h.nd
    · rename_i hn
      refine List.nodup_append.2 ⟨h.nd, by simp, fun a ha c hc => ?_⟩
      rw [List.mem_singleton] at hc
      exact fun e => hn (hc ▸ e ▸ ha)
  · rw [mkeys_upd] at hp
    split at hp
    · exact h.sub p hp
    · rcases List.mem_append.1 hp with hp | hp
      · exact h.sub p hp
      · exact ⟨i, hi, (List.mem_singleton.1 hp).symm⟩
theorem OutsIn.del {l : List RuleL} {mo : List Ent} (h : OutsIn l mo) (q : List UInt8) : OutsIn l (mdel q mo) := by
  refine ⟨?_, fun p hp => ?_⟩
  · rw [mkeys_del _ _ h.nd]; exact h.nd.filter _
  · rw [mkeys_del _ _ h.nd] at hp; exact h.sub p (List.mem_filter.1 hp).1
/-- What a tree holds of an out, behind its rule's turn. -/
def outV (s : St) : Option (List UInt8) := if s.state = 2 then some s.out else none
theorem layOne_outs {l : List RuleL} {P : List Nat} {st : Nat → St} {mo : List Ent} (h : OutsIn l mo) (hl : l.length ≤ 12) (hr : RightS l) (hA : Level l) {i : Nat} (hi : i < l.length) (hP : i ∈ P) (hs : 2 ≤ (st i).state ∧ (st i).state ≤ 4) (hb : (st i).out.length ≤ 2000) :
    OutsIn l (layOne l P st mo i) ∧ ∀ p, mlook p (layOne l P st mo i) = if (l.getD i noR).out = p then outV (st i) else mlook p mo := by
  have hc : P.contains i = true := List.contains_iff_mem.2 hP
  have hk : rSt P st i = stName (st i).state := by unfold rSt; rw [if_pos hc]
  have h3 : (st i).state = 2 ∨ (st i).state = 3 ∨ (st i).state = 4 := by omega
  unfold layOne outV
  rcases h3 with e | e | e
  · rw [hk, e, if_pos rfl, if_pos rfl]
    unfold putM
    rw [if_pos (h.put hl hr hA hi hb)]
    exact ⟨h.upd hi _, fun p => mlook_upd _ _ _ _⟩
  · rw [hk, e, if_neg (by decide), if_pos (Or.inl rfl), if_neg (by decide)]
    exact ⟨h.del _, fun p => mlook_del _ _ _ h.nd⟩
  · rw [hk, e, if_neg (by decide), if_pos (Or.inr rfl), if_neg (by decide)]
    exact ⟨h.del _, fun p => mlook_del _ _ _ h.nd⟩
theorem layAll_outs {l : List RuleL} {P : List Nat} {st : Nat → St} (hl : l.length ≤ 12) (hr : RightS l) (hA : Level l) (hs : ∀ i, i < l.length → i ∈ P ∧ (2 ≤ (st i).state ∧ (st i).state ≤ 4) ∧ (st i).out.length ≤ 2000) : ∀ (ord : List Nat) (mo : List Ent), (∀ k ∈ ord, k < l.length) → OutsIn l mo →
    OutsIn l (ord.foldl (layOne l P st) mo) ∧ ∀ i, i < l.length → mlook (l.getD i noR).out (ord.foldl (layOne l P st) mo) = if i ∈ ord then outV (st i) else mlook (l.getD i noR).out mo
  | [], mo, _, h => ⟨h, fun i _ => by rw [if_neg (by simp)]; rfl⟩
  | k :: ord, mo, ho, h => by
    have hk := ho k List.mem_cons_self
    obtain ⟨h1, h2⟩ := layOne_outs h hl hr hA hk (hs k hk).1 (hs k hk).2.1 (hs k hk).2.2
    obtain ⟨h3, h4⟩ := layAll_outs hl hr hA hs ord _ (fun j hj => ho j (List.mem_cons_of_mem _ hj)) h1
    refine ⟨h3, fun i hi => ?_⟩
    rw [List.foldl_cons, h4 i hi, h2]
    by_cases hm : i ∈ ord
    · rw [if_pos hm, if_pos (List.mem_cons_of_mem _ hm)]
    · rw [if_neg hm]
      by_cases he : (l.getD k noR).out = (l.getD i noR).out
      · have : k = i := hr.2.outs hk hi (by rwa [getD_at hk, getD_at hi] at he)
        subst this
        rw [if_pos rfl, if_pos List.mem_cons_self]
      · rw [if_neg he, if_neg (fun hm2 => by
          rcases List.mem_cons.1 hm2 with e | e
          · exact he (by rw [e])
          · exact hm e)]
/-- Behind Make of all, the out tree holds what is wanted, and that alone. -/
structure Fresh (l : List RuleL) (T : Look) (mo : List Ent) : Prop where
  outs : OutsIn l mo
  look : ∀ i, i < l.length → mlook (l.getD i noR).out mo = if (wantV l T (l.getD i noR).out).1 = 0 then some (wantV l T (l.getD i noR).out).2 else none
theorem fresh_made {l : List RuleL} {P o ord : List Nat} {T : Look} {c c' : Option CS} {st : Nat → St} {js : List Nat} {mo : List Ent} (ho : Ord l P o) (hP : ∀ k, k < l.length → k ∈ P) (hT : ∀ p b, T p = some b → b.length ≤ 2000) (hc : COk c)
    (h : AllRel l P T c (fun _ => st0) js c' st) (hord : orderB (edgesB l) (fun _ => true) l.length = some ord) (hl : l.length ≤ 12) (hA : Level l) (hmo : OutsIn l mo) : Fresh l T (ord.foldl (layOne l P st) mo) := by
  obtain ⟨hs, he⟩ := h.steps
  obtain ⟨hi, -, -⟩ := hs.inv ho (BInv.zero _ _ _) hc
  have hw := over_all ho.ok hi he
  have hst := end_states hi hw
  have hfin : ∀ i, i < l.length → outV (st i) = if (wantV l T (l.getD i noR).out).1 = 0 then some (wantV l T (l.getD i noR).out).2 else none := fun i hil => by
    have hf := hi.final ho.ok ho.outs ho.all hw (hP i hil)
    unfold outV
    by_cases e : (st i).state = 2
    · rw [if_pos e, hf.2 e, if_pos rfl]
    · rw [if_neg e, if_neg (fun h => e (hf.1.2 h))]
  have hlen : ∀ i, i < l.length → (st i).out.length ≤ 2000 := fun i hil => by
    have hf := hi.final ho.ok ho.outs ho.all hw (hP i hil)
    have h1 := hst i (hP i hil)
    rcases (show (st i).state = 2 ∨ (st i).state = 3 ∨ (st i).state = 4 by omega) with e | e | e
    · have := (toldOk_want (l := l) hT (l.getD i noR).out).len
      rwa [hf.2 e] at this
    · rw [(hi.fail i (hP i hil) e).2.2.2.2]; simp
    · rw [(hi.left i (hP i hil) e).2.2.1]; simp
  obtain ⟨h1, h2⟩ := order_mem hord
  obtain ⟨h3, h4⟩ := layAll_outs (st := st) hl ho.ok.right hA (fun i hil => ⟨hP i hil, hst i (hP i hil), hlen i hil⟩) ord mo (fun k hk => (h1.lt k hk).1) hmo
  exact ⟨h3, fun i hil => by rw [h4 i hil, if_pos (h2 i hil rfl), hfin i hil]⟩
/-- Nothing is stale. -/
theorem Fresh.stale {l : List RuleL} {T : Look} {mo : List Ent} (h : Fresh l T mo) : staleL l T mo = [] := by
  unfold staleL
  rw [List.filter_eq_nil_iff]
  intro p hp
  obtain ⟨r, hr, rfl⟩ := List.mem_map.1 hp
  obtain ⟨i, hi, rfl⟩ := List.mem_iff_getElem.1 hr
  have := h.look i hi
  rw [getD_at hi] at this
  unfold staleB
  rw [this]
  by_cases e : (wantV l T l[i].out).1 = 0
  · rw [if_pos e, e]; simp
  · rw [if_neg e]
    have : ((wantV l T l[i].out).1 == 0) = false := by simpa using e
    rw [this]
    simp
/-- Two out trees of one kind hold one thing. -/
theorem Fresh.same {l : List RuleL} {T : Look} {a b : List Ent} (ha : Fresh l T a) (hb : Fresh l T b) : ∀ p, mlook p a = mlook p b := fun p => by
  rcases out_cases l p with ⟨i, hi, rfl⟩ | hn
  · have h1 := ha.look i hi
    have h2 := hb.look i hi
    rw [getD_at hi] at h1 h2
    rw [h1, h2]
  · have key : ∀ m : List Ent, OutsIn l m → mlook p m = none := fun m hm => by
      cases hx : mlook p m with
      | none => rfl
      | some v =>
        obtain ⟨i, hi, e⟩ := hm.sub p (look_key.1 (by rw [hx]; rfl))
        exact absurd (List.mem_map.2 ⟨l[i], List.getElem_mem hi, by rw [← e, getD_at hi]⟩) hn
    rw [key a ha.outs, key b hb.outs]
end Go.Proofs.YtgjialbmlhbngaaGreatDoor

namespace Go.Proofs.YtgjialbmlhbngaaGreatDoor
open Go Go.RowKit Go.Kf Go.Sort Go.Proofs

/-- The latest keys are those of a build, and all that it has made is among them. -/
structure Recent (l : List RuleL) (P : List Nat) (T : Look) (c : CS) (st : Nat → St) : Prop where
  room : P.length ≤ c.many
  split : ∃ a b, c.ks = a ++ b ∧ (∀ x ∈ b, ∃ i ∈ P, x = keyW l T i) ∧ ∀ i ∈ P, (st i).state = 2 → keyW l T i ∈ b
theorem Recent.zero {l : List RuleL} {P : List Nat} {T : Look} {c : CS} (h : P.length ≤ c.many) : Recent l P T c (fun _ => st0) :=
  ⟨h, c.ks, [], (List.append_nil _).symm, fun _ hx => absurd hx List.not_mem_nil, fun _ _ hs => absurd (show (1 : Nat) = 2 from hs) (by decide)⟩
theorem Recent.rot {l : List RuleL} {P : List Nat} {T : Look} {c : CS} {st : Nat → St} (h : Recent l P T c st) {i : Nat} (hi : i ∈ P) :
    ∃ a b, without (keyW l T i) c.ks ++ [keyW l T i] = a ++ b ∧ (∀ x ∈ b, ∃ j ∈ P, x = keyW l T j) ∧ keyW l T i ∈ b ∧ ∀ j ∈ P, (st j).state = 2 → keyW l T j ∈ b := by
  obtain ⟨a, b, he, h1, h2⟩ := h.split
  refine ⟨without (keyW l T i) a, without (keyW l T i) b ++ [keyW l T i], ?_, fun x hx => ?_, rot_mem.2 (Or.inr rfl), fun j hj hs => rot_mem.2 (Or.inl (h2 j hj hs))⟩
  · rw [he]
    unfold without
    rw [List.filter_append, List.append_assoc]
  · rcases rot_mem.1 hx with hx | hx
    · exact h1 x hx
    · exact ⟨i, hi, hx⟩
theorem Recent.go {l : List RuleL} {P : List Nat} {T : Look} {c : CS} {c' : Option CS} {st st' : Nat → St} {o : List Nat} {i : Nat} {hit : Bool} (hg : GoRel l P T (some c) st i hit c' st') (ho : Ord l P o) (hi : BInv l P T st) (hs : CSt c) (h : Recent l P T c st) (hiP : i ∈ P) (hr : ReadyP l st i) : ∃ c1, c' = some c1 ∧ Recent l P T c1 st' := by
  have hold : ∀ {b : Nat → St} {e : Nat}, FailPost l P st b i e → ∀ j ∈ P, (b j).state = 2 → (st j).state = 2 := by
    intro b e hf j hj hs2
    by_cases hji : j = i
    · subst hji; rw [hf.at_] at hs2; cases hs2
    · rcases hf.rest j hj hji with h5 | ⟨-, h5, -⟩
      · rw [← h5]; exact hs2
      · rw [h5] at hs2; cases hs2
  have hkeep : ∀ {b : Nat → St} {e : Nat}, FailPost l P st b i e → Recent l P T c b := fun hf => by
    obtain ⟨a, b, he, h1, h2⟩ := h.split
    exact ⟨h.room, a, b, he, h1, fun j hj hs2 => h2 j hj (hold hf j hj hs2)⟩
  obtain ⟨a0, b0, he0, h10, hk0, h20⟩ := h.rot hiP
  have hset : ∀ (s : St) (j : Nat), j ∈ P → (setSt st i s j).state = 2 → keyW l T j ∈ b0 := fun s j hj hs2 => by
    by_cases hji : j = i
    · subst hji; exact hk0
    · rw [setSt_ne _ hji] at hs2; exact h20 j hj hs2
  cases hg with
  | gone a b => exact ⟨c, rfl, hkeep b⟩
  | hit a b =>
    have e := ins_same ho.ok hi hiP hr.2 a
    subst e
    have e2 : keyL (l.getD i noR).kind (l.getD i noR).word (insW l T i) = keyW l T i := rfl
    rw [e2] at b ⊢
    refine ⟨_, rfl, h.room, a0, b0, ?_, h10, hset _⟩
    unfold cGet
    simp only [b, Option.isSome_some, if_true]
    exact he0
  | run a b d =>
    have e := ins_same ho.ok hi hiP hr.2 a
    subst e
    rename_i v0
    have e2 : keyL (l.getD i noR).kind (l.getD i noR).word (insW l T i) = keyW l T i := rfl
    rw [e2]
    have hnd : (a0 ++ b0).Nodup := he0 ▸ rot_nodup hs.ndk
    have hb0 : b0.length ≤ P.length := keys_few h10 (List.nodup_append.1 hnd).2.1
    refine ⟨_, rfl, h.room, ?_⟩
    show ∃ a b, putKeys c.many (keyW l T i) c.ks = a ++ b ∧ _
    unfold putKeys
    rw [he0]
    by_cases hlt : c.many < (a0 ++ b0).length
    · rw [if_pos hlt]
      cases a0 with
      | nil =>
        exfalso
        have := h.room
        rw [List.nil_append] at hlt
        omega
      | cons y a0 => exact ⟨a0, b0, rfl, h10, hset _⟩
    · rw [if_neg hlt]
      exact ⟨a0, b0, rfl, h10, hset _⟩
  | bad a b d f => exact ⟨c, rfl, hkeep f⟩
theorem Recent.steps {l : List RuleL} {P : List Nat} {T : Look} {c c' : Option CS} {st st' : Nat → St} {o : List Nat} (hg : Steps l P T c st c' st') (ho : Ord l P o) : ∀ c0, c = some c0 → BInv l P T st → CSt c0 → CInv c0 → Recent l P T c0 st → ∃ c1, c' = some c1 ∧ Recent l P T c1 st' ∧ CSt c1 ∧ CInv c1 := by
  intro c0 e hi hs hc h
  induction hg with
  | refl => exact ⟨c0, e, h, hs, hc⟩
  | go h1 h2 h3 h4 ih =>
    obtain ⟨c1, rfl, hr1, hs1, hc1⟩ := ih hi h
    have hi1 := (h1.inv ho hi (fun c2 e2 => by rw [e] at e2; cases e2; exact ⟨hs, hc⟩)).1
    obtain ⟨c2, rfl, hr2⟩ := Recent.go h4 ho hi1 hs1 hr1 h2 h3
    have hk := h4.cok (fun c3 e3 => by cases e3; exact ⟨hs1, hc1⟩) c2 rfl
    exact ⟨c2, rfl, hr2, hk.1, hk.2⟩
theorem Recent.full {l : List RuleL} {P : List Nat} {T : Look} {c : CS} {st : Nat → St} {o : List Nat} (h : Recent l P T c st) (ho : Ord l P o) (hs : CSt c) (hi : BInv l P T st) (hw : ∀ i ∈ P, (st i).state ≠ 1) : Full l P T c := by
  obtain ⟨a, b, he, -, h2⟩ := h.split
  refine ⟨fun i hiP hz => ?_⟩
  have hf := hi.final ho.ok ho.outs ho.all hw hiP
  have hk := h2 i hiP (hf.1.2 hz)
  exact look_key.2 ((hs.mem _).2 (by rw [he]; exact List.mem_append_right _ hk))
end Go.Proofs.YtgjialbmlhbngaaGreatDoor

namespace Go.Proofs.YtgjialbmlhbngaaGreatDoor
open Go Go.RowKit Go.Kf Go.Sort Go.Proofs

end Go.Proofs.YtgjialbmlhbngaaGreatDoor

namespace Go.Proofs.YtgjialbmlhbngaaGreatDoor
open Go Go.RowKit Go.Kf Go.Sort Go.Proofs

end Go.Proofs.YtgjialbmlhbngaaGreatDoor

namespace Go.Proofs.YtgjialbmlhbngaaGreatDoor
open Go Go.RowKit Go.Kf Go.Sort Go.Proofs

theorem perm_nodup {α : Type} [DecidableEq α] : ∀ {a b : List α}, a.Nodup → b.Nodup → (∀ x, x ∈ a ↔ x ∈ b) → a.Perm b
  | [], b, _, _, h => by
    cases b with
    | nil => exact List.Perm.refl _
    | cons y b => exact absurd ((h y).2 List.mem_cons_self) List.not_mem_nil
  | x :: a, b, ha, hb, h => by
    have hx : x ∈ b := (h x).1 List.mem_cons_self
    have hp : b.Perm (x :: b.erase x) := List.perm_cons_erase hx
    have hbe := (hp.nodup_iff.1 hb)
    rw [List.nodup_cons] at ha hbe
    refine (List.Perm.cons x (perm_nodup ha.2 hbe.2 (fun y => ?_))).trans hp.symm
    have h1 := h y
    rw [hp.mem_iff, List.mem_cons, List.mem_cons] at h1
    constructor
    · intro hy
      rcases h1.1 (Or.inr hy) with e | e
      · exact absurd (e ▸ hy) ha.1
      · exact e
    · intro hy
      rcases h1.2 (Or.inr hy) with e | e
      · exact absurd (e ▸ hy) hbe.1
      · exact e
theorem above_selfY (p : List UInt8) : aboveB p p = false := by
  rw [Bool.eq_false_iff]
  intro h
  have := List.IsPrefix.length_le (aboveB_iff.1 h)
  simp only [List.length_append, List.length_cons, List.length_nil] at this
  omega
/-- A tree of files as it always is. -/
structure Good (m : List Ent) : Prop where
  nd : (m.map Prod.fst).Nodup
  len : m.length ≤ 60
  path : ∀ p ∈ m.map Prod.fst, isPathB p = true
  byt : ∀ p b, mlook p m = some b → b.length ≤ 2000
  apart : ∀ p ∈ m.map Prod.fst, ∀ q ∈ m.map Prod.fst, aboveB p q = false
theorem Good.nil : Good [] := ⟨List.nodup_nil, Nat.zero_le _, fun p h => absurd h List.not_mem_nil, (fun p b h => by cases h), fun p h => absurd h List.not_mem_nil⟩
theorem Good.put {m : List Ent} (h : Good m) (p b : List UInt8) : Good (putM p b m) := by
  unfold putM
  split
  · rename_i hc
    unfold putC at hc
    split at hc
    · cases hc
    · rename_i h1
      split at hc
      · cases hc
      · rename_i h2
        split at hc
        · cases hc
        · rename_i h3
          split at hc
          · cases hc
          · rename_i h4
            have hp : isPathB p = true := by cases hx : isPathB p with
              | true => rfl
              | false => exact absurd hx h1
            have hcl : ∀ q ∈ m.map Prod.fst, aboveB p q = false ∧ aboveB q p = false := fun q hq => by
              obtain ⟨y, hy, rfl⟩ := List.mem_map.1 hq
              have h5 : clash p m = false := by simpa using h3
              unfold clash at h5
              rw [List.any_eq_false] at h5
              have := h5 y hy
              simpa using this
            have hk : ∀ q, q ∈ (mupd p b m).map Prod.fst → q ∈ m.map Prod.fst ∨ q = p := fun q hq => by
              rw [mkeys_upd] at hq
              split at hq
              · exact Or.inl hq
              · rcases List.mem_append.1 hq with hq | hq
                · exact Or.inl hq
                · exact Or.inr (List.mem_singleton.1 hq)
            refine ⟨?_, ?_, fun q hq => ?_, fun q c hq => ?_, fun q hq r hr => ?_⟩
            · rw [mkeys_upd]
              split
              · exact h.nd
              · rename_i hn
                refine List.nodup_append.2 ⟨h.nd, by simp, fun a ha c hc => ?_⟩
                rw [List.mem_singleton] at hc
                exact fun e => hn (hc ▸ e ▸ ha)
            · have h6 := congrArg List.length (mkeys_upd p b m)
              rw [List.length_map] at h6
              rw [h6]
              split
              · rw [List.length_map]; exact h.len
              · rename_i hn
                rw [List.length_append, List.length_map, List.length_singleton]
                have hl : (mlook p m).isSome = false := by rw [mlook_none.2 hn]; rfl
                have : ¬ 60 ≤ m.length := fun h7 => h4 ⟨hl, h7⟩
                omega
            · rcases hk q hq with e | rfl
              · exact h.path q e
              · exact hp
            · rw [mlook_upd] at hq
              split at hq
              · cases hq; omega
              · exact h.byt q c hq
            · rcases hk q hq with e | rfl <;> rcases hk r hr with f | rfl
              · exact h.apart q e r f
              · exact (hcl q e).2
              · exact (hcl r f).1
              · exact above_selfY _
  · exact h
theorem Good.del {m : List Ent} (h : Good m) (p : List UInt8) : Good (mdel p m) := by
  have hk : ∀ q, q ∈ (mdel p m).map Prod.fst → q ∈ m.map Prod.fst := fun q hq => by
    rw [mkeys_del _ _ h.nd] at hq
    exact (List.mem_filter.1 hq).1
  refine ⟨?_, Nat.le_trans (mdel_lenY m) h.len, fun q hq => h.path q (hk q hq), fun q c hq => ?_, fun q hq r hr => h.apart q (hk q hq) r (hk r hr)⟩
  · rw [mkeys_del _ _ h.nd]; exact h.nd.filter _
  · rw [mlook_del _ _ _ h.nd] at hq
    split at hq
    · cases hq
    · exact h.byt q c hq
end Go.Proofs.YtgjialbmlhbngaaGreatDoor

namespace Go.Proofs.YtgjialbmlhbngaaGreatDoor
open Go Go.RowKit Go.Kf Go.Sort Go.Proofs

end Go.Proofs.YtgjialbmlhbngaaGreatDoor

namespace Go.Proofs.YtgjialbmlhbngaaGreatDoor
open Go Go.RowKit Go.Kf Go.Sort Go.Proofs

theorem find_congrQ {α : Type} {p q : α → Bool} : ∀ (l : List α), (∀ x ∈ l, p x = q x) → l.find? p = l.find? q
  | [], _ => rfl
  | x :: l, h => by
    rw [List.find?_cons, List.find?_cons, h x List.mem_cons_self, find_congrQ l (fun y hy => h y (List.mem_cons_of_mem _ hy))]
theorem orderGo_congr {E : Nat → List Nat} {a b : Nat → Bool} {n : Nat} (h : ∀ i, i < n → a i = b i) : ∀ (f : Nat) (out : List Nat), orderGo E a n f out = orderGo E b n f out
  | 0, _ => rfl
  | f + 1, out => by
    have hn : nextB E a n out = nextB E b n out := find_congrQ _ (fun x hx => by unfold candB; rw [h x (List.mem_range.1 hx)])
    unfold orderGo
    rw [hn]
    cases nextB E b n out with
    | none => rfl
    | some k => exact orderGo_congr h f _
theorem orderB_congr {E : Nat → List Nat} {a b : Nat → Bool} {n : Nat} (h : ∀ i, i < n → a i = b i) : orderB E a n = orderB E b n := by
  have hm : manyB a n = manyB b n := congrArg List.length (List.filter_congr (fun x hx => h x (List.mem_range.1 hx)))
  unfold orderB
  rw [hm, orderGo_congr h]
/-- New of all outs does not fail. -/
theorem new_all {S : Nat → Addr} {l : List RuleL} {m : List Ent} {cv : Value} {B : Nat} {T : TypeId} {x : Value} {w' : World} (h : BNewAns S l (l.map RuleL.out) m cv B (.returned (.tuple #[.pointer none, .iface T x])) w') (hr : RightS l) (ho : ∃ o, orderB (edgesB l) (fun _ => true) l.length = some o) : False := by
  rcases h with ⟨T', x', -, hbad | ⟨-, i, g, hi, -, hno, -⟩ | ⟨-, ks, N, hpl, hN, hnone, -⟩⟩ | ⟨ks, N, o, D, -, -, -, -, he, -⟩
  · exact hbad.wrong hr
  · exact hno (List.getElem_mem hi)
  · obtain ⟨o, ho⟩ := ho
    rw [all_needed hr hpl hN] at hnone
    rw [orderB_congr (fun i hi => List.contains_iff_mem.2 (List.mem_range.2 hi) : ∀ i, i < l.length → (List.range l.length).contains i = (fun _ => true) i), ho] at hnone
    cases hnone
  · exact absurd he (by simp)
theorem range_of {P : List Nat} {n : Nat} (hs : P.Pairwise (· < ·)) (hm : ∀ k, k ∈ P ↔ k < n) : P = List.range n :=
  List.Perm.eq_of_pairwise (le := fun a b => a < b) (fun a b _ _ h1 h2 => absurd h1 (Nat.lt_asymm h2)) hs List.pairwise_lt_range
    (perm_nodup (hs.imp (fun h => Nat.ne_of_lt h)) List.nodup_range (fun k => by rw [hm, List.mem_range]))
theorem spl_lensY : ∀ s : List UInt8, s.length + 1 ≤ ((spl 47 s).map fun t => t.length + 1).sum
  | [] => by simp [spl]
  | b :: s => by
    have ih := spl_lensY s
    unfold spl
    by_cases hb : b = 47
    · rw [if_pos hb]
      simp only [List.map_cons, List.sum_cons, List.length_nil, List.length_cons]
      omega
    · rw [if_neg hb]
      cases hq : spl 47 s with
      | nil => rw [hq] at ih; simp at ih
      | cons x r =>
        rw [hq] at ih
        simp only [List.map_cons, List.sum_cons, List.length_cons] at ih ⊢
        omega
theorem sum_leY {k : Nat} : ∀ l : List Nat, (∀ x ∈ l, x ≤ k) → l.sum ≤ k * l.length
  | [], _ => by simp
  | x :: l, h => by
    have h1 := h x List.mem_cons_self
    have h2 := sum_leY l (fun y hy => h y (List.mem_cons_of_mem _ hy))
    rw [List.sum_cons, List.length_cons, Nat.mul_succ]
    omega
theorem pathLenY {p : List UInt8} (h : isPathB p = true) : p.length ≤ 100 := by
  have hs : (spl 47 p).length ≤ 5 ∧ namesB false (spl 47 p) = true := by
    unfold isPathB partsL at h
    split at h
    · rename_i hc; exact hc
    · cases h
  have h1 := spl_lensY p
  have h2 := sum_leY (k := 13) ((spl 47 p).map fun t => t.length + 1) (fun x hx => by
    obtain ⟨t, ht, rfl⟩ := List.mem_map.1 hx
    have hn := (List.all_eq_true.1 hs.2) t ht
    unfold nameB at hn
    simp only [Bool.and_eq_true, decide_eq_true_eq] at hn
    omega)
  rw [List.length_map] at h2
  have := hs.1
  omega
theorem Good.klen {m : List Ent} (h : Good m) : ∀ x ∈ m, x.1.length ≤ 100 := fun x hx => pathLenY (h.path x.1 (List.mem_map.2 ⟨x, hx, rfl⟩))
/-- The out tree's keys and bytes are short. -/
theorem Fresh.short {l : List RuleL} {T : Look} {mo : List Ent} (h : Fresh l T mo) (hr : RightS l) (hT : ∀ p b, T p = some b → b.length ≤ 2000) : (∀ x ∈ mo, x.1.length ≤ 100) ∧ ∀ p, (mget mo p).length ≤ 2000 := by
  refine ⟨fun x hx => ?_, fun p => ?_⟩
  · obtain ⟨i, hi, he⟩ := h.outs.sub x.1 (List.mem_map.2 ⟨x, hx, rfl⟩)
    rw [← he]
    refine pathLenY ?_
    have := (hr.2.rule hi).1
    rw [getD_at hi]
    unfold ruleErr at this
    cases hx : isPathB l[i].out with
    | true => rfl
    | false => rw [hx] at this; simp at this
  · unfold mget
    cases hk : mlook p mo with
    | none => simp
    | some b =>
      obtain ⟨i, hi, rfl⟩ := h.outs.sub p (look_key.1 (by rw [hk]; rfl))
      rw [h.look i hi] at hk
      split at hk
      · cases hk
        exact (toldOk_want hT _).len
      · cases hk
/-- What Make of all leaves. -/
structure AllMade (B : Nat) (Y : YPl) (vl lv : Value) (R : List RV) (m : List Ent) (c : CS) (w w' : World) (n : Nat → Nat) (o js : List Nat) (c' : CS) (st' : Nat → St) (lv' : Value) (mo' : List Ent) : Prop where
  ord : Ord (R.map Prod.fst) (List.range (R.map Prod.fst).length) o
  rel : AllRel (R.map Prod.fst) (List.range (R.map Prod.fst).length) (fun p => mlook p m) (some c) (fun _ => st0) js (some c') st'
  ran : n 0 = cntP (List.range (R.map Prod.fst).length) st' isRan
  hit : n 1 = cntP (List.range (R.map Prod.fst).length) st' isHit
  failed : n 2 = cntP (List.range (R.map Prod.fst).length) st' isFailed
  left : n 3 = cntP (List.range (R.map Prod.fst).length) st' isLeft
  yard : YAt B Y vl lv' R m mo' c' w'
  fresh : Fresh (R.map Prod.fst) (fun p => mlook p m) mo'
  cok : COk (some c')
  room : (R.map Prod.fst).length ≤ c.many → (R.map Prod.fst).length ≤ c'.many
  low : Fr w.heap.size (fun q => ∃ i, ysec Y lv vl R i q) w w'
theorem make_all {S : Nat → Addr} {B : Nat} {Y : YPl} {vl lv : Value} {R : List RV} {m mo : List Ent} {c : CS} (w0 w : World) (hB : w0.heap.size = B) (h : YAt B Y vl lv R m mo c w) (hcok : COk (some c)) (hV : BEnv S (R.map Prod.fst) m w0) (hlow : Below w0.heap.size w0 w) (hright : RightS (R.map Prod.fst)) (hord : ∃ o, orderB (edgesB (R.map Prod.fst)) (fun _ => true) (R.map Prod.fst).length = some o)
    (h12 : (R.map Prod.fst).length ≤ 12) (hA : Level (R.map Prod.fst)) (hmo : OutsIn (R.map Prod.fst) mo) :
    Calls Tryz.prog 20 #[ptrV Y.yb, .slice none 0 0] w fun e w' => ∃ n o js c' st' lv' mo', e = .returned (.tuple #[countV (n 0 : Nat) (n 1 : Nat) (n 2 : Nat) (n 3 : Nat), .nilIface]) ∧ AllMade B Y vl lv R m c w w' n o js c' st' lv' mo' := by
  have hMo : MoOk mo := ⟨by have := hmo.len; omega, fun y hy => by
    obtain ⟨i, hi, he⟩ := hmo.sub y.1 (List.mem_map.2 ⟨y, hy, rfl⟩)
    rw [← he, getD_at hi]
    exact (hV.short _ (List.getElem_mem hi)).1⟩
  refine (ymake_any (S := S) w0 w hB h hcok hV hlow hright hord hMo [] (.slice none 0 0) ⟨none, 0, rfl, by simp, fun i u h => by cases h⟩ (by simp)).mono ?_
  intro e w' ha
  unfold YMakeAns at ha
  rw [show outsOf (R.map Prod.fst) [] = (R.map Prod.fst).map RuleL.out from rfl] at ha
  generalize hl : R.map Prod.fst = l at *
  rcases ha with ⟨T, x, -, hnew, -⟩ | ⟨P, o, ks, js, ord, c', st', lv', hpl, hN, hO, hall, ho, rfl, hY, hF, -⟩
  · exact (new_all hnew hright hord).elim
  have hP : P = List.range l.length := range_of hO.ok.rise (fun k => ⟨hO.ok.lt k, fun hk => (hN k).2 (.base ((hpl.mem hright.2 hk).2 (List.mem_map.2 ⟨_, List.getElem_mem hk, rfl⟩)))⟩)
  subst hP
  have hT : ∀ p b, mlook p m = some b → b.length ≤ 2000 := hV.files
  have hfr := fresh_made hO (fun k hk => List.mem_range.2 hk) hT hcok hall ho h12 hA hmo
  obtain ⟨hst, -⟩ := hall.steps
  have hk := hst.inv hO (BInv.zero _ _ _) hcok
  refine ⟨fun i => if i = 0 then cntP (List.range l.length) st' isRan else if i = 1 then cntP (List.range l.length) st' isHit else if i = 2 then cntP (List.range l.length) st' isFailed else cntP (List.range l.length) st' isLeft, o, js, c', st', lv', ord.foldl (layOne l (List.range l.length) st') mo, rfl, ?_⟩
  subst hl
  refine ⟨hO, hall, rfl, rfl, rfl, rfl, hY, hfr, hk.2.1, fun hroom => ?_, hF.mono (Nat.le_refl _) (fun q _ hq => ?_)⟩
  · obtain ⟨c1, e1, hr, -⟩ := Recent.steps hst hO c rfl (BInv.zero _ _ _) (hcok c rfl).1 (hcok c rfl).2 (Recent.zero (by rw [List.length_range]; exact hroom))
    cases e1
    have := hr.room
    rwa [List.length_range] at this
  · rcases hq with rfl | hq
    · exact ⟨2, Or.inr rfl⟩
    · exact ⟨3, hq⟩
end Go.Proofs.YtgjialbmlhbngaaGreatDoor

namespace Go.Proofs.YtgjialbmlhbngaaGreatDoor
open Go Go.RowKit Go.Kf Go.Sort Go.Proofs

theorem ownsRow_spot {w : World} {B : Nat} {e : TypeId} {z : Nat} {v : Value} {n : Nat} {xs : List Value} (h : w.ownsRow B e z v n xs) : ∀ ad n c, v = .slice (some ad) n c → ad.spot = none := by
  intro ad k c hv
  rcases h.2 with ⟨h1, -⟩ | ⟨g, cap, cur, h1, -⟩
  · rw [h1] at hv; cases hv
  · rw [h1] at hv; cases hv; rfl
/-- The yard takes rules of its own. -/
theorem yrules_own {S : Nat → Addr} {B B' : Nat} {Y : YPl} {vl lv v : Value} {R R' : List RV} {m mo : List Ent} {c : CS} (w : World) (h : YAt B Y vl lv R m mo c w) (ho : OwnAt B' w v R') (hlow : Y.yb < B') (hm : Ml w) (hE : KErr w S) (hN : NErr w) (ht : Tab w)
    (hb : ∀ x ∈ R', x.1.out.length ≤ 1000000 ∧ x.1.word.length ≤ 100000 ∧ (∀ s ∈ x.1.ins, s.length ≤ 1000000) ∧ x.1.ins.length ≤ 1000) (hn : R'.length ≤ 1000) :
    Calls Tryz.prog 14 #[ptrV Y.yb, v] w (YRulesAns S B Y vl lv R m mo c R' w) :=
  yrules_any w h R' v (fun wl hf => (own_rulesT ⟨_, own_fr ho hf (fun q hq => ⟨(rown_lt ho hq).2, fun e => by have := (rown_lt ho hq).1; omega⟩)⟩).1) (own_rulesT ⟨_, ho⟩).2 (ownsRow_spot ho.1) hm hE hN ht hb hn
/-- What stands between two steps of the law. -/
structure FSt (B : Nat) (w1 : World) (Y : YPl) (vl : Value) (R : List RV) (m mo : List Ent) (c : CS) (lv : Value) (w : World) : Prop where
  yard : YAt B Y vl lv R m mo c w
  good : Good m
  outs : OutsIn (R.map Prod.fst) mo
  cok : COk (some c)
  room : (R.map Prod.fst).length ≤ c.many
  low : Below w1.heap.size w1 w
section
variable {B : Nat} {w1 w w' : World} {Y : YPl} {vl lv : Value} {R : List RV} {m mo : List Ent} {c : CS}
theorem FSt.below (h : FSt B w1 Y vl R m mo c lv w) (hb : Below w.heap.size w w') : FSt B w1 Y vl R m mo c lv w' := ⟨h.yard.below hb, h.good, h.outs, h.cok, h.room, h.low.trans (hb.mono h.low.size)⟩
theorem FSt.drew (h : FSt B w1 Y vl R m mo c lv w) : FSt B w1 Y vl R m mo c lv w.drew := h.below (Below.refl _ _).drew
theorem FSt.tstep (h : FSt w1.heap.size w1 Y vl R m mo c lv w) {m' : List Ent} (hT : TAt w' Y.tb Y.mb m') (hf : Fr w.heap.size (fun k => k = Y.mb) w w') (hg : Good m') : FSt w1.heap.size w1 Y vl R m' mo c lv w' :=
  ⟨h.yard.tstep hT hf, hg, h.outs, h.cok, h.room, h.low.trans ((hf.mono (S' := fun k => k = Y.mb) h.low.size (fun _ _ h => h)).below (fun k hk e => by have := h.yard.low 1 k (Or.inr e); omega))⟩
end
theorem AllMade.fst {vl lv : Value} {w1 w w' : World} {Y : YPl} {R : List RV} {m mo : List Ent} {c : CS} {n : Nat → Nat} {o js : List Nat} {c' : CS} {st' : Nat → St} {lv' : Value} {mo' : List Ent} (h : AllMade w1.heap.size Y vl lv R m c w w' n o js c' st' lv' mo') (hf : FSt w1.heap.size w1 Y vl R m mo c lv w) : FSt w1.heap.size w1 Y vl R m mo' c' lv' w' :=
  ⟨h.yard, hf.good, h.fresh.outs, h.cok, h.room hf.room, hf.low.trans ((h.low.mono hf.low.size (fun _ _ h => h)).below (fun k hk e => by obtain ⟨i, e⟩ := e; have := hf.yard.low i k e; omega))⟩
end Go.Proofs.YtgjialbmlhbngaaGreatDoor
