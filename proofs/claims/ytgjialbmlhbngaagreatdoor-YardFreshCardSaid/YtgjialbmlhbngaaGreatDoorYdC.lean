/-
  YardFresh, in plain Lean: what Make of all leaves in the out tree. A cache that has been in use: what a build puts or finds stays, where there is room for the build alone. One rule, made in a yard: in plain Lean. The laws' yarded: a yard makes a file.
-/
import Derived.Test.YtgjialbmlhbngaaGreatDoorYdB
import Derived.Test.YtgjialbmlhbngaaGreatDoorBdE
import Derived.Test.YtgjialbmlhbngaaGreatDoorBdQ
import Derived.Test.YtgjialbmlhbngaaGreatDoorRbJ

namespace Go.Proofs.YtgjialbmlhbngaaGreatDoor
open Go Go.RowKit Go.Kf Go.Sort Go.Proofs

/-- No out is a directory of another. -/
def Level (l : List RuleL) : Prop := ∀ i k, i < l.length → k < l.length → aboveB (l.getD i noR).out (l.getD k noR).out = false
/-- The out tree holds outs alone, each once. -/
structure OutsIn (l : List RuleL) (mo : List Ent) : Prop where
  nd : (mo.map Prod.fst).Nodup
  sub : ∀ p ∈ mo.map Prod.fst, ∃ i, i < l.length ∧ (l.getD i noR).out = p
theorem OutsIn.nil (l : List RuleL) : OutsIn l [] := ⟨List.nodup_nil, fun p h => by cases h⟩
theorem nodup_subL {α : Type} [DecidableEq α] : ∀ (a b : List α), a.Nodup → (∀ x ∈ a, x ∈ b) → a.length ≤ b.length
  | [], _, _, _ => Nat.zero_le _
  | x :: a, b, hn, hs => by
    rw [List.nodup_cons] at hn
    have hx : x ∈ b := hs x List.mem_cons_self
    have h1 := nodup_subL a (b.erase x) hn.2 (fun y hy => (List.mem_erase_of_ne (fun e : y = x => hn.1 (e ▸ hy))).2 (hs y (List.mem_cons_of_mem _ hy)))
    rw [List.length_erase_of_mem hx] at h1
    have := List.length_pos_of_mem hx
    rw [List.length_cons]
    omega
theorem OutsIn.len {l : List RuleL} {mo : List Ent} (h : OutsIn l mo) : mo.length ≤ l.length := by
  have := nodup_subL (mo.map Prod.fst) (l.map RuleL.out) h.nd (fun p hp => by
    obtain ⟨i, hi, rfl⟩ := h.sub p hp
    rw [getD_at hi]
    exact List.mem_map.2 ⟨_, List.getElem_mem hi, rfl⟩)
  rwa [List.length_map, List.length_map] at this
theorem OutsIn.put {l : List RuleL} {mo : List Ent} (h : OutsIn l mo) (hl : l.length ≤ 12) (hr : RightS l) (hA : Level l) {i : Nat} (hi : i < l.length) {b : List UInt8} (hb : b.length ≤ 2000) : putC (l.getD i noR).out b mo = 0 := by
  have hp : isPathB (l.getD i noR).out = true := by
    have := (hr.2.rule hi).1
    rw [getD_at hi]
    unfold ruleErr at this
    cases hx : isPathB l[i].out with
    | true => rfl
    | false => rw [hx] at this; simp at this
  have hc : clash (l.getD i noR).out mo = false := by
    unfold clash
    rw [List.any_eq_false]
    intro y hy
    obtain ⟨k, hk, he⟩ := h.sub y.1 (List.mem_map.2 ⟨y, hy, rfl⟩)
    rw [← he, hA i k hi hk, hA k i hk hi]
    decide
  have hn := h.len
  unfold putC
  rw [if_neg (by rw [hp]; decide), if_neg (by omega), if_neg (by rw [hc]; decide), if_neg (by omega)]
theorem OutsIn.upd {l : List RuleL} {mo : List Ent} (h : OutsIn l mo) {i : Nat} (hi : i < l.length) (b : List UInt8) : OutsIn l (mupd (l.getD i noR).out b mo) := by
  refine ⟨?_, fun p hp => ?_⟩
  · rw [mkeys_upd]
    split
    · exact h.nd
    · rename_i hn
      refine List.nodup_append.2 ⟨h.nd, by simp, fun a ha c hc => ?_⟩
      rw [List.mem_singleton] at hc
      exact fun e => hn (hc ▸ e ▸ ha)
  · rw [mkeys_upd] at hp
    split at hp
    · exact h.sub p hp
    · rcases List.mem_append.1 hp with hp | hp
      · exact h.sub p hp
      · exact ⟨i, hi, (List.mem_singleton.1 hp).symm⟩
theorem OutsIn.del {l : List RuleL} {mo : List Ent} (h : OutsIn l mo) (q : List UInt8) : OutsIn l (mdel q mo) := by
  refine ⟨?_, fun p hp => ?_⟩
  · rw [mkeys_del _ _ h.nd]; exact h.nd.filter _
  · rw [mkeys_del _ _ h.nd] at hp; exact h.sub p (List.mem_filter.1 hp).1
/-- What a tree holds of an out, behind its rule's turn. -/
def outV (s : St) : Option (List UInt8) := if s.state = 2 then some s.out else none
theorem layOne_outs {l : List RuleL} {P : List Nat} {st : Nat → St} {mo : List Ent} (h : OutsIn l mo) (hl : l.length ≤ 12) (hr : RightS l) (hA : Level l) {i : Nat} (hi : i < l.length) (hP : i ∈ P) (hs : 2 ≤ (st i).state ∧ (st i).state ≤ 4) (hb : (st i).out.length ≤ 2000) :
    OutsIn l (layOne l P st mo i) ∧ ∀ p, mlook p (layOne l P st mo i) = if (l.getD i noR).out = p then outV (st i) else mlook p mo := by
  have hc : P.contains i = true := List.contains_iff_mem.2 hP
  have hk : rSt P st i = stName (st i).state := by unfold rSt; rw [if_pos hc]
  have h3 : (st i).state = 2 ∨ (st i).state = 3 ∨ (st i).state = 4 := by omega
  unfold layOne outV
  rcases h3 with e | e | e
  · rw [hk, e, if_pos rfl, if_pos rfl]
    unfold putM
    rw [if_pos (h.put hl hr hA hi hb)]
    exact ⟨h.upd hi _, fun p => mlook_upd _ _ _ _⟩
  · rw [hk, e, if_neg (by decide), if_pos (Or.inl rfl), if_neg (by decide)]
    exact ⟨h.del _, fun p => mlook_del _ _ _ h.nd⟩
  · rw [hk, e, if_neg (by decide), if_pos (Or.inr rfl), if_neg (by decide)]
    exact ⟨h.del _, fun p => mlook_del _ _ _ h.nd⟩
theorem layAll_outs {l : List RuleL} {P : List Nat} {st : Nat → St} (hl : l.length ≤ 12) (hr : RightS l) (hA : Level l) (hs : ∀ i, i < l.length → i ∈ P ∧ (2 ≤ (st i).state ∧ (st i).state ≤ 4) ∧ (st i).out.length ≤ 2000) : ∀ (ord : List Nat) (mo : List Ent), (∀ k ∈ ord, k < l.length) → OutsIn l mo →
    OutsIn l (ord.foldl (layOne l P st) mo) ∧ ∀ i, i < l.length → mlook (l.getD i noR).out (ord.foldl (layOne l P st) mo) = if i ∈ ord then outV (st i) else mlook (l.getD i noR).out mo
  | [], mo, _, h => ⟨h, fun i _ => by rw [if_neg (by simp)]; rfl⟩
  | k :: ord, mo, ho, h => by
    have hk := ho k List.mem_cons_self
    obtain ⟨h1, h2⟩ := layOne_outs h hl hr hA hk (hs k hk).1 (hs k hk).2.1 (hs k hk).2.2
    obtain ⟨h3, h4⟩ := layAll_outs hl hr hA hs ord _ (fun j hj => ho j (List.mem_cons_of_mem _ hj)) h1
    refine ⟨h3, fun i hi => ?_⟩
    rw [List.foldl_cons, h4 i hi, h2]
    by_cases hm : i ∈ ord
    · rw [if_pos hm, if_pos (List.mem_cons_of_mem _ hm)]
    · rw [if_neg hm]
      by_cases he : (l.getD k noR).out = (l.getD i noR).out
      · have : k = i := hr.2.outs hk hi (by rwa [getD_at hk, getD_at hi] at he)
        subst this
        rw [if_pos rfl, if_pos List.mem_cons_self]
      · rw [if_neg he, if_neg (fun hm2 => by
          rcases List.mem_cons.1 hm2 with e | e
          · exact he (by rw [e])
          · exact hm e)]
/-- Behind Make of all, the out tree holds what is wanted, and that alone. -/
structure Fresh (l : List RuleL) (T : Look) (mo : List Ent) : Prop where
  outs : OutsIn l mo
  look : ∀ i, i < l.length → mlook (l.getD i noR).out mo = if (wantV l T (l.getD i noR).out).1 = 0 then some (wantV l T (l.getD i noR).out).2 else none
theorem fresh_made {l : List RuleL} {P o ord : List Nat} {T : Look} {c c' : Option CS} {st : Nat → St} {js : List Nat} {mo : List Ent} (ho : Ord l P o) (hP : ∀ k, k < l.length → k ∈ P) (hT : ∀ p b, T p = some b → b.length ≤ 2000) (hc : COk c)
    (h : AllRel l P T c (fun _ => st0) js c' st) (hord : orderB (edgesB l) (fun _ => true) l.length = some ord) (hl : l.length ≤ 12) (hA : Level l) (hmo : OutsIn l mo) : Fresh l T (ord.foldl (layOne l P st) mo) := by
  obtain ⟨hs, he⟩ := h.steps
  obtain ⟨hi, -, -⟩ := hs.inv ho (BInv.zero _ _ _) hc
  have hw := over_all ho.ok hi he
  have hst := end_states hi hw
  have hfin : ∀ i, i < l.length → outV (st i) = if (wantV l T (l.getD i noR).out).1 = 0 then some (wantV l T (l.getD i noR).out).2 else none := fun i hil => by
    have hf := hi.final ho.ok ho.outs ho.all hw (hP i hil)
    unfold outV
    by_cases e : (st i).state = 2
    · rw [if_pos e, hf.2 e, if_pos rfl]
    · rw [if_neg e, if_neg (fun h => e (hf.1.2 h))]
  have hlen : ∀ i, i < l.length → (st i).out.length ≤ 2000 := fun i hil => by
    have hf := hi.final ho.ok ho.outs ho.all hw (hP i hil)
    have h1 := hst i (hP i hil)
    rcases (show (st i).state = 2 ∨ (st i).state = 3 ∨ (st i).state = 4 by omega) with e | e | e
    · have := (toldOk_want (l := l) hT (l.getD i noR).out).len
      rwa [hf.2 e] at this
    · rw [(hi.fail i (hP i hil) e).2.2.2.2]; simp
    · rw [(hi.left i (hP i hil) e).2.2.1]; simp
  obtain ⟨h1, h2⟩ := order_mem hord
  obtain ⟨h3, h4⟩ := layAll_outs (st := st) hl ho.ok.right hA (fun i hil => ⟨hP i hil, hst i (hP i hil), hlen i hil⟩) ord mo (fun k hk => (h1.lt k hk).1) hmo
  exact ⟨h3, fun i hil => by rw [h4 i hil, if_pos (h2 i hil rfl), hfin i hil]⟩
/-- Nothing is stale. -/
theorem Fresh.stale {l : List RuleL} {T : Look} {mo : List Ent} (h : Fresh l T mo) : staleL l T mo = [] := by
  unfold staleL
  rw [List.filter_eq_nil_iff]
  intro p hp
  obtain ⟨r, hr, rfl⟩ := List.mem_map.1 hp
  obtain ⟨i, hi, rfl⟩ := List.mem_iff_getElem.1 hr
  have := h.look i hi
  rw [getD_at hi] at this
  unfold staleB
  rw [this]
  by_cases e : (wantV l T l[i].out).1 = 0
  · rw [if_pos e, e]; simp
  · rw [if_neg e]
    have : ((wantV l T l[i].out).1 == 0) = false := by simpa using e
    rw [this]
    simp
/-- Two out trees of one kind hold one thing. -/
theorem Fresh.same {l : List RuleL} {T : Look} {a b : List Ent} (ha : Fresh l T a) (hb : Fresh l T b) : ∀ p, mlook p a = mlook p b := fun p => by
  rcases out_cases l p with ⟨i, hi, rfl⟩ | hn
  · have h1 := ha.look i hi
    have h2 := hb.look i hi
    rw [getD_at hi] at h1 h2
    rw [h1, h2]
  · have key : ∀ m : List Ent, OutsIn l m → mlook p m = none := fun m hm => by
      cases hx : mlook p m with
      | none => rfl
      | some v =>
        obtain ⟨i, hi, e⟩ := hm.sub p (look_key.1 (by rw [hx]; rfl))
        exact absurd (List.mem_map.2 ⟨l[i], List.getElem_mem hi, by rw [← e, getD_at hi]⟩) hn
    rw [key a ha.outs, key b hb.outs]
end Go.Proofs.YtgjialbmlhbngaaGreatDoor

namespace Go.Proofs.YtgjialbmlhbngaaGreatDoor
open Go Go.RowKit Go.Kf Go.Sort Go.Proofs

/-- The latest keys are those of a build, and all that it has made is among them. -/
structure Recent (l : List RuleL) (P : List Nat) (T : Look) (c : CS) (st : Nat → St) : Prop where
  room : P.length ≤ c.many
  split : ∃ a b, c.ks = a ++ b ∧ (∀ x ∈ b, ∃ i ∈ P, x = keyW l T i) ∧ ∀ i ∈ P, (st i).state = 2 → keyW l T i ∈ b
theorem Recent.zero {l : List RuleL} {P : List Nat} {T : Look} {c : CS} (h : P.length ≤ c.many) : Recent l P T c (fun _ => st0) :=
  ⟨h, c.ks, [], (List.append_nil _).symm, fun _ hx => absurd hx List.not_mem_nil, fun _ _ hs => absurd (show (1 : Nat) = 2 from hs) (by decide)⟩
theorem Recent.rot {l : List RuleL} {P : List Nat} {T : Look} {c : CS} {st : Nat → St} (h : Recent l P T c st) {i : Nat} (hi : i ∈ P) :
    ∃ a b, without (keyW l T i) c.ks ++ [keyW l T i] = a ++ b ∧ (∀ x ∈ b, ∃ j ∈ P, x = keyW l T j) ∧ keyW l T i ∈ b ∧ ∀ j ∈ P, (st j).state = 2 → keyW l T j ∈ b := by
  obtain ⟨a, b, he, h1, h2⟩ := h.split
  refine ⟨without (keyW l T i) a, without (keyW l T i) b ++ [keyW l T i], ?_, fun x hx => ?_, rot_mem.2 (Or.inr rfl), fun j hj hs => rot_mem.2 (Or.inl (h2 j hj hs))⟩
  · rw [he]
    unfold without
    rw [List.filter_append, List.append_assoc]
  · rcases rot_mem.1 hx with hx | hx
    · exact h1 x hx
    · exact ⟨i, hi, hx⟩
theorem Recent.go {l : List RuleL} {P : List Nat} {T : Look} {c : CS} {c' : Option CS} {st st' : Nat → St} {o : List Nat} {i : Nat} {hit : Bool} (hg : GoRel l P T (some c) st i hit c' st') (ho : Ord l P o) (hi : BInv l P T st) (hs : CSt c) (h : Recent l P T c st) (hiP : i ∈ P) (hr : ReadyP l st i) : ∃ c1, c' = some c1 ∧ Recent l P T c1 st' := by
  have hold : ∀ {b : Nat → St} {e : Nat}, FailPost l P st b i e → ∀ j ∈ P, (b j).state = 2 → (st j).state = 2 := by
    intro b e hf j hj hs2
    by_cases hji : j = i
    · subst hji; rw [hf.at_] at hs2; cases hs2
    · rcases hf.rest j hj hji with h5 | ⟨-, h5, -⟩
      · rw [← h5]; exact hs2
      · rw [h5] at hs2; cases hs2
  have hkeep : ∀ {b : Nat → St} {e : Nat}, FailPost l P st b i e → Recent l P T c b := fun hf => by
    obtain ⟨a, b, he, h1, h2⟩ := h.split
    exact ⟨h.room, a, b, he, h1, fun j hj hs2 => h2 j hj (hold hf j hj hs2)⟩
  obtain ⟨a0, b0, he0, h10, hk0, h20⟩ := h.rot hiP
  have hset : ∀ (s : St) (j : Nat), j ∈ P → (setSt st i s j).state = 2 → keyW l T j ∈ b0 := fun s j hj hs2 => by
    by_cases hji : j = i
    · subst hji; exact hk0
    · rw [setSt_ne _ hji] at hs2; exact h20 j hj hs2
  cases hg with
  | gone a b => exact ⟨c, rfl, hkeep b⟩
  | hit a b =>
    have e := ins_same ho.ok hi hiP hr.2 a
    subst e
    have e2 : keyL (l.getD i noR).kind (l.getD i noR).word (insW l T i) = keyW l T i := rfl
    rw [e2] at b ⊢
    refine ⟨_, rfl, h.room, a0, b0, ?_, h10, hset _⟩
    unfold cGet
    simp only [b, Option.isSome_some, if_true]
    exact he0
  | run a b d =>
    have e := ins_same ho.ok hi hiP hr.2 a
    subst e
    rename_i v0
    have e2 : keyL (l.getD i noR).kind (l.getD i noR).word (insW l T i) = keyW l T i := rfl
    rw [e2]
    have hnd : (a0 ++ b0).Nodup := he0 ▸ rot_nodup hs.ndk
    have hb0 : b0.length ≤ P.length := keys_few h10 (List.nodup_append.1 hnd).2.1
    refine ⟨_, rfl, h.room, ?_⟩
    show ∃ a b, putKeys c.many (keyW l T i) c.ks = a ++ b ∧ _
    unfold putKeys
    rw [he0]
    by_cases hlt : c.many < (a0 ++ b0).length
    · rw [if_pos hlt]
      cases a0 with
      | nil =>
        exfalso
        have := h.room
        rw [List.nil_append] at hlt
        omega
      | cons y a0 => exact ⟨a0, b0, rfl, h10, hset _⟩
    · rw [if_neg hlt]
      exact ⟨a0, b0, rfl, h10, hset _⟩
  | bad a b d f => exact ⟨c, rfl, hkeep f⟩
theorem Recent.steps {l : List RuleL} {P : List Nat} {T : Look} {c c' : Option CS} {st st' : Nat → St} {o : List Nat} (hg : Steps l P T c st c' st') (ho : Ord l P o) : ∀ c0, c = some c0 → BInv l P T st → CSt c0 → CInv c0 → Recent l P T c0 st → ∃ c1, c' = some c1 ∧ Recent l P T c1 st' ∧ CSt c1 ∧ CInv c1 := by
  intro c0 e hi hs hc h
  induction hg with
  | refl => exact ⟨c0, e, h, hs, hc⟩
  | go h1 h2 h3 h4 ih =>
    obtain ⟨c1, rfl, hr1, hs1, hc1⟩ := ih hi h
    have hi1 := (h1.inv ho hi (fun c2 e2 => by rw [e] at e2; cases e2; exact ⟨hs, hc⟩)).1
    obtain ⟨c2, rfl, hr2⟩ := Recent.go h4 ho hi1 hs1 hr1 h2 h3
    have hk := h4.cok (fun c3 e3 => by cases e3; exact ⟨hs1, hc1⟩) c2 rfl
    exact ⟨c2, rfl, hr2, hk.1, hk.2⟩
theorem Recent.full {l : List RuleL} {P : List Nat} {T : Look} {c : CS} {st : Nat → St} {o : List Nat} (h : Recent l P T c st) (ho : Ord l P o) (hs : CSt c) (hi : BInv l P T st) (hw : ∀ i ∈ P, (st i).state ≠ 1) : Full l P T c := by
  obtain ⟨a, b, he, -, h2⟩ := h.split
  refine ⟨fun i hiP hz => ?_⟩
  have hf := hi.final ho.ok ho.outs ho.all hw hiP
  have hk := h2 i hiP (hf.1.2 hz)
  exact look_key.2 ((hs.mem _).2 (by rw [he]; exact List.mem_append_right _ hk))
/-- A build twice in one cache that has room for it: the second time all is found. -/
theorem again_hits {l : List RuleL} {P o : List Nat} {T : Look} {c : CS} {c1 c2 : Option CS} {sa sb : Nat → St} {ja jb : List Nat} (ho : Ord l P o) (hc : COk (some c)) (hroom : P.length ≤ c.many) (ha : AllRel l P T (some c) (fun _ => st0) ja c1 sa) (hb : AllRel l P T c1 (fun _ => st0) jb c2 sb) :
    cntP P sb isRan = 0 ∧ cntP P sb isHit = cntP P sa isRan + cntP P sa isHit ∧ cntP P sb isFailed = cntP P sa isFailed ∧ cntP P sb isLeft = cntP P sa isLeft := by
  obtain ⟨ha, ea⟩ := ha.steps
  obtain ⟨hb, eb⟩ := hb.steps
  obtain ⟨ia, ka, oa⟩ := ha.inv ho (BInv.zero _ _ _) hc
  have ib := (hb.inv ho (BInv.zero _ _ _) ka).1
  have wa := over_all ho.ok ia ea
  have wb := over_all ho.ok ib eb
  obtain ⟨c1', rfl, hr, hs, hi⟩ := Recent.steps ha ho c rfl (BInv.zero _ _ _) (hc c rfl).1 (hc c rfl).2 (Recent.zero hroom)
  have hfu := hr.full ho hs ia wa
  have hit := (Full.steps hb ho c1' rfl (BInv.zero _ _ _) hs hi hfu (fun i _ h => absurd h (by decide))).2
  have h0 : cntP P sb isRan = 0 := cnt_none (fun i hi => by
    unfold isRan
    by_cases e : (sb i).state = 2
    · rw [hit i hi e]; simp
    · simp [e])
  have sd_ := fun i (hi : i ∈ P) => final_same ho ib ia wb wa hi
  have d1 := cnt_done P sb
  have d2 := cnt_done P sa
  have d3 : cntP P sb (fun s => decide (s.state = 2)) = cntP P sa (fun s => decide (s.state = 2)) := cnt_congr (fun i hi => by rw [(sd_ i hi).1])
  exact ⟨h0, by omega, cnt_congr (fun i hi => by unfold isFailed; rw [(sd_ i hi).1]), cnt_congr (fun i hi => by unfold isLeft; rw [(sd_ i hi).1])⟩
end Go.Proofs.YtgjialbmlhbngaaGreatDoor

namespace Go.Proofs.YtgjialbmlhbngaaGreatDoor
open Go Go.RowKit Go.Kf Go.Sort Go.Proofs

theorem all_one {c' : Option CS} {st' : Nat → St} {js : List Nat} (h : AllRel oneL [0] (fun p => mlook p aFiles) (some cs0) (fun _ => st0) js c' st') : st' 0 = ⟨2, false, [88], 0⟩ := by
  generalize hc0 : some cs0 = c0 at h
  generalize hs0 : (fun _ => st0 : Nat → St) = s0 at h
  cases h with
  | stop h1 =>
    subst hs0
    have : (0 : Nat) ∈ readyL oneL [0] (fun _ => st0) := List.mem_filter.2 ⟨List.mem_singleton_self 0, readyB_iff.2 one_ready⟩
    rw [h1] at this
    cases this
  | more h1 h2 h3 =>
    subst hs0
    obtain ⟨hk, -⟩ := ready_head h1
    obtain rfl := List.mem_singleton.1 hk
    cases h2 with
    | gone h4 h5 =>
      obtain ⟨s, hs, hn⟩ := h4
      have : s = [97] := List.mem_singleton.1 hs
      subst this
      rw [one_inP] at hn
      cases hn
    | hit h4 h5 => cases hc0; cases h5
    | run h4 h5 h6 =>
      have := one_ins h4
      subst this
      have h7 : actOf [117, 112, 112, 101, 114] [] [[120]] = _ := h6
      rw [act1] at h7
      cases h7
      cases h3 with
      | stop h8 => exact setSt_at _ _ _
      | more h8 h9 h10 =>
        obtain ⟨hk, hr, -⟩ := ready_head h8
        obtain rfl := List.mem_singleton.1 hk
        rw [setSt_at] at hr
        cases hr
    | bad h4 h5 h6 h7 =>
      have := one_ins h4
      subst this
      have h8 : actOf [117, 112, 112, 101, 114] [] [[120]] = _ := h6
      rw [act1] at h8
      cases h8
end Go.Proofs.YtgjialbmlhbngaaGreatDoor

namespace Go.Proofs.YtgjialbmlhbngaaGreatDoor
open Go Go.RowKit Go.Kf Go.Sort Go.Proofs

set_option maxRecDepth 100000 in
set_option maxHeartbeats 4000000 in
theorem yarded_any (w : World) (S : Nat → Addr) (hm : Ml w) (hE : BErr w S) (hN : NErr w) (ht : Tab w) :
    Calls Tryz.prog 11 #[] w fun e w' => e = .returned (.bool true) ∧ Below w.heap.size w w' := by
  have HV := Lib.hid (fun wl (hb : Below w.heap.size w wl) => (env_one hm hE hN ht).below hb)
  have KN := Lib.hid (ynew_any 3 w (by omega) (by omega))
  clear hm hE hN ht
  go_enter Tryz.func11, Tryz.ntmps11
  go_wp2_with fail
  refine KN.out.mono ?_
  rintro e w1 ⟨Y, rfl, hY1, hb1⟩
  have HB1 := Lib.hid hb1
  have HY1 := Lib.hid hY1
  have hz1 := hb1.size
  have KT := Lib.hid (ytree_any w1 hY1)
  clear hY1 hb1 KN
  go_wp2_with fail
  refine KT.out.mono ?_
  rintro e w2 ⟨rfl, e2⟩
  have e3 := e2.symm
  subst e3
  clear e2
  have KP := Lib.hid (put_tree Y.tb Y.mb [] [97] [120] w1 S HY1.out.tree (HV.out w1 HB1.out).ml (HV.out w1 HB1.out).err.t (by simp) (by simp) (fun y hy => by cases hy))
  rw [show putC [97] [120] [] = 0 by decide +kernel, show putM [97] [120] [] = aFiles by decide +kernel] at KP
  go_wp2_with fail
  refine KP.out.mono ?_
  rintro e w3 ⟨rfl, hT3, hF3⟩
  have HY3 := Lib.hid (HY1.out.tstep hT3 hF3)
  have HB3 := Lib.hid (HB1.out.trans ((hF3.mono (S' := fun k => k = Y.mb) HB1.out.size (fun _ _ h => h)).below (fun k hk e => by have := HY1.out.low 1 Y.mb (Or.inr rfl); omega)))
  have hz3 := hF3.size
  clear hT3 hF3 KP KT
  simp only [codeV, if_pos]
  obtain ⟨W1, hW1⟩ : ∃ W, w3.alloc (.cells #[.string ⟨#[97]⟩] 9) = W := ⟨_, rfl⟩
  obtain ⟨W2, hW2⟩ : ∃ W, W1.alloc (.cells #[.string ⟨#[98]⟩, .string ⟨#[117, 112, 112, 101, 114]⟩, .string ⟨#[]⟩, .slice (some ⟨w3.heap.size, 0, none⟩) 1 1] 35) = W := ⟨_, rfl⟩
  have hzw1 : W1.heap.size = w3.heap.size + 1 := by rw [← hW1]; simp
  have hA2 : Below w3.heap.size w3 W2 := hW2 ▸ (hW1 ▸ (Below.refl _ w3).alloc (Nat.le_refl _) _ : Below w3.heap.size w3 W1).alloc (by omega) _
  have hra := oneR_at hW1 hW2
  have hY4 := HY3.out.below hA2
  have hb4 := HB3.out.trans (hA2.mono HB3.out.size)
  have hv4 := HV.out W2 hb4
  have HY4 := Lib.hid hY4
  have HB4 := Lib.hid hb4
  have hyb : ∀ k : Nat, w3.heap.size ≤ k → ¬ k = Y.yb := fun k hk e => by have := HY3.out.lt 0 Y.yb rfl; omega
  have hsz : W2.heap.size = w3.heap.size + 1 + 1 := by rw [← hW2, ← hzw1]; simp
  have hrf : ∀ wl, Fr W2.heap.size (fun k => k = Y.yb) W2 wl → RulesAt wl (.slice (some ⟨w3.heap.size + 1, 0, none⟩) 1 1) (oneR w3.heap.size) := fun wl hf => by
    refine ⟨readsK_fr hra.1 hf (fun k hk => ?_), fun x hx => ⟨(hra.2 x hx).1.fr hf (fun k hk => ?_), (hra.2 x hx).2⟩⟩
    · obtain rfl : w3.heap.size + 1 = k := Option.some.inj hk
      exact ⟨by omega, hyb _ (by omega)⟩
    · simp only [oneR, List.mem_cons, List.not_mem_nil, or_false] at hx
      subst hx
      obtain rfl : w3.heap.size = k := Option.some.inj hk
      exact ⟨by omega, hyb _ (by omega)⟩
  have KR := Lib.hid (yrules_any (S := S) W2 hY4 (oneR w3.heap.size) (.slice (some ⟨w3.heap.size + 1, 0, none⟩) 1 1) hrf (fun a n c h => by cases h; exact Nat.le_refl _) (fun ad n c h => by cases h; rfl) hv4.ml hv4.err.k hv4.num hv4.tab (oneR_short _) (by simp [oneR]))
  clear hY4 hb4 hv4 hra hA2 hrf hyb
  go_wp2_with fail
  refine KR.out.mono ?_
  rintro e w5 hans
  have hol : (oneR w3.heap.size).map Prod.fst = oneL := rfl
  have hord1 : orderB (edgesB oneL) (fun _ => true) oneL.length = some [0] := by decide +kernel
  unfold YRulesAns at hans
  rw [hol] at hans
  rcases hans with ⟨T, x, -, hbad | ⟨-, hno, -⟩, -⟩ | ⟨rfl, -, -, vl', R2, hR2, hY5, -, hF5⟩
  · exact absurd oneL_right hbad.wrong
  · rw [hord1] at hno; cases hno
  have HY5 := Lib.hid hY5
  have HB5 : Hid (Below w.heap.size w w5) := Lib.hid (HB4.out.trans ((hF5.mono (S' := fun k => k = Y.yb) HB4.out.size (fun _ _ h => h)).below (fun k hk e => by have := HY1.out.low 0 Y.yb rfl; omega)))
  have hz5 := hF5.size
  have hlen5 : R2.map Prod.fst = oneL := hR2
  have KM := Lib.hid (ymake_any (S := S) w w5 rfl hY5 (fun c0 h => by cases h; exact ⟨CSt.zero (by decide) (by decide), CInv.zero _⟩) (by rw [hlen5]; exact HV.out w (Below.refl _ _)) HB5.out (by rw [hlen5]; exact oneL_right) ⟨[0], by rw [hlen5]; exact hord1⟩ ⟨by simp, fun y hy => by cases hy⟩ [] (.slice none 0 0) ⟨none, 0, rfl, by simp, fun i u h => by cases h⟩ (by simp))
  clear hY5 hF5 KR
  go_wp2_with fail
  refine KM.out.mono ?_
  rintro e w6 hans
  unfold YMakeAns at hans
  rw [hlen5, show outsOf oneL [] = [[98]] from rfl] at hans
  rcases hans with ⟨T, x, -, hnew, -⟩ | ⟨P, o, ks, js, ord, c', st', lv', hpl, hN, hO, hall, hord, rfl, hY6, hF6, -⟩
  · obtain ⟨D, he, -⟩ := new_one hnew
    exact absurd he (by simp)
  have hP : P = [0] := by
    have h0 : (0 : Nat) ∈ P := by
      obtain ⟨h1, h2⟩ := hpl
      match ks, h1, h2, hN with
      | k :: _, h1, _, hN =>
        have : k < 1 := h1 k List.mem_cons_self
        obtain rfl : k = 0 := by omega
        exact (hN 0).2 (.base List.mem_cons_self)
    have hlt : ∀ k ∈ P, k = 0 := fun k hk => by have : k < 1 := hO.ok.lt k hk; omega
    match P, h0, hlt, hO.ok.nodup with
    | [a], _, hlt, _ => rw [hlt a List.mem_cons_self]
    | a :: b :: r, _, hlt, hnd =>
      have h1 := hlt a List.mem_cons_self
      have h2 := hlt b (List.mem_cons_of_mem _ List.mem_cons_self)
      exact absurd (h1.trans h2.symm) (fun e => (List.nodup_cons.1 hnd).1 (e ▸ List.mem_cons_self))
  subst hP
  have hst : st' 0 = ⟨2, false, [88], 0⟩ := all_one hall
  rw [hord1] at hord
  cases hord
  have hlay : [0].foldl (layOne oneL [0] st') [] = [([98], [88])] := by
    rw [List.foldl_cons, List.foldl_nil]
    unfold layOne rSt
    rw [hst]
    decide +kernel
  rw [hlay] at hY6
  have hc1 : cntP [0] st' isRan = 1 := by unfold cntP isRan; simp [hst]
  rw [hc1]
  have HY6 := Lib.hid hY6
  have HB6 : Hid (Below w.heap.size w w6) := Lib.hid (HB5.out.trans ((hF6.mono HB5.out.size (fun _ _ h => h)).below (fun k hk e => by
    rcases e with e | e
    · have := HY5.out.low 2 k (Or.inr e); omega
    · have := HY5.out.low 3 k e; omega)))
  generalize cntP [0] st' isHit = n2
  generalize cntP [0] st' isFailed = n3
  generalize cntP [0] st' isLeft = n4
  obtain ⟨W7, hW7⟩ : ∃ W, w6.alloc (.cells #[.int .i64 1, .int .i64 (n2 : Int), .int .i64 (n3 : Int), .int .i64 (n4 : Int)] 45) = W := ⟨_, rfl⟩
  have hA7 : Below w6.heap.size w6 W7 := hW7 ▸ (Below.refl _ w6).alloc (Nat.le_refl _) _
  have hcell : W7.cell? ⟨w6.heap.size, 0, none⟩ = some (.int .i64 1) := by rw [← hW7, cell_of_heap (heap_alloc_here w6 _)]; rfl
  have HY7 := Lib.hid (HY6.out.below hA7)
  have HB7 := Lib.hid (HB6.out.trans (hA7.mono HB6.out.size))
  have KO := Lib.hid (yout_any W7 HY7.out)
  have KG := Lib.hid (get_tree Y.ob Y.om [([98], [88])] [98] W7 HY7.out.out)
  have KS := Lib.hid (ystale_any (S := S) w W7 HY7.out (by rw [hlen5]; exact HV.out w (Below.refl _ _)) HB7.out (by rw [hlen5]; exact oneL_right) ⟨[0], by rw [hlen5]; exact hord1⟩)
  rw [hlen5, show sortB (staleL oneL (fun p => mlook p aFiles) [([98], [88])]) = [] by decide +kernel] at KS
  simp only [show mlook [98] [(([98], [88]) : Ent)] = some [88] by decide +kernel, Option.getD_some, Option.isSome_some] at KG
  clear hY6 hF6 hall hpl hN hO KM hA7
  go_wp2_with fail
  refine KO.out.mono ?_
  rintro e w7 ⟨rfl, e7⟩
  have e8 := e7.symm
  subst e8
  clear e7
  go_wp2_with fail
  refine KG.out.mono ?_
  rintro e w8 ⟨rfl, rfl⟩
  go_wp2_with fail
  refine KS.out.mono ?_
  rintro e w9 ⟨u, rfl, hown, hb9⟩
  have HB9 := Lib.hid (HB7.out.trans (hb9.mono HB7.out.size))
  obtain ⟨au, cu, hu, -, -⟩ := id (ownsRow_reads hown)
  rw [List.length_map] at hu
  subst hu
  clear hown hb9
  go_wp2
  go_ret
  exact ⟨rfl, HB9.out⟩
end Go.Proofs.YtgjialbmlhbngaaGreatDoor
