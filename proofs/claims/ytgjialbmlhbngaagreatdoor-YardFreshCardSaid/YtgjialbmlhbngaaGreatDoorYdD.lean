/-
  YardFresh, in plain Lean: trees that hold one thing have one text; a tree can be copied. A path does not end in a slash; what the law YardFresh asks of outs is that they are level. Make of all, in a yard whose rules are right and have an order: it makes, and leaves the out tree fresh.
-/
import Derived.Test.YtgjialbmlhbngaaGreatDoorYdC
import Derived.Test.YtgjialbmlhbngaaGreatDoorPkP
import Derived.Test.YtgjialbmlhbngaaGreatDoorPkA

namespace Go.Proofs.YtgjialbmlhbngaaGreatDoor
open Go Go.RowKit Go.Kf Go.Sort Go.Proofs

theorem perm_nodup {α : Type} [DecidableEq α] : ∀ {a b : List α}, a.Nodup → b.Nodup → (∀ x, x ∈ a ↔ x ∈ b) → a.Perm b
  | [], b, _, _, h => by
    cases b with
    | nil => exact List.Perm.refl _
    | cons y b => exact absurd ((h y).2 List.mem_cons_self) List.not_mem_nil
  | x :: a, b, ha, hb, h => by
    have hx : x ∈ b := (h x).1 List.mem_cons_self
    have hp : b.Perm (x :: b.erase x) := List.perm_cons_erase hx
    have hbe := (hp.nodup_iff.1 hb)
    rw [List.nodup_cons] at ha hbe
    refine (List.Perm.cons x (perm_nodup ha.2 hbe.2 (fun y => ?_))).trans hp.symm
    have h1 := h y
    rw [hp.mem_iff, List.mem_cons, List.mem_cons] at h1
    constructor
    · intro hy
      rcases h1.1 (Or.inr hy) with e | e
      · exact absurd (e ▸ hy) ha.1
      · exact e
    · intro hy
      rcases h1.2 (Or.inr hy) with e | e
      · exact absurd (e ▸ hy) hbe.1
      · exact e
theorem text_same {a b : List Ent} (na : (a.map Prod.fst).Nodup) (nb : (b.map Prod.fst).Nodup) (h : ∀ p, mlook p a = mlook p b) : linesM a (sortK a) = linesM b (sortK b) := by
  have hp : (a.map Prod.fst).Perm (b.map Prod.fst) := perm_nodup na nb (fun x => by rw [← look_key, ← look_key, h])
  have hs : sortK a = sortK b := sortB_eq hp
  rw [hs]
  unfold linesM
  refine congrArg List.flatten (List.map_congr_left (fun p _ => ?_))
  unfold mget
  rw [h]
theorem above_selfY (p : List UInt8) : aboveB p p = false := by
  rw [Bool.eq_false_iff]
  intro h
  have := List.IsPrefix.length_le (aboveB_iff.1 h)
  simp only [List.length_append, List.length_cons, List.length_nil] at this
  omega
/-- A tree of files as it always is. -/
structure Good (m : List Ent) : Prop where
  nd : (m.map Prod.fst).Nodup
  len : m.length ≤ 60
  path : ∀ p ∈ m.map Prod.fst, isPathB p = true
  byt : ∀ p b, mlook p m = some b → b.length ≤ 2000
  apart : ∀ p ∈ m.map Prod.fst, ∀ q ∈ m.map Prod.fst, aboveB p q = false
theorem Good.nil : Good [] := ⟨List.nodup_nil, Nat.zero_le _, fun p h => absurd h List.not_mem_nil, (fun p b h => by cases h), fun p h => absurd h List.not_mem_nil⟩
theorem Good.put {m : List Ent} (h : Good m) (p b : List UInt8) : Good (putM p b m) := by
  unfold putM
  split
  · rename_i hc
    unfold putC at hc
    split at hc
    · cases hc
    · rename_i h1
      split at hc
      · cases hc
      · rename_i h2
        split at hc
        · cases hc
        · rename_i h3
          split at hc
          · cases hc
          · rename_i h4
            have hp : isPathB p = true := by cases hx : isPathB p with
              | true => rfl
              | false => exact absurd hx h1
            have hcl : ∀ q ∈ m.map Prod.fst, aboveB p q = false ∧ aboveB q p = false := fun q hq => by
              obtain ⟨y, hy, rfl⟩ := List.mem_map.1 hq
              have h5 : clash p m = false := by simpa using h3
              unfold clash at h5
              rw [List.any_eq_false] at h5
              have := h5 y hy
              simpa using this
            have hk : ∀ q, q ∈ (mupd p b m).map Prod.fst → q ∈ m.map Prod.fst ∨ q = p := fun q hq => by
              rw [mkeys_upd] at hq
              split at hq
              · exact Or.inl hq
              · rcases List.mem_append.1 hq with hq | hq
                · exact Or.inl hq
                · exact Or.inr (List.mem_singleton.1 hq)
            refine ⟨?_, ?_, fun q hq => ?_, fun q c hq => ?_, fun q hq r hr => ?_⟩
            · rw [mkeys_upd]
              split
              · exact h.nd
              · rename_i hn
                refine List.nodup_append.2 ⟨h.nd, by simp, fun a ha c hc => ?_⟩
                rw [List.mem_singleton] at hc
                exact fun e => hn (hc ▸ e ▸ ha)
            · have h6 := congrArg List.length (mkeys_upd p b m)
              rw [List.length_map] at h6
              rw [h6]
              split
              · rw [List.length_map]; exact h.len
              · rename_i hn
                rw [List.length_append, List.length_map, List.length_singleton]
                have hl : (mlook p m).isSome = false := by rw [mlook_none.2 hn]; rfl
                have : ¬ 60 ≤ m.length := fun h7 => h4 ⟨hl, h7⟩
                omega
            · rcases hk q hq with e | rfl
              · exact h.path q e
              · exact hp
            · rw [mlook_upd] at hq
              split at hq
              · cases hq; omega
              · exact h.byt q c hq
            · rcases hk q hq with e | rfl <;> rcases hk r hr with f | rfl
              · exact h.apart q e r f
              · exact (hcl q e).2
              · exact (hcl r f).1
              · exact above_selfY _
  · exact h
theorem Good.del {m : List Ent} (h : Good m) (p : List UInt8) : Good (mdel p m) := by
  have hk : ∀ q, q ∈ (mdel p m).map Prod.fst → q ∈ m.map Prod.fst := fun q hq => by
    rw [mkeys_del _ _ h.nd] at hq
    exact (List.mem_filter.1 hq).1
  refine ⟨?_, Nat.le_trans (mdel_lenY m) h.len, fun q hq => h.path q (hk q hq), fun q c hq => ?_, fun q hq r hr => h.apart q (hk q hq) r (hk r hr)⟩
  · rw [mkeys_del _ _ h.nd]; exact h.nd.filter _
  · rw [mlook_del _ _ _ h.nd] at hq
    split at hq
    · cases hq
    · exact h.byt q c hq
/-- A tree that is being copied. -/
structure Cop (m mz : List Ent) (ks : List (List UInt8)) : Prop where
  nd : (mz.map Prod.fst).Nodup
  keys : ∀ p, p ∈ mz.map Prod.fst ↔ p ∈ ks
  look : ∀ p ∈ ks, mlook p mz = mlook p m
theorem Cop.nil (m : List Ent) : Cop m [] [] := ⟨List.nodup_nil, fun _ => Iff.rfl, fun _ h => absurd h List.not_mem_nil⟩
theorem Cop.step {m mz : List Ent} {ks : List (List UInt8)} (h : Cop m mz ks) (hg : Good m) (hk : ∀ q ∈ ks, q ∈ m.map Prod.fst) {p : List UInt8} (hp : p ∈ m.map Prod.fst) : putC p (mget m p) mz = 0 ∧ Cop m (putM p (mget m p) mz) (ks ++ [p]) := by
  obtain ⟨b, hb⟩ : ∃ b, mlook p m = some b := Option.isSome_iff_exists.1 (look_key.2 hp)
  have hget : mget m p = b := by unfold mget; rw [hb]; rfl
  have hc : putC p b mz = 0 := by
    have h2 := hg.byt p b hb
    have h3 : clash p mz = false := by
      unfold clash
      rw [List.any_eq_false]
      intro y hy
      have hy2 := hk y.1 ((h.keys y.1).1 (List.mem_map.2 ⟨y, hy, rfl⟩))
      rw [hg.apart p hp _ hy2, hg.apart _ hy2 p hp]
      decide
    have h4 : ¬ ((mlook p mz).isSome = false ∧ 60 ≤ mz.length) := fun ⟨h5, h6⟩ => by
      have hn : p ∉ mz.map Prod.fst := fun e => by rw [← look_key] at e; rw [h5] at e; cases e
      have h7 := nodup_subL (p :: mz.map Prod.fst) (m.map Prod.fst) (List.nodup_cons.2 ⟨hn, h.nd⟩) (fun x hx => by
        rcases List.mem_cons.1 hx with rfl | hx
        · exact hp
        · exact hk x ((h.keys x).1 hx))
      rw [List.length_cons, List.length_map, List.length_map] at h7
      have := hg.len
      omega
    unfold putC
    rw [if_neg (by rw [hg.path p hp]; decide), if_neg (by omega), if_neg (by rw [h3]; decide), if_neg h4]
  rw [hget]
  refine ⟨hc, ?_⟩
  unfold putM
  rw [if_pos hc]
  refine ⟨?_, fun q => ?_, fun q hq => ?_⟩
  · rw [mkeys_upd]
    split
    · exact h.nd
    · rename_i hn
      refine List.nodup_append.2 ⟨h.nd, by simp, fun a ha c hc => ?_⟩
      rw [List.mem_singleton] at hc
      exact fun e => hn (hc ▸ e ▸ ha)
  · rw [mkeys_upd, List.mem_append, List.mem_singleton]
    split
    · rename_i hm
      rw [h.keys]
      exact ⟨Or.inl, fun e => e.elim id (fun e => (h.keys q).1 (e ▸ hm))⟩
    · rw [List.mem_append, List.mem_singleton, h.keys]
  · rw [mlook_upd]
    split
    · rename_i e; rw [← e, hb]
    · rename_i e
      rcases List.mem_append.1 hq with hq | hq
      · exact h.look q hq
      · exact absurd (List.mem_singleton.1 hq).symm e
theorem Cop.done {m mz : List Ent} (h : Cop m mz (sortK m)) : ∀ p, mlook p mz = mlook p m := fun p => by
  by_cases hp : p ∈ sortK m
  · exact h.look p hp
  · have h1 : p ∉ mz.map Prod.fst := fun e => hp ((h.keys p).1 e)
    have h2 : p ∉ m.map Prod.fst := fun e => hp ((sortK_perm m).mem_iff.2 e)
    rw [mlook_none.2 h1, mlook_none.2 h2]
end Go.Proofs.YtgjialbmlhbngaaGreatDoor

namespace Go.Proofs.YtgjialbmlhbngaaGreatDoor
open Go Go.RowKit Go.Kf Go.Sort Go.Proofs

theorem spl_appY (c : UInt8) : ∀ (a b : List UInt8), spl c (a ++ c :: b) = spl c a ++ spl c b
  | [], b => by simp [spl]
  | x :: a, b => by
    have ih := spl_appY c a b
    have hne := spl_ne c a
    simp only [List.cons_append, spl]
    by_cases h : x = c
    · rw [if_pos h, if_pos h, ih]; rfl
    · rw [if_neg h, if_neg h, ih]
      cases hs : spl c a with
      | nil => exact absurd hs hne
      | cons y t => rfl
theorem path_noend (p : List UInt8) : isPathB (p ++ [47]) = false := by
  cases h : isPathB (p ++ [47]) with
  | false => rfl
  | true =>
    exfalso
    have e : spl 47 (p ++ [47]) = spl 47 p ++ [[]] := by
      rw [show p ++ [47] = p ++ 47 :: ([] : List UInt8) from rfl, spl_appY]
      rfl
    unfold isPathB partsL at h
    rw [e] at h
    split at h
    · rename_i hc
      have h2 := hc.2
      unfold namesB at h2
      rw [List.all_append] at h2
      simp [nameB] at h2
    · cases h
/-- What the law asks: no out begins with another and a slash, and is longer. -/
theorem level_of {l : List RuleL} (hr : RightS l) (h : ∀ i k, i < l.length → k < l.length → ¬ ((l.getD i noR).out.length + 1 < (l.getD k noR).out.length ∧ (l.getD k noR).out.take ((l.getD i noR).out.length + 1) = (l.getD i noR).out ++ [47])) : Level l := by
  intro i k hi hk
  rw [Bool.eq_false_iff]
  intro ha
  obtain ⟨r, hr2⟩ := aboveB_iff.1 ha
  cases r with
  | nil =>
    rw [List.append_nil] at hr2
    have hp : isPathB (l.getD k noR).out = true := by
      have := (hr.2.rule hk).1
      rw [getD_at hk]
      unfold ruleErr at this
      cases hx : isPathB l[k].out with
      | true => rfl
      | false => rw [hx] at this; simp at this
    rw [← hr2, path_noend] at hp
    cases hp
  | cons c r =>
    refine h i k hi hk ⟨?_, ?_⟩
    · rw [← hr2]; simp
    · rw [← hr2, List.take_append_of_le_length (by simp), List.take_of_length_le (by simp)]
end Go.Proofs.YtgjialbmlhbngaaGreatDoor

namespace Go.Proofs.YtgjialbmlhbngaaGreatDoor
open Go Go.RowKit Go.Kf Go.Sort Go.Proofs

theorem find_congrQ {α : Type} {p q : α → Bool} : ∀ (l : List α), (∀ x ∈ l, p x = q x) → l.find? p = l.find? q
  | [], _ => rfl
  | x :: l, h => by
    rw [List.find?_cons, List.find?_cons, h x List.mem_cons_self, find_congrQ l (fun y hy => h y (List.mem_cons_of_mem _ hy))]
theorem orderGo_congr {E : Nat → List Nat} {a b : Nat → Bool} {n : Nat} (h : ∀ i, i < n → a i = b i) : ∀ (f : Nat) (out : List Nat), orderGo E a n f out = orderGo E b n f out
  | 0, _ => rfl
  | f + 1, out => by
    have hn : nextB E a n out = nextB E b n out := find_congrQ _ (fun x hx => by unfold candB; rw [h x (List.mem_range.1 hx)])
    unfold orderGo
    rw [hn]
    cases nextB E b n out with
    | none => rfl
    | some k => exact orderGo_congr h f _
theorem orderB_congr {E : Nat → List Nat} {a b : Nat → Bool} {n : Nat} (h : ∀ i, i < n → a i = b i) : orderB E a n = orderB E b n := by
  have hm : manyB a n = manyB b n := congrArg List.length (List.filter_congr (fun x hx => h x (List.mem_range.1 hx)))
  unfold orderB
  rw [hm, orderGo_congr h]
/-- New of all outs does not fail. -/
theorem new_all {S : Nat → Addr} {l : List RuleL} {m : List Ent} {cv : Value} {B : Nat} {T : TypeId} {x : Value} {w' : World} (h : BNewAns S l (l.map RuleL.out) m cv B (.returned (.tuple #[.pointer none, .iface T x])) w') (hr : RightS l) (ho : ∃ o, orderB (edgesB l) (fun _ => true) l.length = some o) : False := by
  rcases h with ⟨T', x', -, hbad | ⟨-, i, g, hi, -, hno, -⟩ | ⟨-, ks, N, hpl, hN, hnone, -⟩⟩ | ⟨ks, N, o, D, -, -, -, -, he, -⟩
  · exact hbad.wrong hr
  · exact hno (List.getElem_mem hi)
  · obtain ⟨o, ho⟩ := ho
    rw [all_needed hr hpl hN] at hnone
    rw [orderB_congr (fun i hi => List.contains_iff_mem.2 (List.mem_range.2 hi) : ∀ i, i < l.length → (List.range l.length).contains i = (fun _ => true) i), ho] at hnone
    cases hnone
  · exact absurd he (by simp)
theorem range_of {P : List Nat} {n : Nat} (hs : P.Pairwise (· < ·)) (hm : ∀ k, k ∈ P ↔ k < n) : P = List.range n :=
  List.Perm.eq_of_pairwise (le := fun a b => a < b) (fun a b _ _ h1 h2 => absurd h1 (Nat.lt_asymm h2)) hs List.pairwise_lt_range
    (perm_nodup (hs.imp (fun h => Nat.ne_of_lt h)) List.nodup_range (fun k => by rw [hm, List.mem_range]))
theorem spl_lensY : ∀ s : List UInt8, s.length + 1 ≤ ((spl 47 s).map fun t => t.length + 1).sum
  | [] => by simp [spl]
  | b :: s => by
    have ih := spl_lensY s
    unfold spl
    by_cases hb : b = 47
    · rw [if_pos hb]
      simp only [List.map_cons, List.sum_cons, List.length_nil, List.length_cons]
      omega
    · rw [if_neg hb]
      cases hq : spl 47 s with
      | nil => rw [hq] at ih; simp at ih
      | cons x r =>
        rw [hq] at ih
        simp only [List.map_cons, List.sum_cons, List.length_cons] at ih ⊢
        omega
theorem sum_leY {k : Nat} : ∀ l : List Nat, (∀ x ∈ l, x ≤ k) → l.sum ≤ k * l.length
  | [], _ => by simp
  | x :: l, h => by
    have h1 := h x List.mem_cons_self
    have h2 := sum_leY l (fun y hy => h y (List.mem_cons_of_mem _ hy))
    rw [List.sum_cons, List.length_cons, Nat.mul_succ]
    omega
theorem pathLenY {p : List UInt8} (h : isPathB p = true) : p.length ≤ 100 := by
  have hs : (spl 47 p).length ≤ 5 ∧ namesB false (spl 47 p) = true := by
    unfold isPathB partsL at h
    split at h
    · rename_i hc; exact hc
    · cases h
  have h1 := spl_lensY p
  have h2 := sum_leY (k := 13) ((spl 47 p).map fun t => t.length + 1) (fun x hx => by
    obtain ⟨t, ht, rfl⟩ := List.mem_map.1 hx
    have hn := (List.all_eq_true.1 hs.2) t ht
    unfold nameB at hn
    simp only [Bool.and_eq_true, decide_eq_true_eq] at hn
    omega)
  rw [List.length_map] at h2
  have := hs.1
  omega
theorem Good.klen {m : List Ent} (h : Good m) : ∀ x ∈ m, x.1.length ≤ 100 := fun x hx => pathLenY (h.path x.1 (List.mem_map.2 ⟨x, hx, rfl⟩))
/-- The out tree's keys and bytes are short. -/
theorem Fresh.short {l : List RuleL} {T : Look} {mo : List Ent} (h : Fresh l T mo) (hr : RightS l) (hT : ∀ p b, T p = some b → b.length ≤ 2000) : (∀ x ∈ mo, x.1.length ≤ 100) ∧ ∀ p, (mget mo p).length ≤ 2000 := by
  refine ⟨fun x hx => ?_, fun p => ?_⟩
  · obtain ⟨i, hi, he⟩ := h.outs.sub x.1 (List.mem_map.2 ⟨x, hx, rfl⟩)
    rw [← he]
    refine pathLenY ?_
    have := (hr.2.rule hi).1
    rw [getD_at hi]
    unfold ruleErr at this
    cases hx : isPathB l[i].out with
    | true => rfl
    | false => rw [hx] at this; simp at this
  · unfold mget
    cases hk : mlook p mo with
    | none => simp
    | some b =>
      obtain ⟨i, hi, rfl⟩ := h.outs.sub p (look_key.1 (by rw [hk]; rfl))
      rw [h.look i hi] at hk
      split at hk
      · cases hk
        exact (toldOk_want hT _).len
      · cases hk
/-- What Make of all leaves. -/
structure AllMade (B : Nat) (Y : YPl) (vl lv : Value) (R : List RV) (m : List Ent) (c : CS) (w w' : World) (n : Nat → Nat) (o js : List Nat) (c' : CS) (st' : Nat → St) (lv' : Value) (mo' : List Ent) : Prop where
  ord : Ord (R.map Prod.fst) (List.range (R.map Prod.fst).length) o
  rel : AllRel (R.map Prod.fst) (List.range (R.map Prod.fst).length) (fun p => mlook p m) (some c) (fun _ => st0) js (some c') st'
  ran : n 0 = cntP (List.range (R.map Prod.fst).length) st' isRan
  hit : n 1 = cntP (List.range (R.map Prod.fst).length) st' isHit
  failed : n 2 = cntP (List.range (R.map Prod.fst).length) st' isFailed
  left : n 3 = cntP (List.range (R.map Prod.fst).length) st' isLeft
  yard : YAt B Y vl lv' R m mo' c' w'
  fresh : Fresh (R.map Prod.fst) (fun p => mlook p m) mo'
  cok : COk (some c')
  room : (R.map Prod.fst).length ≤ c.many → (R.map Prod.fst).length ≤ c'.many
  low : Fr w.heap.size (fun q => ∃ i, ysec Y lv vl R i q) w w'
theorem make_all {S : Nat → Addr} {B : Nat} {Y : YPl} {vl lv : Value} {R : List RV} {m mo : List Ent} {c : CS} (w0 w : World) (hB : w0.heap.size = B) (h : YAt B Y vl lv R m mo c w) (hcok : COk (some c)) (hV : BEnv S (R.map Prod.fst) m w0) (hlow : Below w0.heap.size w0 w) (hright : RightS (R.map Prod.fst)) (hord : ∃ o, orderB (edgesB (R.map Prod.fst)) (fun _ => true) (R.map Prod.fst).length = some o)
    (h12 : (R.map Prod.fst).length ≤ 12) (hA : Level (R.map Prod.fst)) (hmo : OutsIn (R.map Prod.fst) mo) :
    Calls Tryz.prog 20 #[ptrV Y.yb, .slice none 0 0] w fun e w' => ∃ n o js c' st' lv' mo', e = .returned (.tuple #[countV (n 0 : Nat) (n 1 : Nat) (n 2 : Nat) (n 3 : Nat), .nilIface]) ∧ AllMade B Y vl lv R m c w w' n o js c' st' lv' mo' := by
  have hMo : MoOk mo := ⟨by have := hmo.len; omega, fun y hy => by
    obtain ⟨i, hi, he⟩ := hmo.sub y.1 (List.mem_map.2 ⟨y, hy, rfl⟩)
    rw [← he, getD_at hi]
    exact (hV.short _ (List.getElem_mem hi)).1⟩
  refine (ymake_any (S := S) w0 w hB h hcok hV hlow hright hord hMo [] (.slice none 0 0) ⟨none, 0, rfl, by simp, fun i u h => by cases h⟩ (by simp)).mono ?_
  intro e w' ha
  unfold YMakeAns at ha
  rw [show outsOf (R.map Prod.fst) [] = (R.map Prod.fst).map RuleL.out from rfl] at ha
  generalize hl : R.map Prod.fst = l at *
  rcases ha with ⟨T, x, -, hnew, -⟩ | ⟨P, o, ks, js, ord, c', st', lv', hpl, hN, hO, hall, ho, rfl, hY, hF, -⟩
  · exact (new_all hnew hright hord).elim
  have hP : P = List.range l.length := range_of hO.ok.rise (fun k => ⟨hO.ok.lt k, fun hk => (hN k).2 (.base ((hpl.mem hright.2 hk).2 (List.mem_map.2 ⟨_, List.getElem_mem hk, rfl⟩)))⟩)
  subst hP
  have hT : ∀ p b, mlook p m = some b → b.length ≤ 2000 := hV.files
  have hfr := fresh_made hO (fun k hk => List.mem_range.2 hk) hT hcok hall ho h12 hA hmo
  obtain ⟨hst, -⟩ := hall.steps
  have hk := hst.inv hO (BInv.zero _ _ _) hcok
  refine ⟨fun i => if i = 0 then cntP (List.range l.length) st' isRan else if i = 1 then cntP (List.range l.length) st' isHit else if i = 2 then cntP (List.range l.length) st' isFailed else cntP (List.range l.length) st' isLeft, o, js, c', st', lv', ord.foldl (layOne l (List.range l.length) st') mo, rfl, ?_⟩
  subst hl
  refine ⟨hO, hall, rfl, rfl, rfl, rfl, hY, hfr, hk.2.1, fun hroom => ?_, hF.mono (Nat.le_refl _) (fun q _ hq => ?_)⟩
  · obtain ⟨c1, e1, hr, -⟩ := Recent.steps hst hO c rfl (BInv.zero _ _ _) (hcok c rfl).1 (hcok c rfl).2 (Recent.zero (by rw [List.length_range]; exact hroom))
    cases e1
    have := hr.room
    rwa [List.length_range] at this
  · rcases hq with rfl | hq
    · exact ⟨2, Or.inr rfl⟩
    · exact ⟨3, hq⟩
/-- Made again at once: nothing runs. -/
theorem AllMade.again {B : Nat} {Y : YPl} {vl lv : Value} {R : List RV} {m : List Ent} {c : CS} {w w' : World} {n : Nat → Nat} {o js : List Nat} {c' : CS} {st' : Nat → St} {lv' : Value} {mo' : List Ent} {w2 w3 : World} {n2 : Nat → Nat} {o2 js2 : List Nat} {c2 : CS} {st2 : Nat → St} {lv2 : Value} {mo2 : List Ent}
    (h : AllMade B Y vl lv R m c w w' n o js c' st' lv' mo') (hc : COk (some c)) (hroom : (R.map Prod.fst).length ≤ c.many) (h2 : AllMade B Y vl lv' R m c' w2 w3 n2 o2 js2 c2 st2 lv2 mo2) : n2 0 = 0 ∧ n2 1 = n 0 + n 1 ∧ n2 2 = n 2 ∧ n2 3 = n 3 := by
  have := again_hits h.ord hc (by rw [List.length_range]; exact hroom) h.rel h2.rel
  rw [h.ran, h.hit, h.failed, h.left, h2.ran, h2.hit, h2.failed, h2.left]
  exact this
theorem cnt_leY (P : List Nat) (st : Nat → St) (p : St → Bool) : cntP P st p ≤ P.length := List.length_filter_le _ _
theorem AllMade.few {B : Nat} {Y : YPl} {vl lv : Value} {R : List RV} {m : List Ent} {c : CS} {w w' : World} {n : Nat → Nat} {o js : List Nat} {c' : CS} {st' : Nat → St} {lv' : Value} {mo' : List Ent} (h : AllMade B Y vl lv R m c w w' n o js c' st' lv' mo') : n 0 ≤ R.length ∧ n 1 ≤ R.length := by
  rw [h.ran, h.hit]
  have h1 := cnt_leY (List.range (R.map Prod.fst).length) st' isRan
  have h2 := cnt_leY (List.range (R.map Prod.fst).length) st' isHit
  have e : (List.range (R.map Prod.fst).length).length = R.length := by rw [List.length_range, List.length_map]
  rw [e] at h1 h2
  exact ⟨h1, h2⟩
end Go.Proofs.YtgjialbmlhbngaaGreatDoor
