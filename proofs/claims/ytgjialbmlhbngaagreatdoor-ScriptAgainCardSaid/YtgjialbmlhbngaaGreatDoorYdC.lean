/-
  YardFresh, in plain Lean: what Make of all leaves in the out tree. A cache that has been in use: what a build puts or finds stays, where there is room for the build alone. One rule, made in a yard: in plain Lean. The laws' yarded: a yard makes a file. YardFresh, in plain Lean: trees that hold one thing have one text; a tree can be copied. A path does not end in a slash; what the law YardFresh asks of outs is that they are level. Make of all, in a yard whose rules are right and have an order: it makes, and leaves the out tree fresh. The walk of the law YardFresh. (A draft: the statement only.)
-/
import Derived.Test.YtgjialbmlhbngaaGreatDoorYdB
import Derived.Test.YtgjialbmlhbngaaGreatDoorMid
import Derived.Test.YtgjialbmlhbngaaGreatDoorPkP
import Derived.Test.YtgjialbmlhbngaaGreatDoorPkA
import Derived.Test.YtgjialbmlhbngaaGreatDoorPkI
import Derived.Test.YtgjialbmlhbngaaGreatDoorPkQ
import Derived.Deep.RegionHeld3

namespace Go.Proofs.YtgjialbmlhbngaaGreatDoor
open Go Go.RowKit Go.Kf Go.Sort Go.Proofs
theorem perm_nodup {α : Type} [DecidableEq α] : ∀ {a b : List α}, a.Nodup → b.Nodup → (∀ x, x ∈ a ↔ x ∈ b) → a.Perm b
  | [], b, _, _, h => by
    cases b with
    | nil => exact List.Perm.refl _
    | cons y b => exact absurd ((h y).2 List.mem_cons_self) List.not_mem_nil
  | x :: a, b, ha, hb, h => by
    have hx : x ∈ b := (h x).1 List.mem_cons_self
    have hp : b.Perm (x :: b.erase x) := List.perm_cons_erase hx
    have hbe := (hp.nodup_iff.1 hb)
    rw [List.nodup_cons] at ha hbe
    refine (List.Perm.cons x (perm_nodup ha.2 hbe.2 (fun y => ?_))).trans hp.symm
    have h1 := h y
    rw [hp.mem_iff, List.mem_cons, List.mem_cons] at h1
    constructor
    · intro hy
      rcases h1.1 (Or.inr hy) with e | e
      · exact absurd (e ▸ hy) ha.1
      · exact e
    · intro hy
      rcases h1.2 (Or.inr hy) with e | e
      · exact absurd (e ▸ hy) hbe.1
      · exact e
theorem above_selfY (p : List UInt8) : aboveB p p = false := by
  rw [Bool.eq_false_iff]
  intro h
  have := List.IsPrefix.length_le (aboveB_iff.1 h)
  simp only [List.length_append, List.length_cons, List.length_nil] at this
  omega
structure Good (m : List Ent) : Prop where
  nd : (m.map Prod.fst).Nodup
  len : m.length ≤ 60
  path : ∀ p ∈ m.map Prod.fst, isPathB p = true
  byt : ∀ p b, mlook p m = some b → b.length ≤ 2000
  apart : ∀ p ∈ m.map Prod.fst, ∀ q ∈ m.map Prod.fst, aboveB p q = false
theorem Good.nil : Good [] := ⟨List.nodup_nil, Nat.zero_le _, fun p h => absurd h List.not_mem_nil, (fun p b h => by cases h), fun p h => absurd h List.not_mem_nil⟩
theorem Good.put {m : List Ent} (h : Good m) (p b : List UInt8) : Good (putM p b m) := by
  unfold putM
  split
  · rename_i hc
    unfold putC at hc
    split at hc
    · cases hc
    · rename_i h1
      split at hc
      · cases hc
      · rename_i h2
        split at hc
        · cases hc
        · rename_i h3
          split at hc
          · cases hc
          · rename_i h4
            have hp : isPathB p = true := by cases hx : isPathB p with
              | true => rfl
              | false => exact absurd hx h1
            have hcl : ∀ q ∈ m.map Prod.fst, aboveB p q = false ∧ aboveB q p = false := fun q hq => by
              obtain ⟨y, hy, rfl⟩ := List.mem_map.1 hq
              have h5 : clash p m = false := by simpa using h3
              unfold clash at h5
              rw [List.any_eq_false] at h5
              have := h5 y hy
              simpa using this
            have hk : ∀ q, q ∈ (mupd p b m).map Prod.fst → q ∈ m.map Prod.fst ∨ q = p := fun q hq => by
              rw [mkeys_upd] at hq
              split at hq
              · exact Or.inl hq
              · rcases List.mem_append.1 hq with hq | hq
                · exact Or.inl hq
                · exact Or.inr (List.mem_singleton.1 hq)
            refine ⟨?_, ?_, fun q hq => ?_, fun q c hq => ?_, fun q hq r hr => ?_⟩
            · rw [mkeys_upd]
              split
              · exact h.nd
              · rename_i hn
                refine List.nodup_append.2 ⟨h.nd, by simp, fun a ha c hc => ?_⟩
                rw [List.mem_singleton] at hc
                exact fun e => hn (hc ▸ e ▸ ha)
            · have h6 := congrArg List.length (mkeys_upd p b m)
              rw [List.length_map] at h6
              rw [h6]
              split
              · rw [List.length_map]; exact h.len
              · rename_i hn
                rw [List.length_append, List.length_map, List.length_singleton]
                have hl : (mlook p m).isSome = false := by rw [mlook_none.2 hn]; rfl
                have : ¬ 60 ≤ m.length := fun h7 => h4 ⟨hl, h7⟩
                omega
            · rcases hk q hq with e | rfl
              · exact h.path q e
              · exact hp
            · rw [mlook_upd] at hq
              split at hq
              · cases hq; omega
              · exact h.byt q c hq
            · rcases hk q hq with e | rfl <;> rcases hk r hr with f | rfl
              · exact h.apart q e r f
              · exact (hcl q e).2
              · exact (hcl r f).1
              · exact above_selfY _
  · exact h
theorem Good.del {m : List Ent} (h : Good m) (p : List UInt8) : Good (mdel p m) := by
  have hk : ∀ q, q ∈ (mdel p m).map Prod.fst → q ∈ m.map Prod.fst := fun q hq => by
    rw [mkeys_del _ _ h.nd] at hq
    exact (List.mem_filter.1 hq).1
  refine ⟨?_, Nat.le_trans (mdel_lenY m) h.len, fun q hq => h.path q (hk q hq), fun q c hq => ?_, fun q hq r hr => h.apart q (hk q hq) r (hk r hr)⟩
  · rw [mkeys_del _ _ h.nd]; exact h.nd.filter _
  · rw [mlook_del _ _ _ h.nd] at hq
    split at hq
    · cases hq
    · exact h.byt q c hq
theorem spl_lensY : ∀ s : List UInt8, s.length + 1 ≤ ((spl 47 s).map fun t => t.length + 1).sum
  | [] => by simp [spl]
  | b :: s => by
    have ih := spl_lensY s
    unfold spl
    by_cases hb : b = 47
    · rw [if_pos hb]
      simp only [List.map_cons, List.sum_cons, List.length_nil, List.length_cons]
      omega
    · rw [if_neg hb]
      cases hq : spl 47 s with
      | nil => rw [hq] at ih; simp at ih
      | cons x r =>
        rw [hq] at ih
        simp only [List.map_cons, List.sum_cons, List.length_cons] at ih ⊢
        omega
theorem sum_leY {k : Nat} : ∀ l : List Nat, (∀ x ∈ l, x ≤ k) → l.sum ≤ k * l.length
  | [], _ => by simp
  | x :: l, h => by
    have h1 := h x List.mem_cons_self
    have h2 := sum_leY l (fun y hy => h y (List.mem_cons_of_mem _ hy))
    rw [List.sum_cons, List.length_cons, Nat.mul_succ]
    omega
theorem pathLenY {p : List UInt8} (h : isPathB p = true) : p.length ≤ 100 := by
  have hs : (spl 47 p).length ≤ 5 ∧ namesB false (spl 47 p) = true := by
    unfold isPathB partsL at h
    split at h
    · rename_i hc; exact hc
    · cases h
  have h1 := spl_lensY p
  have h2 := sum_leY (k := 13) ((spl 47 p).map fun t => t.length + 1) (fun x hx => by
    obtain ⟨t, ht, rfl⟩ := List.mem_map.1 hx
    have hn := (List.all_eq_true.1 hs.2) t ht
    unfold nameB at hn
    simp only [Bool.and_eq_true, decide_eq_true_eq] at hn
    omega)
  rw [List.length_map] at h2
  have := hs.1
  omega
theorem Good.klen {m : List Ent} (h : Good m) : ∀ x ∈ m, x.1.length ≤ 100 := fun x hx => pathLenY (h.path x.1 (List.mem_map.2 ⟨x, hx, rfl⟩))
theorem ownsRow_spot {w : World} {B : Nat} {e : TypeId} {z : Nat} {v : Value} {n : Nat} {xs : List Value} (h : w.ownsRow B e z v n xs) : ∀ ad n c, v = .slice (some ad) n c → ad.spot = none := by
  intro ad k c hv
  rcases h.2 with ⟨h1, -⟩ | ⟨g, cap, cur, h1, -⟩
  · rw [h1] at hv; cases hv
  · rw [h1] at hv; cases hv; rfl
theorem yrules_own {S : Nat → Addr} {B B' : Nat} {Y : YPl} {vl lv v : Value} {R R' : List RV} {m mo : List Ent} {c : CS} (w : World) (h : YAt B Y vl lv R m mo c w) (ho : OwnAt B' w v R') (hlow : Y.yb < B') (hm : Ml w) (hE : KErr w S) (hN : NErr w) (ht : Tab w)
    (hb : ∀ x ∈ R', x.1.out.length ≤ 1000000 ∧ x.1.word.length ≤ 100000 ∧ (∀ s ∈ x.1.ins, s.length ≤ 1000000) ∧ x.1.ins.length ≤ 1000) (hn : R'.length ≤ 1000) :
    Calls Tryz.prog 14 #[ptrV Y.yb, v] w (YRulesAns S B Y vl lv R m mo c R' w) :=
  yrules_any w h R' v (fun wl hf => (own_rulesT ⟨_, own_fr ho hf (fun q hq => ⟨(rown_lt ho hq).2, fun e => by have := (rown_lt ho hq).1; omega⟩)⟩).1) (own_rulesT ⟨_, ho⟩).2 (ownsRow_spot ho.1) hm hE hN ht hb hn
end Go.Proofs.YtgjialbmlhbngaaGreatDoor
