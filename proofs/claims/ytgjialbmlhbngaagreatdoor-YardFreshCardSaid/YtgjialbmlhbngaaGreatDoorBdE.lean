/-
  The laws' built, in plain Lean: one rule, one file: it runs, and is had again. The laws' built: a rule runs, and is had again. BuildOnce, in plain Lean: all rules are made; each runs once.
-/
import Derived.Test.YtgjialbmlhbngaaGreatDoorBdA
import Derived.Test.YtgjialbmlhbngaaGreatDoorBdB
import Derived.Test.YtgjialbmlhbngaaGreatDoorPkO
import Derived.Test.YtgjialbmlhbngaaGreatDoorBdD
import Derived.Test.YtgjialbmlhbngaaGreatDoorPkG
import Derived.Test.YtgjialbmlhbngaaGreatDoorPkH

namespace Go.Proofs.YtgjialbmlhbngaaGreatDoor
open Go Go.RowKit Go.Kf Go.Sort Go.Proofs

def cs0 : CS := ⟨3, [], []⟩
theorem act1 : actOf [117, 112, 112, 101, 114] [] [[120]] = (0, [88]) := by decide +kernel
theorem one_edges : edgesB oneL 0 = [] := by decide +kernel
theorem one_inP : inP oneL [0] (fun p => mlook p aFiles) (fun _ => st0) [97] = some [120] := by decide +kernel
theorem one_ready : ReadyP oneL (fun _ => st0) 0 := ⟨rfl, fun k hk => by rw [one_edges] at hk; cases hk⟩
theorem one_ins {ins : List (List UInt8)} (h : (oneL.getD 0 noR).ins.map (inP oneL [0] (fun p => mlook p aFiles) (fun _ => st0)) = ins.map some) : ins = [[120]] := by
  have e : (oneL.getD 0 noR).ins = [[97]] := rfl
  rw [e, List.map_cons, List.map_nil, one_inP] at h
  match ins, h with
  | [x], h =>
    simp only [List.map_cons, List.map_nil, List.cons.injEq, Option.some.injEq, and_true] at h
    rw [h]
theorem one_part {N : List Nat} (hN : (0 : Nat) ∈ N) : needL oneL.length N = [0] := by
  show (List.range 1).filter (fun k => N.contains k) = [0]
  rw [show List.range 1 = [0] from rfl, List.filter_cons_of_pos (by simpa using hN)]
  rfl
end Go.Proofs.YtgjialbmlhbngaaGreatDoor

namespace Go.Proofs.YtgjialbmlhbngaaGreatDoor
open Go Go.RowKit Go.Kf Go.Sort Go.Proofs

theorem env_one {w : World} {S : Nat → Addr} (hm : Ml w) (hE : BErr w S) (hN : NErr w) (ht : Tab w) : BEnv S oneL aFiles w :=
  ⟨hm, hE, hN, ht, fun r hr => by obtain rfl := List.mem_singleton.1 hr; exact ⟨by simp, by simp, by simp, fun s hs => (by obtain rfl := List.mem_singleton.1 hs; simp), by simp⟩,
    fun p b hp => by
      unfold aFiles mlook at hp
      split at hp
      · cases hp; simp
      · cases hp⟩
/-- What New of the one rule answers. -/
theorem new_one {S : Nat → Addr} {m : List Ent} {cv : Value} {B : Nat} {e : Ending} {w' : World} (h : BNewAns S oneL [[98]] m cv B e w') : ∃ D : BPl, e = .returned (.tuple #[ptrV D.b, .nilIface]) ∧ D.cv = cv ∧ PartOk oneL [0] ∧ BAt S oneL [0] m D w' (fun _ => st0) ∧ ∀ k, D.has [0] k → B ≤ k := by
  have hpl0 : ∀ {ks : List Nat}, PlacesAt oneL [[98]] ks → 0 ∈ ks := by
    intro ks h
    obtain ⟨h1, h2⟩ := h
    match ks, h1, h2 with
    | k :: _, h1, _ =>
      have : k < 1 := h1 k List.mem_cons_self
      obtain rfl : k = 0 := by omega
      exact List.mem_cons_self
  rcases h with ⟨T, x, -, hbad | ⟨-, i, g, hi, -, hno, -⟩ | ⟨-, ks, N, hpl, hN, ho, -⟩⟩ | ⟨ks, N, o, D, hpl, hN, ho, hord, rfl, hcv, hat, hB⟩
  · exact absurd oneL_right hbad.wrong
  · have : i = 0 := by simp at hi; omega
    subst this
    exact absurd (show [98] ∈ oneL.map RuleL.out by decide) hno
  · exfalso
    rw [one_part ((hN 0).2 (.base (hpl0 hpl)))] at ho
    have : orderB (edgesB oneL) (fun k => [0].contains k) oneL.length = some [0] := by decide +kernel
    rw [this] at ho
    cases ho
  · rw [one_part ((hN 0).2 (.base (hpl0 hpl)))] at hord hat hB
    exact ⟨D, rfl, hcv, hord.ok, hat, hB⟩

end Go.Proofs.YtgjialbmlhbngaaGreatDoor

namespace Go.Proofs.YtgjialbmlhbngaaGreatDoor
open Go Go.RowKit Go.Kf Go.Sort Go.Proofs

/-- Where all outs are asked for, all rules are needed. -/
theorem all_needed {l : List RuleL} {ks N : List Nat} (hr : RightS l) (h : PlacesAt l (l.map RuleL.out) ks) (hN : ∀ k, k ∈ N ↔ Reach (edgesB l) ks k) : needL l.length N = List.range l.length := by
  have hk : ∀ k, k < l.length → k ∈ N := fun k hk => (hN k).2 (.base ((h.mem hr.2 hk).2 (List.mem_map.2 ⟨_, List.getElem_mem hk, rfl⟩)))
  unfold needL
  rw [List.filter_eq_self]
  intro k hkr
  exact List.contains_iff_mem.2 (hk k (List.mem_range.1 hkr))
end Go.Proofs.YtgjialbmlhbngaaGreatDoor
