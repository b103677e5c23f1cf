/-
  What a row's list of sentinels gives a walk: each variable holds a pointer to a block of its own, no two alike, none frozen; errors.errorType holds the type error. Cleaning a text: the plain function.
-/
import Derived.Test.YtgjialbmlhbngaaGreatDoorPkA
import Derived.Stop.LaidErr
import Derived.Test.YtgjialbmlhbngaaGreatDoorPkB

namespace Go.Kf
open Go Go.RowKit
theorem laid_sentinels {P : Program} {nm : String} {W : World} {ti tp te ts : TypeId} {ms : Array (String × TypeId)} {f : Field}
    (hi : P.underlying ti = some (.interface ms)) (hrow : ∀ u, P.typeName? 3 u = some nm → u = tp)
    (hp : P.underlying tp = some (.pointer te)) (he : P.underlying te = some (.struct #[f])) (hft : f.type = ts) (hfo : f.offset = 0) (hs : P.underlying ts = some .string) (hc : P.cellsOf te = 1) (hcs : P.cellsOf ts = 1) (rest : List (String × DataW Unit)) :
    ∀ (l : List (String × List UInt8 × Nat)) (ps : List MemPlace), DataW.LaidVars P W ((l.map fun s => (s.1, .iface nm (.ptr (.agg [.lit (.string s.2.1)])))) ++ rest) ps →
      (∀ s ∈ l, P.globalNamed s.1 = some s.2.2 ∧ (P.globals[s.2.2]?).map (·.type) = some ti) → ps.Nodup →
      (∀ b off, MemPlace.cell b off ∈ ps → (∃ c t, W.heap[b]? = some (.cells c t (0, 0))) ∧ ∀ u v, W.cell? ⟨b, off, none⟩ = some (.iface u v) → Value.okWide P W .any 0 u v) →
      ∃ az : List Addr, az.length = l.length ∧ az.Nodup ∧ (∀ a ∈ az, MemPlace.cell a.block a.off ∈ ps) ∧
        ∀ (i : Nat) (s : String × List UInt8 × Nat) (a : Addr), l[i]? = some s → az[i]? = some a → W.cell? ⟨s.2.2, 0, none⟩ = some (.iface tp (.pointer (some a)))
  | [], ps, h, _, _, _ => ⟨[], rfl, List.nodup_nil, fun a ha => by simp at ha, fun i s a h1 _ => by simp at h1⟩
  | s :: l, ps, h, hg, hnd, hrows => by
    obtain ⟨g, t, cs, fu, p, q, hg', ht', hv, hd, hr, rfl⟩ := h
    obtain ⟨hg0, ht0⟩ := hg s (List.mem_cons_self)
    obtain rfl := Option.some.inj (hg0.symm.trans hg')
    obtain rfl := Option.some.inj (ht0.symm.trans ht')
    obtain ⟨l0⟩ := cs
    have ok0 : ∀ u v, l0 = [.iface u v] → Value.okWide P W .any 0 u v := fun u v e => by
      subst e
      exact (hrows s.2.2 0 (by simp [MemPlace.row])).2 u v (by simpa using World.var?_cell hg' hv 0)
    obtain ⟨a0, s0, rfl, hc0, hs0, hz0, rfl⟩ := errorString_of_trod hi hrow hp he hft hfo hs hc hcs hd ok0
    obtain ⟨hn1, hn2, hn3⟩ := List.nodup_append.1 hnd
    obtain ⟨az, hlen, hnod, hin, hall⟩ := laid_sentinels hi hrow hp he hft hfo hs hc hcs rest l q hr (fun x hx => hg x (List.mem_cons_of_mem _ hx)) hn2 (fun b off hb => hrows b off (List.mem_append_right _ hb))
    refine ⟨a0 :: az, by simp [hlen], List.nodup_cons.2 ⟨fun hm => ?_, hnod⟩, fun a ha => ?_, fun i x a h1 h2 => ?_⟩
    · exact hn3 (.cell a0.block a0.off) (by simp [MemPlace.row]) _ (hin a0 hm) rfl
    · rcases List.mem_cons.1 ha with rfl | ha
      · simp [MemPlace.row]
      · exact List.mem_append_right _ (hin a ha)
    · cases i with
      | zero =>
        simp only [List.getElem?_cons_zero, Option.some.injEq] at h1 h2
        subst h1 h2
        simpa using World.var?_cell hg' hv 0
      | succ i =>
        simp only [List.getElem?_cons_succ] at h1 h2
        exact hall i x a h1 h2
end Go.Kf

namespace Go.Proofs.YtgjialbmlhbngaaGreatDoor
open Go Go.RowKit Go.Kf
def codeV (S : Nat → Addr) (c : Nat) : Value := if c = 0 then .nilIface else errI (S (c - 1))
end Go.Proofs.YtgjialbmlhbngaaGreatDoor
