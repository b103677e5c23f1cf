/-
  The walk of the law BuildOnce.   Steps: built, longFiles, LongRules, len(runs); fileTree; loop (append the outs); OwnRules, build.New; make; loop (Ready, loop (State, loop (NeedsRule, State)), Run, store); loop (State, loop (NeedsRule, State)); Over.
-/
import Derived.Test.YtgjialbmlhbngaaGreatDoorBdE
import Derived.Test.YtgjialbmlhbngaaGreatDoorPkQ
import Derived.Test.YtgjialbmlhbngaaGreatDoorPkI
import Derived.Test.YtgjialbmlhbngaaGreatDoorPkG
import Derived.Test.YtgjialbmlhbngaaGreatDoorWtA

namespace Go.Proofs.YtgjialbmlhbngaaGreatDoor
open Go Go.RowKit Go.Kf Go.Sort Go.Proofs

theorem once_env {R : List RV} {S : Nat → Addr} {m : List Ent} {w : World} (hs : ∀ x ∈ R, ShortR x.1) (hf : ∀ p b, mlook p m = some b → b.length ≤ 2000) (h : Ml w ∧ BErr w S ∧ NErr w ∧ Tab w) : BEnv S (R.map Prod.fst) m w :=
  ⟨h.1, h.2.1, h.2.2.1, h.2.2.2, fun r hr => by
    obtain ⟨x, hx, rfl⟩ := List.mem_map.1 hr
    obtain ⟨h1, h2, h3, h4⟩ := hs x hx
    exact ⟨by omega, by omega, by omega, fun s hs => by have := h4.2.1 s hs; omega, by have := h4.1; omega⟩, hf⟩

end Go.Proofs.YtgjialbmlhbngaaGreatDoor
