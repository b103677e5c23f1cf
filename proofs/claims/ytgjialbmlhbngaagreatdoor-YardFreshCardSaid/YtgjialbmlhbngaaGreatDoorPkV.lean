/-
  errors.Is and errors.As by their contracts, at the errors that this program makes: a sentinel (a pointer to an errors.errorString) and a *api.Fault round one.
-/
import Derived.Test.YtgjialbmlhbngaaGreatDoorPkA
import Derived.Test.YtgjialbmlhbngaaGreatDoorChecked
import Derived.LaidEql
import Derived.Stop.Asserts
import Derived.RowKitTokens

namespace Go.Proofs.YtgjialbmlhbngaaGreatDoor
open Go Go.RowKit Go.Kf Go.Extern.Stop Go.Stop Go.Extern

/-! ### Closed facts: types and method sets. -/
end Go.Proofs.YtgjialbmlhbngaaGreatDoor

/-
  errors.As by its contracts, at a target that is the address of a *api.Fault variable: a sentinel misses it, a fault hits it.
-/
namespace Go.Proofs.YtgjialbmlhbngaaGreatDoor
open Go Go.RowKit Go.Kf Go.Extern.Stop Go.Stop Go.Extern

/-! ### The entries that read or write memory. -/
end Go.Proofs.YtgjialbmlhbngaaGreatDoor
