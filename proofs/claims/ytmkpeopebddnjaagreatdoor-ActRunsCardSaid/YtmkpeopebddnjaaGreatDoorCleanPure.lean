/-
  Cleaning a text: the plain function.
-/
import Derived.Test.YtmkpeopebddnjaaGreatDoorPathP
namespace Go.Proofs.YtmkpeopebddnjaaGreatDoor
open Go Go.RowKit Go.Kf

/-- One part of a text that is cleaned; none: it has gone up too far. -/
def cleanStep : Option (List (List UInt8)) → List UInt8 → Option (List (List UInt8))
  | none, _ => none
  | some out, x => if x = [] ∨ x = [46] then some out else if x = [46, 46] then (if out = [] then none else some out.dropLast) else some (out ++ [x])
def cleanFold (l : List (List UInt8)) : Option (List (List UInt8)) := l.foldl cleanStep (some [])
theorem cleanFold_snoc (l : List (List UInt8)) (x : List UInt8) : cleanFold (l ++ [x]) = cleanStep (cleanFold l) x := by
  unfold cleanFold; rw [List.foldl_append]; rfl
theorem cleanStep_none : ∀ l : List (List UInt8), l.foldl cleanStep none = none
  | [] => rfl
  | x :: l => by rw [List.foldl_cons]; exact cleanStep_none l
theorem cleanFold_prefix {p l : List (List UInt8)} (h : p <+: l) (hn : cleanFold p = none) : cleanFold l = none := by
  obtain ⟨q, rfl⟩ := h
  unfold cleanFold at *
  rw [List.foldl_append, hn]
  exact cleanStep_none q
theorem foldl_step_len : ∀ (l : List (List UInt8)) (a out : List (List UInt8)), l.foldl cleanStep (some a) = some out → out.length ≤ a.length + l.length ∧ ∀ n, (∀ s ∈ a, s.length ≤ n) → (∀ s ∈ l, s.length ≤ n) → ∀ s ∈ out, s.length ≤ n
  | [], a, out, h => by
    simp only [List.foldl_nil, Option.some.injEq] at h
    subst h
    exact ⟨by simp, fun n h _ => h⟩
  | x :: l, a, out, h => by
    rw [List.foldl_cons] at h
    cases hs : cleanStep (some a) x with
    | none => rw [hs, cleanStep_none] at h; cases h
    | some b =>
      rw [hs] at h
      obtain ⟨h1, h2⟩ := foldl_step_len l b out h
      simp only [cleanStep] at hs
      split at hs
      · cases hs
        exact ⟨by simp; omega, fun n ha hl => h2 n ha (fun s hs => hl s (List.mem_cons_of_mem _ hs))⟩
      · split at hs
        · split at hs
          · cases hs
          · cases hs
            exact ⟨by simp at h1 ⊢; omega, fun n ha hl => h2 n (fun s hs => ha s (List.dropLast_subset _ hs)) (fun s hs => hl s (List.mem_cons_of_mem _ hs))⟩
        · cases hs
          exact ⟨by simp at h1 ⊢; omega, fun n ha hl => h2 n (fun s hs => by
            rcases List.mem_append.1 hs with hs | hs
            · exact ha s hs
            · simp only [List.mem_singleton] at hs; subst hs; exact hl _ List.mem_cons_self) (fun s hs => hl s (List.mem_cons_of_mem _ hs))⟩
theorem cleanFold_len {l out : List (List UInt8)} (h : cleanFold l = some out) : out.length ≤ l.length := by
  have := (foldl_step_len l [] out h).1
  simpa using this
theorem cleanFold_mem {l out : List (List UInt8)} (h : cleanFold l = some out) {n : Nat} (hl : ∀ s ∈ l, s.length ≤ n) : ∀ s ∈ out, s.length ≤ n :=
  (foldl_step_len l [] out h).2 n (fun s hs => by simp at hs) hl

/-- What is made of the parts that are left. -/
def finR : Option (List (List UInt8)) → List UInt8 × Nat
  | none => ([], 3)
  | some [] => ([], 6)
  | some (x :: out) => if partsL (Lib.join (x :: out) [47]) false = [] then ([], 4) else (Lib.join (x :: out) [47], 0)
/-- A text cleaned; the error's number. -/
def cleanR (s : List UInt8) : List UInt8 × Nat := if 200 < s.length then ([], 2) else finR (cleanFold (spl 47 s))
/-- An error by its number. -/
def codeV (S : Nat → Addr) (c : Nat) : Value := if c = 0 then .nilIface else errI (S (c - 1))
end Go.Proofs.YtmkpeopebddnjaaGreatDoor
