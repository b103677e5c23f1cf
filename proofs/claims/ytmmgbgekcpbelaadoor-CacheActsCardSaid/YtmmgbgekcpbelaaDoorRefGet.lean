/-
  The walk of the model cache's Get.
-/
import Derived.Test.YtmmgbgekcpbelaaDoorActsPure
namespace Go.Proofs.YtmmgbgekcpbelaaDoor
open Go Go.RowKit Go.Kf

/-- What the model's Get leaves. -/
def refGet (many : Nat) (key : List UInt8) (es : List EntL) : List EntL :=
  match mlook key es with
  | none => es
  | some s => refPut many key s es
theorem look_noKey {es : List EntL} {key : List UInt8} (h : NoKey es key) : mlook key es = none := mlook_none.2 h
theorem look_keyAt : ∀ {es : List EntL} {key : List UInt8} {i : Nat}, KeyAt es key i → ∃ h : i < es.length, mlook key es = some es[i].2
  | [], _, _, ⟨h, _, _⟩ => by simp at h
  | e :: es, key, i, ⟨h, h1, h2⟩ => by
    refine ⟨h, ?_⟩
    cases i with
    | zero =>
      simp only [List.getElem_cons_zero] at h1 ⊢
      unfold mlook
      rw [if_pos h1]
    | succ i =>
      simp only [List.getElem_cons_succ] at h1 ⊢
      simp only [List.take_succ_cons, List.map_cons, List.mem_cons, not_or] at h2
      unfold mlook
      rw [if_neg (fun e => h2.1 e.symm)]
      obtain ⟨_, h3⟩ := look_keyAt (es := es) (key := key) (i := i) ⟨by simpa using h, h1, h2.2⟩
      exact h3

set_option maxRecDepth 100000 in
theorem refGet_any (rb : Nat) (lv : Value) (many : Nat) (es : List EntL) (key : List UInt8) (w : World) (h : RefAt w rb lv many es) (hlv : ∀ k, lv.ownBlock = some k → k < w.heap.size) (hm : es.length ≤ 1000) (h1 : 1 ≤ many) :
    Calls Tryd.prog 23 #[.pointer (some ⟨rb, 0, none⟩), str key] w fun e w' =>
      e = .returned (.tuple #[str ((mlook key es).getD []), .bool (mlook key es).isSome]) ∧
      ∃ lv', RefAt w' rb lv' many (refGet many key es) ∧ Fr w.heap.size (fun k => k = rb) w w' ∧ (∀ k, lv'.ownBlock = some k → lv.ownBlock = some k ∨ (w.heap.size ≤ k ∧ k < w'.heap.size)) := by
  have hle := h.row.le
  have hr := h.row
  obtain ⟨a, cap, rfl, -, -⟩ := hr
  simp only [List.length_map] at *
  have c1 : w.cell? ⟨rb, 1, none⟩ = some (.slice a es.length cap) := by rw [cell_of_heap h.blk]; rfl
  have HH := Lib.hid h
  clear h
  go_enter Tryd.func23, Tryd.ntmps23
  go_wp2_with fail
  go_at_call 47
  refine (find_any rb _ many es key _ HH.out).mono ?_
  rintro e w' ⟨rfl, ⟨rfl, hno⟩ | ⟨i, rfl, hat⟩⟩
  · have HL := Lib.hid (look_noKey hno)
    clear hno
    go_wp2
    go_ret2
    rw [HL.out]
    refine ⟨rfl, _, ?_, .refl _ _ _, fun k hk => Or.inl hk⟩
    unfold refGet
    rw [HL.out]
    exact HH.out
  · obtain ⟨hi, hlk⟩ := look_keyAt hat
    have HL := Lib.hid hlk
    clear hlk hat
    obtain ⟨b, o, hix, -, hce⟩ := HH.out.row.at (P := Tryd.prog) Tryd.underlying49 (by kernel_rfl) i (by simpa using hi)
    have e1 : w.cell? ⟨b, o + 1, none⟩ = some (str es[i].2) := hce 1 _ (by simp)
    clear hce
    go_wp2_with fail
    go_at_call 22
    refine (refPut_any rb _ many es key es[i].2 _ HH.out hlv hm h1).mono ?_
    rintro e w2 ⟨rfl, lv', hR, hF, hown⟩
    go_wp2
    go_ret2
    rw [HL.out]
    refine ⟨rfl, lv', ?_, hF, fun k hk => Or.inr (hown k hk)⟩
    unfold refGet
    rw [HL.out]
    exact hR

/-- coded of the second package, where the error's number is the one that is wanted. -/
theorem coded2_yes (v : Value) (n : Int) (w : World) (h : Calls Tryd.prog 18 #[v] w fun e w' => e = .returned (.tuple #[.int .i64 n, .int .i64 (-1)]) ∧ Below w.heap.size w w') :
    Calls Tryd.prog 21 #[v, .int .i64 n] w fun e w' => e = .returned (.bool true) ∧ Below w.heap.size w w' := by
  have H := Lib.hid h
  clear h
  go_enter Tryd.func21, Tryd.ntmps21
  go_wp2_with fail
  go_at_call 18
  refine H.out.mono ?_
  rintro e w' ⟨rfl, hb⟩
  go_wp2
  go_ret
  exact ⟨rfl, hb⟩
end Go.Proofs.YtmmgbgekcpbelaaDoor
