/-
  strings.Builder, written beside other slices of the call's own.
-/
import Derived.Test.YtmlmogllgnfklaaGreatDoorBuild
import Derived.Test.YtmlmogllgnfklaaGreatDoorShelf
namespace Go.Proofs.YtmlmogllgnfklaaGreatDoor
open Go Go.RowKit Go.Kf

/-- A builder in block b holds the bytes bs; its buffer lies at lim or behind it. -/
def BldAt (p : Value) (lim b : Nat) (bs : List Value) (w : World) : Prop :=
  ∃ v, w.heap[b]? = some (.cells #[p, v] 91 (0, 0)) ∧ w.ownsRow lim 5 1 v bs.length bs ∧ b < lim
def Bld (lim b : Nat) (bs : List Value) (w : World) : Prop := BldAt (.pointer none) lim b bs w ∨ BldAt (.pointer (some ⟨b, 0, none⟩)) lim b bs w

theorem BldAt.is {p : Value} {lim b : Nat} {bs : List Value} {w : World} (h : BldAt p lim b bs w) : Lib.BuilderAt 91 5 b b p bs w := by
  obtain ⟨v, hb, ho, hl⟩ := h
  refine ⟨Nat.le_refl _, v, hb, ownsRow_base ho (by omega), fun e => ?_⟩
  have := (ho.lt b e).1
  omega
theorem Bld.is {lim b : Nat} {bs : List Value} {w : World} (h : Bld lim b bs w) : Lib.IsBuilder 91 5 b b bs w := h.imp BldAt.is BldAt.is
theorem Bld.fresh {lim b : Nat} {w : World} (h : w.heap[b]? = some (.cells #[.pointer none, .slice none 0 0] 91 (0, 0))) (hl : b < lim) : Bld lim b [] w :=
  Or.inl ⟨_, h, World.ownsRow_nil _ _ _ _, hl⟩
theorem BldAt.of_fr {p : Value} {lim b : Nat} {bs : List Value} {w w' : World} (h : BldAt p lim b bs w) {B : Nat} {S : Nat → Prop} (hf : Fr B S w w') (hB : w.heap.size ≤ B) (hS : ∀ k, S k → k < lim ∧ k ≠ b) : BldAt p lim b bs w' := by
  obtain ⟨v, hb, ho, hl⟩ := h
  refine ⟨v, (hf.block b (Nat.lt_of_lt_of_le (lt_of_heap hb) hB) (fun hs => (hS b hs).2 rfl)).trans hb, ownsRow_fr ho hf (fun k hk => ⟨?_, fun hs => ?_⟩), hl⟩
  · have := (ho.lt k hk).2
    omega
  · have := (ho.lt k hk).1
    have := (hS k hs).1
    omega
theorem Bld.of_fr {lim b : Nat} {bs : List Value} {w w' : World} (h : Bld lim b bs w) {B : Nat} {S : Nat → Prop} (hf : Fr B S w w') (hB : w.heap.size ≤ B) (hS : ∀ k, S k → k < lim ∧ k ≠ b) : Bld lim b bs w' :=
  h.imp (fun h => h.of_fr hf hB hS) (fun h => h.of_fr hf hB hS)
theorem Bld.below {lim b : Nat} {bs : List Value} {w w' : World} (h : Bld lim b bs w) (hb : Below w.heap.size w w') : Bld lim b bs w' :=
  h.of_fr (S := fun _ => False) (Fr.of_below hb) (Nat.le_refl _) (fun _ h => h.elim)

theorem copyCheck_bld (lim b : Nat) (bs : List Value) (w : World) (h : Bld lim b bs w) :
    Calls Tryz.prog 76 #[.pointer (some ⟨b, 0, none⟩)] w fun e w' => e = .returned (.tuple #[]) ∧ BldAt (.pointer (some ⟨b, 0, none⟩)) lim b bs w' ∧ Fr lim (fun k => k = b) w w' ∧ w'.heap.size = w.heap.size := by
  rcases h with h | h
  · refine (copyCheck_fresh b w h.is.cell0 h.is.shape h.is.frozen0).mono ?_
    rintro e w' ⟨rfl, rfl⟩
    obtain ⟨v, hb, ho, hl⟩ := h
    have hF : Fr w.heap.size (fun k => k = b) w (w.setCell ⟨b, 0, none⟩ (.pointer (some ⟨b, 0, none⟩))) := Fr.setCell (S := fun k => k = b) (p := ⟨b, 0, none⟩) (.refl _ _ _) (fun _ => rfl) _
    refine ⟨rfl, ⟨v, (Kf.heap_setCell_same hb _).trans rfl, ownsRow_fr ho hF (fun k hk => ⟨(ho.lt k hk).2, fun e => ?_⟩), hl⟩, Fr.setCell (S := fun k => k = b) (p := ⟨b, 0, none⟩) (.refl _ _ _) (fun _ => rfl) _, by simp [World.setCell]⟩
    have := (ho.lt k hk).1
    omega
  · refine (copyCheck_used b w h.is.cell0).mono ?_
    rintro e w' ⟨rfl, rfl⟩
    exact ⟨rfl, h, .refl _ _ _, rfl⟩

set_option maxHeartbeats 2000000 in
set_option maxRecDepth 100000 in
theorem writeString_bld (lim b : Nat) (bs : List Value) (s : ByteArray) (w : World) (h : Bld lim b bs w) (hlen : bs.length + s.size ≤ 140737488355328) (hlw : lim ≤ w.heap.size) :
    Calls Tryz.prog 52 #[.pointer (some ⟨b, 0, none⟩), .string s] w fun e w' => e = .returned (.tuple #[.int .i64 s.size, .nilIface]) ∧ Bld lim b (bs ++ Lib.strCells s) w' ∧ Fr lim (fun k => k = b) w w' := by
  obtain ⟨i0, hi, hz0, hz1, hz2⟩ := info_parts byteInfo
  go_enter Tryz.func52, Tryz.ntmps52
  go_wp2_with fail
  refine (copyCheck_bld lim b bs _ h).mono ?_
  rintro e w1 ⟨rfl, h1, hf1, hz1'⟩
  obtain ⟨v, hbk, hown, hbl⟩ := h1
  have hne : v.ownBlock ≠ some b := fun e => by have := (hown.lt b e).1; omega
  have hlw1 : lim ≤ w1.heap.size := by omega
  clear hz1'
  have c0 : w1.cell? ⟨b, 0, none⟩ = some (.pointer (some ⟨b, 0, none⟩)) := by rw [Lib.cell_of_heap hbk]; rfl
  have c1 : w1.cell? ⟨b, 1, none⟩ = some v := by rw [Lib.cell_of_heap hbk]; rfl
  go_wp2_with (at_builtin; refine Lib.wpList_append_own_string _ rfl _ _ 89 9 rfl lim 5 i0 Tryz.underlying89 Tryz.underlying9 hi hz0 hz1 hz2 _ _ _ rfl hown s rfl ?c3 ?c4 ?c5 ?_)
  case c3 => unfold maxLen; omega
  case c4 => omega
  case c5 => exact hlw1
  intro v' w2 hown' hgrow _
  have hlt : b < w1.heap.size := by omega
  have hb2 : w2.heap[b]? = some (.cells #[.pointer (some ⟨b, 0, none⟩), v] 91 (0, 0)) := by
    rw [hgrow.block b hlt (fun e => hne e.symm)]
    exact hbk
  have d0 : w2.cell? ⟨b, 0, none⟩ = some (.pointer (some ⟨b, 0, none⟩)) := by rw [Lib.cell_of_heap hb2]; rfl
  have d1 : w2.cell? ⟨b, 1, none⟩ = some v := by rw [Lib.cell_of_heap hb2]; rfl
  have f1 : w2.frozen? ⟨b, 1, none⟩ = false := Lib.frozen_of_heap hb2 1
  have hf2 : Fr lim (fun k => k = b) w w2 := hf1.grown hgrow hlw1 (fun k hk hkl => by have := (hown.lt k hk).1; omega)
  obtain ⟨ao, n', cap, rfl⟩ : ∃ ao n' cap, v' = .slice ao n' cap := by
    rcases hown'.2 with ⟨hv, _⟩ | ⟨g, cap, cur, hv, _⟩
    · exact ⟨_, _, _, hv⟩
    · exact ⟨_, _, _, hv⟩
  have H2 := Lib.hid hb2
  have HO := Lib.hid hown'
  have HF := Lib.hid hf2
  clear hf1 hgrow hown hb2 hown' hf2
  go_wp2
  go_ret2
  have hF : Fr w2.heap.size (fun k => k = b) w2 (w2.setCell ⟨b, 1, none⟩ (.slice ao n' cap)) := Fr.setCell (S := fun k => k = b) (p := ⟨b, 1, none⟩) (.refl _ _ _) (fun _ => rfl) _
  refine ⟨rfl, Or.inr ⟨.slice ao n' cap, (Kf.heap_setCell_same H2.out _).trans rfl, ?_, hbl⟩, Fr.setCell (S := fun k => k = b) (p := ⟨b, 1, none⟩) HF.out (fun _ => rfl) _⟩
  refine ownsRow_fr (by simpa [Lib.strCells_length] using HO.out) hF (fun k hk => ⟨(HO.out.lt k hk).2, fun e => ?_⟩)
  have := (HO.out.lt k hk).1
  omega

theorem string_bld (lim b : Nat) (l : List UInt8) (w : World) (h : Bld lim b (Lib.byteCells l) w) (hbw : b ≤ w.heap.size) :
    Calls Tryz.prog 55 #[.pointer (some ⟨b, 0, none⟩)] w fun e w' => e = .returned (str l) ∧ Below b w w' :=
  Tryz.Builder_String_any b b l w h.is hbw
end Go.Proofs.YtmlmogllgnfklaaGreatDoor
