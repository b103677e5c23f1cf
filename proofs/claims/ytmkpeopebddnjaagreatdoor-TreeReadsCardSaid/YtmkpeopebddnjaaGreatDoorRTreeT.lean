/-
  The reference's tree: Text, Remove, Put.
-/
import Derived.Test.YtmkpeopebddnjaaGreatDoorRTree
import Derived.Test.YtmkpeopebddnjaaGreatDoorTreeP
import Derived.Laws.AppendOwnNone
namespace Go.Proofs.YtmkpeopebddnjaaGreatDoor
open Go Go.RowKit Go.Kf Go.Sort

def linesL (L : List Ent) : List UInt8 := (L.map fun x => lineL x.1 x.2).flatten
theorem linesL_snoc (L : List Ent) (x : Ent) : linesL (L ++ [x]) = linesL L ++ lineL x.1 x.2 := by simp [linesL]
theorem linesL_len : ∀ {L : List Ent}, (∀ x ∈ L, x.1.length ≤ 1000 ∧ x.2.length ≤ 10000) → (linesL L).length ≤ 12000 * L.length
  | [], _ => by simp [linesL]
  | x :: L, h => by
    have h1 := lineL_len (h x List.mem_cons_self).1 (h x List.mem_cons_self).2
    have ih := linesL_len (L := L) (fun q hq => h q (List.mem_cons_of_mem _ hq))
    unfold linesL at ih ⊢
    simp only [List.map_cons, List.flatten_cons, List.length_append, List.length_cons]
    omega

set_option maxHeartbeats 2000000 in
set_option maxRecDepth 100000 in
theorem rtext_any (base rb : Nat) (lv : Value) (L : List Ent) (w : World) (h : RTAt base w rb lv L) (hn : L.length ≤ 1000) (hx : ∀ x ∈ L, x.1.length ≤ 1000 ∧ x.2.length ≤ 10000) :
    Calls Tryz.prog 22 #[.pointer (some ⟨rb, 0, none⟩)] w fun e w' => e = .returned (str (linesL L)) ∧ Below w.heap.size w w' := by
  have HH := Lib.hid h
  have hr := h.reads
  have HX := Lib.hid hx
  obtain ⟨a, cap, rfl, -, -⟩ := id hr
  simp only [List.length_map] at *
  clear h hr hx
  go_enter Tryz.func22, Tryz.ntmps22
  go_wp2
  go_loopw [3, 4] (fun out i wl => ∃ k : Nat, k ≤ L.length ∧ i = .int .i64 k ∧ out = str (linesL (L.take k)) ∧ Below w.heap.size w wl) (fun _ i _ => L.length - (intOf i).toNat)
  case atStart => exact ⟨0, by omega, rfl, by simp [linesL], Below.refl _ _⟩
  case round =>
    obtain ⟨k, hkl, rfl, rfl, hbl⟩ := hrel
    have hh := HH.out.below hbl
    have c1 := hh.cell
    have hrr := hh.reads
    have HB := Lib.hid hbl
    clear hbl hh
    by_cases hlt : k < L.length
    · obtain ⟨b, o, hix, -, hce⟩ := hrr.at (P := Tryz.prog) Tryz.underlying27 (by kernel_rfl) k (by simpa using hlt)
      have e0 : wr.cell? ⟨b, o, none⟩ = some (str L[k].1) := hce 0 _ (by simp)
      have e1 : wr.cell? ⟨b, o + 1, none⟩ = some (str L[k].2) := hce 1 _ (by simp)
      have HSN : Hid (linesL (L.take (k + 1)) = linesL (L.take k) ++ lineL L[k].1 L[k].2) := Lib.hid (by rw [List.take_succ_eq_append_getElem hlt, linesL_snoc])
      obtain ⟨hp1, hgb⟩ := HX.out _ (List.getElem_mem hlt)
      have hll : (linesL (L.take k)).length ≤ 12000 * 1000 := by
        refine Nat.le_trans (linesL_len (fun q hq => HX.out q (List.mem_of_mem_take hq))) (Nat.mul_le_mul_left _ ?_)
        rw [List.length_take]
        omega
      clear hce hrr
      obtain ⟨p, hp⟩ : ∃ p, L[k].1 = p := ⟨_, rfl⟩
      obtain ⟨c, hc⟩ : ∃ c, L[k].2 = c := ⟨_, rfl⟩
      rw [hp] at e0 HSN hp1
      rw [hc] at e1 HSN hgb
      clear hp hc
      have hdl := digits_le 4 c.length (by omega)
      obtain ⟨out, hout⟩ : ∃ x, linesL (L.take k) = x := ⟨_, rfl⟩
      rw [hout] at hll HSN ⊢
      clear hout
      obtain ⟨x0, hx0⟩ : ∃ x, out ++ p = x := ⟨_, rfl⟩
      obtain ⟨x1, hx1⟩ : ∃ x, x0 ++ [32] = x := ⟨_, rfl⟩
      obtain ⟨x2, hx2⟩ : ∃ x, x1 ++ Lib.decDigits c.length = x := ⟨_, rfl⟩
      obtain ⟨x3, hx3⟩ : ∃ x, x2 ++ [10] = x := ⟨_, rfl⟩
      obtain ⟨x4, hx4⟩ : ∃ x, x3 ++ c = x := ⟨_, rfl⟩
      obtain ⟨x5, hx5⟩ : ∃ x, x4 ++ [10] = x := ⟨_, rfl⟩
      have y0 : (⟨out.toArray⟩ : ByteArray) ++ (⟨p.toArray⟩ : ByteArray) = ⟨x0.toArray⟩ := by rw [← hx0, str_app]
      have y1 : (⟨x0.toArray⟩ : ByteArray) ++ (⟨#[32]⟩ : ByteArray) = ⟨x1.toArray⟩ := by rw [← hx1, show (⟨#[32]⟩ : ByteArray) = ⟨([32] : List UInt8).toArray⟩ from rfl, str_app]
      have y2 : (⟨x1.toArray⟩ : ByteArray) ++ (⟨(Lib.decDigits c.length).toArray⟩ : ByteArray) = ⟨x2.toArray⟩ := by rw [← hx2, str_app]
      have y3 : (⟨x2.toArray⟩ : ByteArray) ++ (⟨#[10]⟩ : ByteArray) = ⟨x3.toArray⟩ := by rw [← hx3, show (⟨#[10]⟩ : ByteArray) = ⟨([10] : List UInt8).toArray⟩ from rfl, str_app]
      have y4 : (⟨x3.toArray⟩ : ByteArray) ++ (⟨c.toArray⟩ : ByteArray) = ⟨x4.toArray⟩ := by rw [← hx4, str_app]
      have y5 : (⟨x4.toArray⟩ : ByteArray) ++ (⟨#[10]⟩ : ByteArray) = ⟨x5.toArray⟩ := by rw [← hx5, show (⟨#[10]⟩ : ByteArray) = ⟨([10] : List UInt8).toArray⟩ from rfl, str_app]
      have l0 : x0.length = out.length + p.length := by rw [← hx0]; simp
      have l1 : x1.length = x0.length + 1 := by rw [← hx1]; simp
      have l2 : x2.length = x1.length + (Lib.decDigits c.length).length := by rw [← hx2]; simp
      have l3 : x3.length = x2.length + 1 := by rw [← hx3]; simp
      have l4 : x4.length = x3.length + c.length := by rw [← hx4]; simp
      have HL5 : Hid (out ++ lineL p c = x5) := Lib.hid (by rw [← hx5, ← hx4, ← hx3, ← hx2, ← hx1, ← hx0]; simp [lineL])
      have hz0 : ¬ 9223372036854775807 < out.length + p.length := by omega
      have hz1 : ¬ 9223372036854775807 < x0.length + 1 := by omega
      have hz2 : ¬ 9223372036854775807 < x1.length + (Lib.decDigits c.length).length := by omega
      have hz3 : ¬ 9223372036854775807 < x2.length + 1 := by omega
      have hz4 : ¬ 9223372036854775807 < x3.length + c.length := by omega
      have hz5 : ¬ 9223372036854775807 < x4.length + 1 := by omega
      have hcl2 : c.length ≤ 1000000 := by omega
      have KS : Hid (∀ wq, Below wr.heap.size wr wq → wq.cell? ⟨rb, 0, none⟩ = some (.slice a L.length cap) ∧ wq.cell? ⟨b, o, none⟩ = some (str p) ∧ wq.cell? ⟨b, o + 1, none⟩ = some (str c)) := Lib.hid (fun wq hq =>
        ⟨(hq.cell (p := ⟨rb, 0, none⟩) (lt_of_cell c1)).trans c1, (hq.cell (p := ⟨b, o, none⟩) (lt_of_cell e0)).trans e0, (hq.cell (p := ⟨b, o + 1, none⟩) (lt_of_cell e1)).trans e1⟩)
      have BR := Lib.hid (Below.refl wr.heap.size wr)
      clear hx0 hx1 hx2 hx3 hx4 hx5 l0 l1 l2 l3 l4 hgb hdl hll
      go_wp2_with fail
      go_region_held3 (fun w' => w'.cell? ⟨rb, 0, none⟩ = some (.slice a L.length cap) ∧ w'.cell? ⟨b, o, none⟩ = some (str p) ∧ w'.cell? ⟨b, o + 1, none⟩ = some (str c))
        (first | exact KS.out _ HQ.out | exact KS.out _ BR.out.drew)
        (first | (go_at_call 30
                  refine (decimal_any c.length _ hcl2).mono ?_
                  rintro e w5 ⟨rfl, hb5⟩
                  have HQ : Hid (Below wr.heap.size wr w5) := Lib.hid (by first | exact hb5 | exact BR.out.drew.trans hb5)
                  clear hb5))
      all_goals
        have HW5 : Hid (Below w.heap.size w w5) := Lib.hid (HB.out.trans (HQ.out.mono HB.out.size))
        go_wp2
        go_roundw
        case rel => exact ⟨k + 1, by omega, by go_num, by rw [HSN.out, HL5.out], HW5.out⟩
        case measure => simp [intOf]; omega
    · obtain rfl : k = L.length := by omega
      rw [List.take_length]
      clear hrr
      go_wp2
      go_ret
      exact ⟨rfl, HB.out⟩
end Go.Proofs.YtmkpeopebddnjaaGreatDoor
