/-
  The reference's tree (kilnfieldref1.Tree): Find, Paths. The program's tree: Paths, Text. The reference's tree: Text, Remove, Put. The reference's tree: Remove, Put.
-/
import Derived.Test.YtgjialbmlhbngaaGreatDoorPkL
import Derived.Test.YtgjialbmlhbngaaGreatDoorPkD
import Derived.Test.YtgjialbmlhbngaaGreatDoorPkC
import Derived.Test.YtgjialbmlhbngaaGreatDoorPkH0
import Derived.BigQuiet
import Derived.Deep.RegionHeld3
import Derived.Laws.AppendOwnNone

namespace Go.Proofs.YtgjialbmlhbngaaGreatDoor
open Go Go.RowKit Go.Kf

end Go.Proofs.YtgjialbmlhbngaaGreatDoor

namespace Go.Proofs.YtgjialbmlhbngaaGreatDoor
open Go Go.RowKit Go.Kf Go.Sort

/-- The keys of a map, rising. -/
def sortK (m : List Ent) : List (List UInt8) := (m.map Prod.fst).mergeSort leB
theorem sortK_perm (m : List Ent) : (sortK m).Perm (m.map Prod.fst) := List.mergeSort_perm _ _
theorem sortK_len (m : List Ent) : (sortK m).length = m.length := by rw [(sortK_perm m).length_eq, List.length_map]

set_option maxRecDepth 100000 in
theorem paths_tree (tb mb : Nat) (m : List Ent) (w : World) (h : TAt w tb mb m) (hd : (m.map Prod.fst).Nodup) (hn : m.length ≤ 1000) (hk : ∀ x ∈ m, x.1.length ≤ 1000000) :
    Calls Tryz.prog 22 #[.pointer (some ⟨tb, 0, none⟩)] w fun e w' => ∃ v, e = .returned v ∧ w'.ownsRow w.heap.size 9 1 v m.length ((sortK m).map str) ∧ Below w.heap.size w w' := by
  obtain ⟨D, hown, hperm, hsz⟩ := ownsMap_of_mapIs (P := Tryz.prog) Tryz.underlying9 h.map (by unfold maxLen; omega) (fun p hp => by have := hk p hp; unfold maxLen; omega) hd
  have c0 := h.cell
  have K1 := Lib.hid (callsIn_wide.1 (Tryz.maps_Keys_78 (some mb) w))
  have K2 := Lib.hid (callsIn_wide.1 (Tryz.slices_Sorted_keys_77_78 mb m.length D _ w hown (by rw [hsz]; unfold maxLen; omega) (by rw [hsz]; omega)))
  have HP := Lib.hid hperm
  clear h hd hn hk hown hperm hsz
  go_enter Tryz.func22, Tryz.ntmps22
  go_wp2_with fail
  refine K1.out.mono ?_
  rintro e w1 ⟨rfl, hw1⟩
  rw [hw1]
  go_wp2_with fail
  refine K2.out.mono ?_
  rintro e w2 ⟨v, ss, rfl, hS, hrow, -, hb⟩
  have hss : ss.mergeSort leB = sortK m := mergeSort_of_perm (hS.trans HP.out)
  have hlen : ss.length = m.length := by rw [(hS.trans HP.out).length_eq, List.length_map]
  have hrow2 : w2.ownsRow w.heap.size 9 1 v m.length ((sortK m).map str) := by
    rw [← hlen, ← hss]
    exact ownsRow_base hrow (by simp)
  have hb2 : Below w.heap.size w w2 := ((Below.refl _ w).alloc (Nat.le_refl _) _).trans (hb.mono (by simp))
  clear hrow hb hS hss
  go_wp2
  go_ret
  exact ⟨v, rfl, hrow2, hb2⟩

/-- A file, as a text. -/
def lineL (p b : List UInt8) : List UInt8 := ((((p ++ [32]) ++ Lib.decDigits b.length) ++ [10]) ++ b) ++ [10]
/-- What a map holds at a key (nothing: the empty text). -/
def mget (m : List Ent) (p : List UInt8) : List UInt8 := (mlook p m).getD []
def linesM (m : List Ent) (ks : List (List UInt8)) : List UInt8 := (ks.map fun p => lineL p (mget m p)).flatten
theorem linesM_snoc (m : List Ent) (ks : List (List UInt8)) (p : List UInt8) : linesM m (ks ++ [p]) = linesM m ks ++ lineL p (mget m p) := by simp [linesM]
theorem lineL_len {p b : List UInt8} (hp : p.length ≤ 1000) (hb : b.length ≤ 10000) : (lineL p b).length ≤ 12000 := by
  have := digits_le 4 b.length (by omega)
  unfold lineL
  simp only [List.length_append, List.length_cons, List.length_nil]
  omega
theorem linesM_len {m : List Ent} : ∀ {ks : List (List UInt8)}, (∀ p ∈ ks, p.length ≤ 1000 ∧ (mget m p).length ≤ 10000) → (linesM m ks).length ≤ 12000 * ks.length
  | [], _ => by simp [linesM]
  | p :: ks, h => by
    have h1 := lineL_len (h p List.mem_cons_self).1 (h p List.mem_cons_self).2
    have ih := linesM_len (m := m) (ks := ks) (fun q hq => h q (List.mem_cons_of_mem _ hq))
    unfold linesM at ih ⊢
    simp only [List.map_cons, List.flatten_cons, List.length_append, List.length_cons]
    omega

theorem TAt.lookupAt {w : World} {tb mb : Nat} {m : List Ent} (h : TAt w tb mb m) (p : List UInt8) (hp : (mlook p m).isSome = true) :
    (Instr.lookup 123 (.map (some mb)) (str p) false).run Tryz.prog w = .ok (str (mget m p)) w := by
  have hlk := h.map.lookup tmapKey tmapUnd tzeroStr p false
  unfold mget
  cases hk : mlook p m with
  | none => rw [hk] at hp; cases hp
  | some v =>
    rw [hk] at hlk
    simpa using hlk

theorem mlook_some {p : List UInt8} : ∀ {m : List Ent}, p ∈ m.map Prod.fst → (mlook p m).isSome = true
  | x :: m, h => by
    unfold mlook
    split
    · rfl
    · rename_i hne
      rcases List.mem_cons.1 h with h | h
      · exact absurd h.symm hne
      · exact mlook_some h

set_option maxHeartbeats 2000000 in
set_option maxRecDepth 100000 in
theorem text_tree (tb mb : Nat) (m : List Ent) (w : World) (h : TAt w tb mb m) (ht : Tab w) (hd : (m.map Prod.fst).Nodup) (hn : m.length ≤ 1000) (hk : ∀ x ∈ m, x.1.length ≤ 1000) (hb : ∀ p, (mget m p).length ≤ 10000) :
    Calls Tryz.prog 25 #[.pointer (some ⟨tb, 0, none⟩)] w fun e w' => e = .returned (str (linesM m (sortK m))) ∧ Below w.heap.size w w' := by
  have HT := Lib.hid ht
  have HH := Lib.hid h
  have HKM : Hid (∀ p ∈ sortK m, p.length ≤ 1000 ∧ (mlook p m).isSome = true) := Lib.hid (fun p hp => by
    have hm := (sortK_perm m).mem_iff.1 hp
    refine ⟨?_, mlook_some hm⟩
    obtain ⟨x, hx, rfl⟩ := List.mem_map.1 hm
    exact hk x hx)
  have HGB := Lib.hid hb
  have hw0 : Below w.heap.size w (w.alloc (.cells #[.pointer none, .slice none 0 0] 138)) := (Below.refl _ _).alloc (Nat.le_refl _) _
  have hP := paths_tree tb mb m (w.alloc (.cells #[.pointer none, .slice none 0 0] 138)) (h.of_fr (S := fun _ => False) (Fr.of_below hw0) h.lt id id) hd hn (fun x hx => by have := hk x hx; omega)
  have HP := Lib.hid hP
  clear h ht hd hk hb hP
  go_enter Tryz.func25, Tryz.ntmps25
  go_wp2_with fail
  refine HP.out.mono ?_
  rintro e w1 ⟨v, rfl, hrow, hb1⟩
  have b1 := hw0.trans (hb1.mono (by simp))
  have hz : w.heap.size < w1.heap.size := by have := hb1.size; simp at this; omega
  have HB1 : Hid (Bld w1.heap.size w.heap.size (Lib.byteCells []) w1) := Lib.hid (Bld.fresh ((hb1.block _ (by simp)).trans (heap_alloc_here _ _)) hz)
  have hrd := ownsRow_reads hrow
  have hlv : ∀ k, v.ownBlock = some k → k < w1.heap.size := fun k hk => (hrow.lt k hk).2
  have hlw : ∀ k, v.ownBlock = some k → w.heap.size < k := fun k hk => by have := (hrow.lt k hk).1; simp at this; omega
  obtain ⟨a, cap, rfl, -, -⟩ := id hrd
  rw [List.length_map, sortK_len] at *
  have HR := Lib.hid hrd
  have HLV := Lib.hid hlv
  have HLW := Lib.hid hlw
  clear hb1 hrow hrd hlv hlw hw0 HP
  go_wp2
  have HZ := Lib.hid hz
  have hbz := b1.size
  have HW1 := Lib.hid b1
  clear b1 hz
  go_loopw [9] (fun i wl => ∃ j : Nat, j ≤ m.length ∧ i = .int .i64 j ∧ Bld w1.heap.size w.heap.size (Lib.byteCells (linesM m ((sortK m).take j))) wl ∧ Fr w1.heap.size (fun k => k = w.heap.size) w1 wl) (fun i _ => m.length - (intOf i).toNat)
  case atStart => exact ⟨0, by omega, rfl, by simpa [linesM] using HB1.out, .refl _ _ _⟩
  case round =>
    obtain ⟨j, hj, rfl, hB, hF⟩ := hrel
    have HBj := Lib.hid hB
    have HFj := Lib.hid hF
    have HWj : Hid (Below w.heap.size w wr) := Lib.hid (HW1.out.trans ((hF.mono (S' := fun k => k = w.heap.size) HW1.out.size (fun _ _ h => h)).below (fun k hk e => by omega)))
    have hzr := hF.size
    clear hB hF
    by_cases hlt : j < m.length
    · have hlt2 : j < (sortK m).length := by rw [sortK_len]; exact hlt
      obtain ⟨b, o, hix, hce⟩ := (HR.out.fr HFj.out (fun k hk => ⟨HLV.out k hk, fun e => by have := HLW.out k hk; omega⟩)).at (P := Tryz.prog) Tryz.underlying33 (by kernel_rfl) j (by simpa using hlt2)
      simp only [List.getElem_map] at hce
      have HSN : Hid (linesM m ((sortK m).take (j + 1)) = linesM m ((sortK m).take j) ++ lineL (sortK m)[j] (mget m (sortK m)[j])) := Lib.hid (by rw [List.take_succ_eq_append_getElem hlt2, linesM_snoc])
      obtain ⟨hp1, hp2⟩ := HKM.out _ (List.getElem_mem hlt2)
      have HLL : Hid ((linesM m ((sortK m).take j)).length ≤ 12000 * 1000) := Lib.hid (by
        refine Nat.le_trans (linesM_len (fun q hq => ⟨(HKM.out q (List.mem_of_mem_take hq)).1, HGB.out q⟩)) (Nat.mul_le_mul_left _ ?_)
        rw [List.length_take]
        omega)
      obtain ⟨p, hp⟩ : ∃ p, (sortK m)[j] = p := ⟨_, rfl⟩
      rw [hp] at hce HSN hp1 hp2
      clear hp
      have hlk : ∀ wq, Below w.heap.size w wq → (Instr.lookup 123 (.map (some mb)) (str p) false).run Tryz.prog wq = .ok (str (mget m p)) wq := fun wq q => (HH.out.below q).lookupAt p hp2
      have hgb := HGB.out p
      have HLK := Lib.hid hlk
      have hcl : ∀ wq, Below w.heap.size w wq → wq.cell? ⟨tb, 0, none⟩ = some (.map (some mb)) := fun wq q => (HH.out.below q).cell
      have HCL := Lib.hid hcl
      have hdl := digits_le 4 (mget m p).length (by omega)
      clear hp2 hlk hcl
      generalize mget m p = c at *
      obtain ⟨x1, hx1⟩ : ∃ x, p ++ [32] = x := ⟨_, rfl⟩
      obtain ⟨x2, hx2⟩ : ∃ x, x1 ++ Lib.decDigits c.length = x := ⟨_, rfl⟩
      obtain ⟨x3, hx3⟩ : ∃ x, x2 ++ [10] = x := ⟨_, rfl⟩
      obtain ⟨x4, hx4⟩ : ∃ x, x3 ++ c = x := ⟨_, rfl⟩
      obtain ⟨x5, hx5⟩ : ∃ x, x4 ++ [10] = x := ⟨_, rfl⟩
      have e1 : (⟨p.toArray⟩ : ByteArray) ++ (⟨#[32]⟩ : ByteArray) = ⟨x1.toArray⟩ := by rw [← hx1, show (⟨#[32]⟩ : ByteArray) = ⟨([32] : List UInt8).toArray⟩ from rfl, str_app]
      have e2 : (⟨x1.toArray⟩ : ByteArray) ++ (⟨(Lib.decDigits c.length).toArray⟩ : ByteArray) = ⟨x2.toArray⟩ := by rw [← hx2, str_app]
      have e3 : (⟨x2.toArray⟩ : ByteArray) ++ (⟨#[10]⟩ : ByteArray) = ⟨x3.toArray⟩ := by rw [← hx3, show (⟨#[10]⟩ : ByteArray) = ⟨([10] : List UInt8).toArray⟩ from rfl, str_app]
      have e4 : (⟨x3.toArray⟩ : ByteArray) ++ (⟨c.toArray⟩ : ByteArray) = ⟨x4.toArray⟩ := by rw [← hx4, str_app]
      have e5 : (⟨x4.toArray⟩ : ByteArray) ++ (⟨#[10]⟩ : ByteArray) = ⟨x5.toArray⟩ := by rw [← hx5, show (⟨#[10]⟩ : ByteArray) = ⟨([10] : List UInt8).toArray⟩ from rfl, str_app]
      have l1 : x1.length = p.length + 1 := by rw [← hx1]; simp
      have l2 : x2.length = x1.length + (Lib.decDigits c.length).length := by rw [← hx2]; simp
      have l3 : x3.length = x2.length + 1 := by rw [← hx3]; simp
      have l4 : x4.length = x3.length + c.length := by rw [← hx4]; simp
      have l5 : x5.length = x4.length + 1 := by rw [← hx5]; simp
      have HL5 : Hid (lineL p c = x5) := Lib.hid (by rw [← hx5, ← hx4, ← hx3, ← hx2, ← hx1]; rfl)
      have hz1 : ¬ 9223372036854775807 < p.length + 1 := by omega
      have hz2 : ¬ 9223372036854775807 < x1.length + (Lib.decDigits c.length).length := by omega
      have hz3 : ¬ 9223372036854775807 < x2.length + 1 := by omega
      have hz4 : ¬ 9223372036854775807 < x3.length + c.length := by omega
      have hz5 : ¬ 9223372036854775807 < x4.length + 1 := by omega
      have hx5l : x5.length ≤ 20000 := by omega
      have HX5 := Lib.hid hx5l
      have hcl2 : c.length ≤ 1000000 := by omega
      clear hx1 hx2 hx3 hx4 hx5 l1 l2 l3 l4 l5 hx5l hgb hdl
      go_wp2_with fail
      go_region_held3 (fun w' => w'.cell? ⟨tb, 0, none⟩ = some (.map (some mb)) ∧ (Instr.lookup 123 (.map (some mb)) (str p) false).run Tryz.prog w' = .ok (str c) w')
        (first | exact ⟨HCL.out _ HW6.out, HLK.out _ HW6.out⟩ | exact ⟨HCL.out _ HW5.out, HLK.out _ HW5.out⟩ | exact ⟨HCL.out _ HWj.out.drew, HLK.out _ HWj.out.drew⟩)
        (first
          | (go_at_call 80
             refine (itoa_any c.length _ hcl2 (by first | exact tab_below HT.out HWj.out (Nat.le_refl _) | exact tab_below HT.out HWj.out.drew (Nat.le_refl _))).mono ?_
             rintro e w5 ⟨rfl, hb5⟩
             have HQ5 : Hid (Below wr.heap.size wr w5) := Lib.hid (by first | exact hb5 | exact (Below.refl _ _).drew.trans hb5)
             have HW5 : Hid (Below w.heap.size w w5) := Lib.hid (HWj.out.trans (HQ5.out.mono HWj.out.size))
             clear hb5)
          | (go_at_call 79
             refine (writeString_bld w1.heap.size w.heap.size _ _ w5 (HBj.out.below HQ5.out) (by rw [Lib.byteCells_length]; have := HLL.out; have := HX5.out; simp [ByteArray.size]; omega) (Nat.le_trans hzr HQ5.out.size)).mono ?_
             rintro e w6 ⟨rfl, hB6, hF6⟩
             have HB6 := Lib.hid hB6
             have HF6 := Lib.hid hF6
             have HW6 : Hid (Below w.heap.size w w6) := Lib.hid (HW5.out.trans ((hF6.mono (S' := fun k => k = w.heap.size) (by omega) (fun _ _ h => h)).below (fun k hk e => by omega)))
             clear hB6 hF6))
      all_goals
        have HB7 : Hid (Bld w1.heap.size w.heap.size (Lib.byteCells (linesM m ((sortK m).take (j + 1)))) w6) := Lib.hid (by
          have := HB6.out
          rw [Lib.strCells_toArray, ← Lib.byteCells_append, ← HL5.out, ← HSN.out] at this
          exact this)
        have HF7 : Hid (Fr w1.heap.size (fun k => k = w.heap.size) w1 w6) := Lib.hid (HFj.out.trans ((Fr.of_below (HQ5.out.mono hzr)).trans HF6.out))
        go_wp2
        go_roundw
        case rel => exact ⟨j + 1, by omega, by go_num, HB7.out, HF7.out⟩
        case measure => simp [intOf]; omega
    · obtain rfl : j = m.length := by omega
      have hBj := HBj.out
      rw [List.take_of_length_le (by rw [sortK_len]; exact Nat.le_refl _)] at hBj
      have K := Lib.hid (string_bld w1.heap.size w.heap.size _ wr hBj HWj.out.size)
      clear hBj
      go_wp2_with fail
      refine K.out.mono ?_
      rintro e w6 ⟨rfl, hb6⟩
      go_wp2
      go_ret
      exact ⟨rfl, HWj.out.trans hb6⟩
end Go.Proofs.YtgjialbmlhbngaaGreatDoor

namespace Go.Proofs.YtgjialbmlhbngaaGreatDoor
open Go Go.RowKit Go.Kf Go.Sort

end Go.Proofs.YtgjialbmlhbngaaGreatDoor

namespace Go.Kf
open Go Go.RowKit

theorem ReadsK.nil (s : Nat) (w : World) (ad : Option Addr) (c : Nat) : ReadsK s w (.slice ad 0 c) [] := ⟨ad, c, rfl, by simp, fun i r hi => by simp at hi⟩

end Go.Kf
namespace Go.Proofs.YtgjialbmlhbngaaGreatDoor
open Go Go.RowKit Go.Kf

end Go.Proofs.YtgjialbmlhbngaaGreatDoor
