/-
  The program's tree: New, Get, Remove, Put; strings.HasPrefix. The reference's acts: has, in, lay.
-/
import Derived.Test.YtgoeoekdlcbmpaaGreatDoorPkK
import Derived.Test.YtgoeoekdlcbmpaaGreatDoorPkF
import Derived.Test.YtgoeoekdlcbmpaaGreatDoorPkX
import Derived.Test.YtgoeoekdlcbmpaaGreatDoorPkC
import Derived.BigQuiet
import Derived.Test.YtgoeoekdlcbmpaaGreatDoorPkE

namespace Go.Proofs.YtgoeoekdlcbmpaaGreatDoor
open Go Go.RowKit Go.Kf

abbrev Ent := List UInt8 × List UInt8

/-- The errors that trees and paths answer lie at S. -/
structure TErr (w : World) (S : Nat → Addr) : Prop where
  var : ∀ k, k ∈ [1, 2, 3, 5, 6, 7] → w.cell? ⟨sentG k, 0, none⟩ = some (errV (S k))
theorem TErr.below {w w' : World} {S : Nat → Addr} {B : Nat} (h : TErr w S) (hb : Below B w w') (hB : w.heap.size ≤ B) : TErr w' S :=
  ⟨fun k hk => (hb.cell (p := ⟨sentG k, 0, none⟩) (Nat.lt_of_lt_of_le (lt_of_cell (h.var k hk)) hB)).trans (h.var k hk)⟩
theorem tErr_of_errW {w : World} {S : Nat → Addr} (h : ErrW w S) : TErr w S := ⟨fun k hk => h.var k (by
  simp only [List.mem_cons, List.not_mem_nil, or_false] at hk
  omega)⟩
theorem tmapKey : KeyBy Tryz.prog 9 str := KeyBy.string Tryz.underlying9
theorem tmapUnd : Tryz.prog.underlying 122 = some (.map 9 9) := Tryz.underlying122
theorem tzeroStr (w : World) : (zeroValue 9).run Tryz.prog w = .ok (str []) w := by kernel_rfl

/-- A tree in memory: the map behind its pointer holds m. -/
structure TAt (w : World) (tb mb : Nat) (m : List Ent) : Prop where
  blk : w.heap[tb]? = some (.cells #[.map (some mb)] 152 (0, 0))
  map : MapIs str str w mb m
theorem TAt.cell {w : World} {tb mb : Nat} {m : List Ent} (h : TAt w tb mb m) : w.cell? ⟨tb, 0, none⟩ = some (.map (some mb)) := (cell_of_heap h.blk 0).trans rfl
theorem TAt.ne {w : World} {tb mb : Nat} {m : List Ent} (h : TAt w tb mb m) : tb ≠ mb := fun e => by
  obtain ⟨es, clock, hb, -⟩ := h.map
  rw [← e, h.blk] at hb
  cases hb
theorem TAt.lt {w : World} {tb mb : Nat} {m : List Ent} (h : TAt w tb mb m) : tb < w.heap.size ∧ mb < w.heap.size := ⟨lt_of_heap h.blk, h.map.lt⟩
theorem TAt.of_fr {w w' : World} {tb mb : Nat} {m : List Ent} {B : Nat} {S : Nat → Prop} (h : TAt w tb mb m) (hf : Fr B S w w') (h1 : tb < B ∧ mb < B) (h2 : ¬ S tb) (h3 : ¬ S mb) : TAt w' tb mb m :=
  ⟨(hf.block _ h1.1 h2).trans h.blk, h.map.of_block (hf.block _ h1.2 h3)⟩
theorem TAt.below {w w' : World} {tb mb : Nat} {m : List Ent} (h : TAt w tb mb m) (hb : Below w.heap.size w w') : TAt w' tb mb m :=
  h.of_fr (S := fun _ => False) (Fr.of_below hb) h.lt id id

theorem new_tree (w : World) : Calls Tryz.prog 49 #[] w fun e w' => ∃ tb mb, e = .returned (.pointer (some ⟨tb, 0, none⟩)) ∧ w.heap.size ≤ tb ∧ w.heap.size ≤ mb ∧ TAt w' tb mb [] ∧ Below w.heap.size w w' := by
  have hmm := @run_makeMap Tryz.prog
  go_enter Tryz.func49, Tryz.ntmps49
  go_wp2
  go_ret
  refine ⟨w.heap.size + 1, w.heap.size, rfl, by omega, by omega, ⟨?_, ?_⟩, ?_⟩
  · have := heap_alloc_here (w.alloc (.map #[] 0)) (.cells #[.map (some w.heap.size)] 152)
    simpa using this
  · exact (MapIs.made w).of_block (Below.heap_alloc _ _ _ (by simp))
  · exact ((Below.refl _ w).alloc (Nat.le_refl _) _).alloc (by simp) _

theorem get_tree (tb mb : Nat) (m : List Ent) (p : List UInt8) (w : World) (h : TAt w tb mb m) :
    Calls Tryz.prog 100 #[.pointer (some ⟨tb, 0, none⟩), str p] w fun e w' => e = .returned (.tuple #[str ((mlook p m).getD []), .bool (mlook p m).isSome]) ∧ w = w' := by
  have c0 := h.cell
  have hlk := h.map.lookup tmapKey tmapUnd tzeroStr p true
  simp only [if_true] at hlk
  clear h
  cases hk : mlook p m with
  | none =>
    rw [hk] at hlk
    simp only [Option.map_none, Option.getD_none, Option.isSome_none] at hlk
    go_enter Tryz.func100, Tryz.ntmps100
    go_wp2
    go_ret2
    exact ⟨rfl, rfl⟩
  | some v =>
    rw [hk] at hlk
    simp only [Option.map_some, Option.getD_some, Option.isSome_some] at hlk
    go_enter Tryz.func100, Tryz.ntmps100
    go_wp2
    go_ret2
    exact ⟨rfl, rfl⟩

theorem mdel_none {p : List UInt8} : ∀ {m : List Ent}, mlook p m = none → mdel p m = m
  | [], _ => rfl
  | x :: m, h => by
    unfold mlook at h
    unfold mdel
    split at h
    · cases h
    · rename_i hne
      rw [if_neg hne, mdel_none h]

theorem mem_eraseIdx {α : Type} {l : List α} {i : Nat} (hi : i < l.length) {y : α} (h : y ∈ l) : y = l[i] ∨ y ∈ l.eraseIdx i := by
  obtain ⟨j, hj, rfl⟩ := List.getElem_of_mem h
  by_cases e : j = i
  · subst e; exact Or.inl rfl
  · right
    rw [List.mem_eraseIdx_iff_getElem]
    exact ⟨j, hj, e, rfl⟩

end Go.Proofs.YtgoeoekdlcbmpaaGreatDoor

namespace Go.Proofs.YtgoeoekdlcbmpaaGreatDoor
open Go Go.RowKit Go.Kf Go.Sort Go.Proofs

/-! ### lay -/
end Go.Proofs.YtgoeoekdlcbmpaaGreatDoor

/-
  The reference's acts: lay; what is made by join, upper, lines, head.
-/
namespace Go.Proofs.YtgoeoekdlcbmpaaGreatDoor
open Go Go.RowKit Go.Kf Go.Sort Go.Proofs

end Go.Proofs.YtgoeoekdlcbmpaaGreatDoor

/-
  The reference's acts: NumberOf at three digits; what is made by lines, head, count.
-/
namespace Go.Proofs.YtgoeoekdlcbmpaaGreatDoor
open Go Go.RowKit Go.Kf Go.Sort Go.Proofs

set_option maxRecDepth 100000 in
set_option maxHeartbeats 1000000 in
theorem numberOf3_any (ds : List UInt8) (w : World) (hl : ds.length ≤ 100000) :
    Calls Tryz.prog 162 #[str ds, .int .i64 3] w fun e w' => w = w' ∧
      ((∃ n : Nat, IsN3 ds n ∧ e = .returned (.int .i64 n)) ∨ ((∀ n, ¬ IsN3 ds n) ∧ e = .returned (.int .i64 (-1)))) := by
  by_cases h4 : ds.length ≤ 3
  · cases ds with
    | nil =>
      have hno : Hid (∀ n, ¬ IsN3 [] n) := Lib.hid (fun n h => dec_ne n h.2.symm)
      go_enter Tryz.func162, Tryz.ntmps162
      go_wp2
      go_ret
      exact ⟨rfl, Or.inr ⟨hno.out, rfl⟩⟩
    | cons b r =>
      by_cases h48 : r ≠ [] ∧ b = 48
      · obtain ⟨hr, rfl⟩ := h48
        have hno : Hid (∀ n, ¬ IsN3 (48 :: r) n) := Lib.hid (fun n h => by
          by_cases hn : 10 ≤ n
          · obtain ⟨b, r', e, hb⟩ := dec_head n hn
            have := h.2
            rw [e] at this
            exact hb (List.cons.inj this).1.symm
          · have := h.2
            rw [Lib.decDigits_one (by omega)] at this
            exact hr (List.cons.inj this).2)
        have hlen : 1 < (48 :: r).length := by
          have : r.length ≠ 0 := by simpa using hr
          simp; omega
        obtain ⟨ds, hds⟩ : ∃ ds, 48 :: r = ds := ⟨_, rfl⟩
        have hidx : ∀ h, (⟨ds.toArray⟩ : ByteArray)[0]'h = (48 : UInt8) := fun _ => by
          show ds[0] = 48
          simp [← hds]
        rw [hds] at hno hlen h4 hl ⊢
        clear hds hr
        have hz1 : ((ds.length : Int) < 1) = False := by simp; omega
        have hz2 : ((3 : Int) < (ds.length : Int)) = False := by simp; omega
        have hz3 : ((1 : Int) < (ds.length : Int)) = True := by simp; omega
        go_enter Tryz.func162, Tryz.ntmps162
        go_wp2
        go_ret
        exact ⟨rfl, Or.inr ⟨hno.out, rfl⟩⟩
      · have hor : r = [] ∨ b ≠ 48 := by
          by_cases hr : r = []
          · exact Or.inl hr
          · exact Or.inr (fun e => h48 ⟨hr, e⟩)
        have HOR := Lib.hid hor
        obtain ⟨ds, hds⟩ : ∃ ds, b :: r = ds := ⟨_, rfl⟩
        have HDS := Lib.hid hds
        have hb0 : ds[0]? = some b := by rw [← hds]; rfl
        have hpos : 1 ≤ ds.length := by rw [← hds]; simp
        have hidx0 : ∀ h, (⟨ds.toArray⟩ : ByteArray)[0]'h = b := fun _ => by
          show ds[0] = b
          simp [← hds]
        rw [hds] at h4 hl ⊢
        have hz1 : ((ds.length : Int) < 1) = False := by simp; omega
        have hz2 : ((3 : Int) < (ds.length : Int)) = False := by simp; omega
        have key : (((b.toNat : Int) == 48) = false ∧ ((1 : Int) < (ds.length : Int)) = True) ∨ ((1 : Int) < (ds.length : Int)) = False := by
          by_cases h1 : 1 < ds.length
          · left
            refine ⟨?_, by simp; omega⟩
            have hb : b ≠ 48 := HOR.out.resolve_left (fun e => by rw [← HDS.out, e] at h1; simp at h1)
            have := Kf.u8_eq b 48
            rw [show ((48 : UInt8).toNat : Int) = 48 from rfl] at this
            rw [this]; simpa using hb
          · right
            simp; omega
        have FIN : Hid (∀ m : Nat, Lib.decFrom 0 ds = some m → IsN3 ds m) := Lib.hid (fun m hm => by
          rw [← HDS.out] at hm ⊢
          have e := dec_of r.length b r m rfl HOR.out hm
          refine ⟨dec_le3 ?_, e⟩
          rw [← e, HDS.out]; exact h4)
        clear hor hds hb0
        rcases key with ⟨hz4, hz3⟩ | hz3
        all_goals
          go_enter Tryz.func162, Tryz.ntmps162
          go_wp2_with fail
          go_loopw [5, 6] (fun nv iv wl => ∃ m i : Nat, i ≤ ds.length ∧ nv = .int .i64 m ∧ iv = .int .i64 i ∧ Lib.decFrom 0 (ds.take i) = some m ∧ wl = w) (fun _ iv _ => ds.length - (intOf iv).toNat)
          case atStart => exact ⟨0, 0, by omega, rfl, rfl, by simp [Lib.decFrom], rfl⟩
          case round =>
            obtain ⟨m, i, hi, rfl, rfl, hm, rfl⟩ := hrel
            have HMM := Lib.hid hm
            clear hm
            by_cases hlt : i < ds.length
            · obtain ⟨c, hc⟩ : ∃ c, ds[i] = c := ⟨_, rfl⟩
              have hidx : ∀ h, (⟨ds.toArray⟩ : ByteArray)[i]'h = c := fun _ => hc
              have HC := Lib.hid hc
              clear hc
              by_cases hlo : c.toNat < 48
              · have hd1 : ((c.toNat : Int) < 48) = True := by simp; omega
                have HNO : Hid (∀ n, ¬ IsN3 ds n) := Lib.hid (fun n h => by
                  have := dec_digit n c (by rw [← h.2, ← HC.out]; exact List.getElem_mem hlt)
                  omega)
                go_wp2
                go_ret
                exact ⟨rfl, Or.inr ⟨HNO.out, rfl⟩⟩
              · have hd1 : ((c.toNat : Int) < 48) = False := by simp; omega
                by_cases hhi : 57 < c.toNat
                · have hd2 : ((57 : Int) < (c.toNat : Int)) = True := by simp; omega
                  have HNO : Hid (∀ n, ¬ IsN3 ds n) := Lib.hid (fun n h => by
                    have := dec_digit n c (by rw [← h.2, ← HC.out]; exact List.getElem_mem hlt)
                    omega)
                  go_wp2
                  go_ret
                  exact ⟨rfl, Or.inr ⟨HNO.out, rfl⟩⟩
                · have hd2 : ((57 : Int) < (c.toNat : Int)) = False := by simp; omega
                  obtain ⟨d, hd⟩ : ∃ d, c.toNat = 48 + d := ⟨c.toNat - 48, by omega⟩
                  have hm9 : m ≤ 999 := by
                    have h1 := Lib.decFrom_lt _ _ _ HMM.out
                    have h2 : (ds.take i).length ≤ 3 := by rw [List.length_take]; omega
                    have h3 := Nat.pow_le_pow_right (n := 10) (by decide) h2
                    omega
                  have HST : Hid (Lib.decFrom 0 (ds.take (i + 1)) = some (m * 10 + d)) := Lib.hid (by
                    rw [List.take_succ_eq_append_getElem hlt, decFrom_app _ _ _ _ HMM.out, HC.out]
                    have hv : Lib.digitVal c = some d := by
                      unfold Lib.digitVal
                      rw [if_pos (by omega)]
                      congr 1
                      omega
                    simp only [Lib.decFrom, hv])
                  have hs0 : (c.toNat : Int) - 48 = (d : Int) := by omega
                  have hs1 : IntKind.u8.wrap ((c.toNat : Int) - 48) = (d : Int) := by
                    rw [hs0]
                    simp [IntKind.wrap, IntKind.signed, IntKind.bits]
                    omega
                  have hs2 : IntKind.i64.wrap (d : Int) = (d : Int) := IntWalk.i64_in _ (by omega)
                  have hs3 : IntKind.i64.wrap (10 * (m : Int)) = 10 * (m : Int) := IntWalk.i64_in _ (by omega)
                  have hs4 : IntKind.i64.wrap (10 * (m : Int) + (d : Int)) = 10 * (m : Int) + (d : Int) := IntWalk.i64_in _ (by omega)
                  go_wp2
                  go_roundw
                  case rel => exact ⟨m * 10 + d, i + 1, by omega, by go_num, by go_num, HST.out, by first | rfl | trivial⟩
                  case measure => simp [intOf]; omega
            · obtain rfl : i = ds.length := by omega
              have hM := HMM.out
              rw [List.take_length] at hM
              have HN := Lib.hid (FIN.out m hM)
              clear hM
              go_wp2
              go_ret
              exact ⟨rfl, Or.inl ⟨m, HN.out, rfl⟩⟩
  · have hno : Hid (∀ n, ¬ IsN3 ds n) := Lib.hid (fun n h => by
      have := digits_le 2 n (by have := h.1; omega)
      rw [← h.2] at this
      exact h4 this)
    have hz1 : ((ds.length : Int) < 1) = False := by simp; omega
    have hz2 : ((3 : Int) < (ds.length : Int)) = True := by simp; omega
    clear h4
    go_enter Tryz.func162, Tryz.ntmps162
    go_wp2
    go_ret
    exact ⟨rfl, Or.inr ⟨hno.out, rfl⟩⟩

def numV (s : List UInt8) : Int := match num3 s with
  | some n => n
  | none => -1
theorem number3 (ds : List UInt8) (w : World) (hl : ds.length ≤ 100000) :
    Calls Tryz.prog 162 #[str ds, .int .i64 3] w fun e w' => e = .returned (.int .i64 (numV ds)) ∧ w = w' := by
  refine (numberOf3_any ds w hl).mono ?_
  rintro e w' ⟨rfl, ⟨n, hn, rfl⟩ | ⟨hno, rfl⟩⟩
  · unfold numV
    rw [num3_is hn]
    exact ⟨rfl, rfl⟩
  · unfold numV
    cases hq : num3 ds with
    | some n => exact absurd (num3_of hq) (hno n)
    | none => exact ⟨rfl, rfl⟩

end Go.Proofs.YtgoeoekdlcbmpaaGreatDoor
