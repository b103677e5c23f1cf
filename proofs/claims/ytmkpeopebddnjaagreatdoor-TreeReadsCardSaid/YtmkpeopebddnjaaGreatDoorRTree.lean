/-
  The reference's tree (kilnfieldref1.Tree): Find, Paths.
-/
import Derived.Test.YtmkpeopebddnjaaGreatDoorTree
namespace Go.Proofs.YtmkpeopebddnjaaGreatDoor
open Go Go.RowKit Go.Kf

abbrev fileRow (e : Ent) : List Value := [str e.1, str e.2]
abbrev fileCells (L : List Ent) : List Value := (L.map fileRow).flatten
theorem fileRow_len {L : List Ent} : ∀ r ∈ L.map fileRow, r.length = 2 := by
  intro r hr
  obtain ⟨e, -, rfl⟩ := List.mem_map.1 hr
  rfl
theorem tyFiles : SliceTyK Tryz.prog 27 45 (.agg #[str [], str []]) 2 32 := ⟨Tryz.underlying27, by kernel_rfl, rfl, by decide⟩

/-- A reference's tree in memory. -/
structure RTAt (base : Nat) (w : World) (rb : Nat) (lv : Value) (L : List Ent) : Prop where
  blk : w.heap[rb]? = some (.cells #[lv] 29 (0, 0))
  row : w.ownsRow base 45 2 lv L.length (fileCells L)
  ne : lv.ownBlock ≠ some rb
theorem RTAt.cell {base : Nat} {w : World} {rb : Nat} {lv : Value} {L : List Ent} (h : RTAt base w rb lv L) : w.cell? ⟨rb, 0, none⟩ = some lv := (cell_of_heap h.blk 0).trans rfl
theorem RTAt.reads {base : Nat} {w : World} {rb : Nat} {lv : Value} {L : List Ent} (h : RTAt base w rb lv L) : ReadsK 2 w lv (L.map fileRow) := ownsRow_readsK h.row (by simp) fileRow_len
theorem RTAt.of_fr {base : Nat} {w w' : World} {rb : Nat} {lv : Value} {L : List Ent} (h : RTAt base w rb lv L) {B : Nat} {S : Nat → Prop} (hf : Fr B S w w') (hB : w.heap.size ≤ B) (h1 : ¬ S rb) (h2 : ∀ k, lv.ownBlock = some k → ¬ S k) : RTAt base w' rb lv L :=
  ⟨(hf.block rb (Nat.lt_of_lt_of_le (lt_of_heap h.blk) hB) h1).trans h.blk, ownsRow_fr h.row hf (fun k hk => ⟨Nat.lt_of_lt_of_le (h.row.lt k hk).2 hB, h2 k hk⟩), h.ne⟩
theorem RTAt.below {base : Nat} {w w' : World} {rb : Nat} {lv : Value} {L : List Ent} (h : RTAt base w rb lv L) (hb : Below w.heap.size w w') : RTAt base w' rb lv L :=
  h.of_fr (S := fun _ => False) (Fr.of_below hb) (Nat.le_refl _) id (fun _ _ => id)

theorem mplace_none {p : List UInt8} : ∀ {L : List Ent}, p ∉ L.map Prod.fst → mplace p L = none
  | [], _ => rfl
  | x :: L, h => by
    simp only [List.map_cons, List.mem_cons, not_or] at h
    unfold mplace
    rw [if_neg (fun e => h.1 e.symm), mplace_none h.2]
    rfl
theorem mplace_some {p : List UInt8} : ∀ {L : List Ent} {i : Nat} (h : i < L.length), L[i].1 = p → p ∉ (L.take i).map Prod.fst → mplace p L = some i
  | x :: L, 0, _, he, _ => by
    unfold mplace
    rw [if_pos (show x.1 = p from he)]
  | x :: L, i + 1, h, he, hn => by
    simp only [List.take_succ_cons, List.map_cons, List.mem_cons, not_or] at hn
    unfold mplace
    rw [if_neg (fun e => hn.1 e.symm), mplace_some (L := L) (i := i) (by simpa using h) (by simpa using he) hn.2]
    rfl
/-- What Find answers. -/
def findN (p : List UInt8) (L : List Ent) : Int := match mplace p L with
  | some i => (i : Int)
  | none => -1
theorem fst_take {L : List Ent} {p : List UInt8} {k : Nat} (hk : k < L.length) (h : p ∉ (L.take k).map Prod.fst) (hne : L[k].1 ≠ p) : p ∉ (L.take (k + 1)).map Prod.fst := by
  rw [List.take_succ_eq_append_getElem hk, List.map_append, List.mem_append, not_or]
  refine ⟨h, ?_⟩
  simp only [List.map_cons, List.map_nil, List.mem_singleton]
  exact fun e => hne e.symm

set_option maxRecDepth 100000 in
theorem rfind_any (base rb : Nat) (lv : Value) (L : List Ent) (p : List UInt8) (w : World) (h : RTAt base w rb lv L) :
    Calls Tryz.prog 20 #[.pointer (some ⟨rb, 0, none⟩), str p] w fun e w' => e = .returned (.int .i64 (findN p L)) ∧ w = w' := by
  have hr := h.reads
  have hle := hr.le
  have c0 := h.cell
  obtain ⟨a, cap, rfl, -, -⟩ := id hr
  simp only [List.length_map] at *
  have HR := Lib.hid hr
  clear h hr
  go_enter Tryz.func20, Tryz.ntmps20
  go_wp2
  go_loop [5] (fun i => ∃ k : Nat, k ≤ L.length ∧ p ∉ (L.take k).map Prod.fst ∧ i = .int .i64 k) (fun i => L.length - (intOf i).toNat)
  case atStart => exact ⟨0, by omega, by simp, rfl⟩
  case round =>
    obtain ⟨k, hkl, hno, rfl⟩ := hrel
    have HN := Lib.hid hno
    clear hno
    by_cases hlt : k < L.length
    · obtain ⟨b, o, hix, -, hce⟩ := HR.out.at (P := Tryz.prog) Tryz.underlying27 (by kernel_rfl) k (by simpa using hlt)
      have e0 : w.cell? ⟨b, o, none⟩ = some (str L[k].1) := hce 0 _ (by simp)
      clear hce
      by_cases he : L[k].1 = p
      · have hd : (L[k].1 == p) = true := by simpa using he
        have HE := Lib.hid he
        clear he
        go_wp2
        go_ret
        have e1 : findN p L = (k : Int) := by unfold findN; rw [mplace_some hlt HE.out HN.out]
        rw [e1]
        exact ⟨rfl, rfl⟩
      · have hd : (L[k].1 == p) = false := by simpa using he
        have HE := Lib.hid he
        clear he
        go_wp2
        go_round
        case rel => exact ⟨k + 1, by omega, fst_take hlt HN.out HE.out, by go_num⟩
        case measure => simp [intOf]; omega
    · go_wp2
      go_ret
      have := HN.out
      rw [List.take_of_length_le (by omega)] at this
      have e1 : findN p L = -1 := by unfold findN; rw [mplace_none this]
      rw [e1]
      exact ⟨rfl, rfl⟩

theorem tyStrsR : SliceTy Tryz.prog 39 9 (str []) 16 := ⟨Tryz.underlying39, by kernel_rfl, rfl⟩

set_option maxRecDepth 100000 in
theorem rpaths_any (base rb : Nat) (lv : Value) (L : List Ent) (w : World) (h : RTAt base w rb lv L) (hm : L.length ≤ 1000) :
    Calls Tryz.prog 24 #[.pointer (some ⟨rb, 0, none⟩)] w fun e w' =>
      ∃ v, e = .returned v ∧ w'.ownsRow w.heap.size 9 1 v L.length ((L.map Prod.fst).map str) ∧ Below w.heap.size w w' := by
  have HH := Lib.hid h
  have hr := h.reads
  obtain ⟨a, cap, rfl, -, -⟩ := id hr
  simp only [List.length_map] at *
  clear h hr
  go_enter Tryz.func24, Tryz.ntmps24
  go_wp2
  go_loopw [3, 4] (fun v i wl => ∃ k : Nat, k ≤ L.length ∧ i = .int .i64 k ∧ wl.ownsRow w.heap.size 9 1 v k (((L.take k).map Prod.fst).map str) ∧ Below w.heap.size w wl) (fun _ i _ => L.length - (intOf i).toNat)
  case atStart => exact ⟨0, by omega, rfl, by simpa using World.ownsRow_nil w _ _ _, Below.refl _ _⟩
  case round =>
    obtain ⟨k, hkl, rfl, hown, hbl⟩ := hrel
    have hh := HH.out.below hbl
    have c1 := hh.cell
    have hrr := hh.reads
    have HO := Lib.hid hown
    have HB := Lib.hid hbl
    clear hown hbl hh
    by_cases hlt : k < L.length
    · obtain ⟨b, o, hix, -, hce⟩ := hrr.at (P := Tryz.prog) Tryz.underlying27 (by kernel_rfl) k (by simpa using hlt)
      have e0 : wr.cell? ⟨b, o, none⟩ = some (str L[k].1) := hce 0 _ (by simp)
      clear hce hrr
      have hsz := HB.out.size
      go_wp2_with (first
        | (at_builtin
           refine wpList_app _ rfl _ _ 39 rfl tyStrsR w.heap.size u3 k _ rfl (HO.out.alloc _) ⟨wr.heap.size, 0, none⟩ 1 1 [str L[k].1] rfl rfl (news_one ?_) ?_ (by decide) ?_ ?_ ?_
           · simp [go_sem]
           · intro u hu; simp at hu; subst hu; rfl
           · omega
           · simp; omega
           intro v5 w5 ho5 hg5 hloc5))
      go_roundw
      case rel =>
        refine ⟨k + 1, by omega, by go_num, ?_, ?_⟩
        · rw [List.take_succ_eq_append_getElem hlt]
          simp only [List.map_append, List.map_cons, List.map_nil]
          exact ho5
        · exact (HB.out.alloc hsz _).grown hg5 (by simp; omega) (fun r hr => owned_from HO.out hr)
      case measure => simp [intOf]; omega
    · clear hrr
      go_wp2
      go_ret
      obtain rfl : k = L.length := by omega
      refine ⟨_, rfl, ?_, HB.out⟩
      simpa using HO.out
end Go.Proofs.YtmkpeopebddnjaaGreatDoor
