/-
  The walks of the model cache (kilnfieldref2.Cache): Find, Keys.
-/
import Derived.Test.YtmmgbgekcpbelaaDoorBaseK
import Derived.Test.YtmmgbgekcpbelaaDoorCacheOps
namespace Go.Proofs.YtmmgbgekcpbelaaDoor
open Go Go.RowKit Go.Kf

abbrev EntL := List UInt8 × List UInt8
abbrev entRow (e : EntL) : List Value := [str e.1, str e.2]
/-- A model cache in memory. -/
structure RefAt (w : World) (rb : Nat) (lv : Value) (many : Nat) (es : List EntL) : Prop where
  blk : w.heap[rb]? = some (.cells #[.int .i64 many, lv] 51 (0, 0))
  row : ReadsK 2 w lv (es.map entRow)

/-- No entry bears the key. -/
def NoKey (es : List EntL) (key : List UInt8) : Prop := key ∉ es.map (·.1)
/-- Entry i is the first one that bears the key. -/
def KeyAt (es : List EntL) (key : List UInt8) (i : Nat) : Prop := ∃ h : i < es.length, es[i].1 = key ∧ key ∉ (es.take i).map (·.1)
theorem fst_not_take {es : List EntL} {key : List UInt8} {k : Nat} (hk : k < es.length) (h : key ∉ (es.take k).map (·.1)) (hne : es[k].1 ≠ key) : key ∉ (es.take (k + 1)).map (·.1) := by
  rw [List.take_succ_eq_append_getElem hk, List.map_append, List.mem_append, not_or]
  refine ⟨h, ?_⟩
  simp only [List.map_cons, List.map_nil, List.mem_singleton]
  exact fun e => hne e.symm

set_option maxRecDepth 100000 in
theorem find_any (rb : Nat) (lv : Value) (many : Nat) (es : List EntL) (key : List UInt8) (w : World) (h : RefAt w rb lv many es) :
    Calls Tryd.prog 47 #[.pointer (some ⟨rb, 0, none⟩), str key] w fun e w' =>
      w = w' ∧ ((e = .returned (.int .i64 (-1)) ∧ NoKey es key) ∨ ∃ i : Nat, e = .returned (.int .i64 i) ∧ KeyAt es key i) := by
  have hle := h.row.le
  have hr := h.row
  obtain ⟨a, cap, rfl, -, -⟩ := hr
  simp only [List.length_map] at *
  have c1 : w.cell? ⟨rb, 1, none⟩ = some (.slice a es.length cap) := by rw [cell_of_heap h.blk]; rfl
  have HR := Lib.hid h.row
  clear h
  go_enter Tryd.func47, Tryd.ntmps47
  go_wp2
  go_loop [5] (fun i => ∃ k : Nat, k ≤ es.length ∧ key ∉ (es.take k).map (·.1) ∧ i = .int .i64 k) (fun i => es.length - (intOf i).toNat)
  case atStart => exact ⟨0, by omega, by simp, rfl⟩
  case round =>
    obtain ⟨k, hkl, hno, rfl⟩ := hrel
    have HN := Lib.hid hno
    clear hno
    by_cases hlt : k < es.length
    · obtain ⟨b, o, hix, -, hce⟩ := HR.out.at (P := Tryd.prog) Tryd.underlying49 (by kernel_rfl) k (by simpa using hlt)
      have e0 : w.cell? ⟨b, o, none⟩ = some (str es[k].1) := hce 0 _ (by simp)
      clear hce
      by_cases he : es[k].1 = key
      · have hd : (es[k].1 == key) = true := by simpa using he
        have HE := Lib.hid he
        clear he
        go_wp2
        go_ret
        exact ⟨rfl, Or.inr ⟨k, rfl, hlt, HE.out, HN.out⟩⟩
      · have hd : (es[k].1 == key) = false := by simpa using he
        have HE := Lib.hid he
        clear he
        go_wp2
        go_round
        case rel => exact ⟨k + 1, by omega, fst_not_take hlt HN.out HE.out, by go_num⟩
        case measure => simp [intOf]; omega
    · go_wp2
      go_ret
      refine ⟨rfl, Or.inl ⟨rfl, ?_⟩⟩
      have := HN.out
      unfold NoKey
      rwa [List.take_of_length_le (by omega)] at this

set_option maxRecDepth 100000 in
theorem refKeys_any (rb : Nat) (lv : Value) (many : Nat) (es : List EntL) (w : World) (h : RefAt w rb lv many es) (hlv : ∀ k, lv.ownBlock = some k → k < w.heap.size) (hm : es.length ≤ 1000) :
    Calls Tryd.prog 26 #[.pointer (some ⟨rb, 0, none⟩)] w fun e w' =>
      ∃ v, e = .returned v ∧ w'.ownsRow w.heap.size 9 1 v es.length ((es.map (·.1)).map str) ∧ Below w.heap.size w w' := by
  have hle := h.row.le
  have hr := h.row
  have hrb : rb < w.heap.size := lt_of_heap h.blk
  obtain ⟨a, cap, rfl, -, -⟩ := hr
  simp only [List.length_map] at *
  have HH := Lib.hid h
  clear h
  go_enter Tryd.func26, Tryd.ntmps26
  go_wp2
  go_loopw [3, 4] (fun v i wl => ∃ k : Nat, k ≤ es.length ∧ i = .int .i64 k ∧ wl.ownsRow w.heap.size 9 1 v k (((es.take k).map (·.1)).map str) ∧ Below w.heap.size w wl) (fun _ i _ => es.length - (intOf i).toNat)
  case atStart => exact ⟨0, by omega, rfl, by simpa using World.ownsRow_nil w _ _ _, Below.refl _ _⟩
  case round =>
    obtain ⟨k, hkl, rfl, hown, hbl⟩ := hrel
    have c1 : wr.cell? ⟨rb, 1, none⟩ = some (.slice a es.length cap) := by
      rw [cell_of_heap ((hbl.block _ hrb).trans HH.out.blk)]; rfl
    have hrr := HH.out.row.below hbl hlv
    have HO := Lib.hid hown
    have HB := Lib.hid hbl
    clear hown hbl
    by_cases hlt : k < es.length
    · obtain ⟨b, o, hix, -, hce⟩ := hrr.at (P := Tryd.prog) Tryd.underlying49 (by kernel_rfl) k (by simpa using hlt)
      have e0 : wr.cell? ⟨b, o, none⟩ = some (str es[k].1) := hce 0 _ (by simp)
      clear hce hrr
      have hsz := HB.out.size
      go_wp2_with (first
        | (at_builtin
           refine wpList_app _ rfl (.tmp 14) (.tmp 23) 29 rfl tyStrs w.heap.size u3 k _ rfl (HO.out.alloc _) ⟨wr.heap.size, 0, none⟩ 1 1 [str es[k].1] rfl rfl (news_one ?_) ?_ (by decide) ?_ ?_ ?_
           · simp [go_sem]
           · intro u hu; simp at hu; subst hu; rfl
           · omega
           · simp; omega
           intro v5 w5 ho5 hg5 hloc5))
      go_roundw
      case rel =>
        refine ⟨k + 1, by omega, by go_num, ?_, ?_⟩
        · rw [List.take_succ_eq_append_getElem hlt]
          simp only [List.map_append, List.map_cons, List.map_nil]
          exact ho5
        · exact (HB.out.alloc hsz _).grown hg5 (by simp; omega) (fun r hr => owned_from HO.out hr)
      case measure => simp [intOf]; omega
    · clear hrr
      go_wp2
      go_ret
      obtain rfl : k = es.length := by omega
      refine ⟨_, rfl, ?_, HB.out⟩
      simpa using HO.out
end Go.Proofs.YtmmgbgekcpbelaaDoor
