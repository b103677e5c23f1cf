/-
  The cache of package cache: what each of its functions does to memory.
-/
import Derived.Test.YtmmgbgekcpbelaaDoorProg
import Derived.Test.YtmmgbgekcpbelaaDoorBase
import Derived.Deep.QuietTactic
import Derived.BigQuiet
import Derived.Lib.Hide
namespace Go.Proofs.YtmmgbgekcpbelaaDoor
open Go Go.RowKit Go.Kf

/-- cache.last$1: is a text the captured one? -/
theorem lastFn_any (s key : List UInt8) (kb : Nat) (w : World) (h : w.cell? ⟨kb, 0, none⟩ = some (str key)) :
    Calls Tryd.prog 60 #[str s, .pointer (some ⟨kb, 0, none⟩)] w fun e w' => e = .returned (.bool (s == key)) ∧ w = w' := by
  go_enter Tryd.func60, Tryd.ntmps60
  go_wp2
  go_ret
  exact ⟨rfl, rfl⟩

theorem not_mem_take {α : Type} {l : List α} {x : α} {k : Nat} (hk : k < l.length) (h : x ∉ l.take k) (h2 : ¬ l[k] = x) : x ∉ l.take (k + 1) := by
  rw [List.take_succ_eq_append_getElem hk]
  simp only [List.mem_append, List.mem_singleton, not_or]
  exact ⟨h, fun e => h2 e.symm⟩

set_option maxRecDepth 100000 in
/-- slices.IndexFunc at the captured text: where it first stands. -/
theorem indexFunc_any (v : Value) (l : List (List UInt8)) (key : List UInt8) (kb : Nat) (w : World) (hr : Reads w v (l.map str)) (hk : w.cell? ⟨kb, 0, none⟩ = some (str key)) :
    Calls Tryd.prog 78 #[v, .func (.func 60) #[] #[.pointer (some ⟨kb, 0, none⟩)]] w fun e w' =>
      w = w' ∧ ((e = .returned (.int .i64 (-1)) ∧ key ∉ l) ∨ ∃ i : Nat, e = .returned (.int .i64 i) ∧ i < l.length ∧ l[i]? = some key ∧ key ∉ l.take i) := by
  have hle := hr.le
  have hr' := hr
  obtain ⟨a, cap, rfl, -, -⟩ := hr'
  simp only [List.length_map] at *
  go_enter Tryd.func78, Tryd.ntmps78
  go_wp2
  go_loop [8] (fun i => ∃ k : Nat, k ≤ l.length ∧ key ∉ l.take k ∧ i = .int .i64 k) (fun i => l.length - (intOf i).toNat)
  case atStart => exact ⟨0, by omega, by simp, rfl⟩
  case round =>
    obtain ⟨k, hkl, hno, rfl⟩ := hrel
    by_cases hlt : k < l.length
    · obtain ⟨b, o, hix, hce⟩ := hr.at Tryd.underlying29 (by kernel_rfl) k (by simpa using hlt)
      simp only [List.getElem_map] at hce
      have hno' := Lib.hid hno
      clear hr hno
      by_cases he : l[k] = key
      · have hd : (l[k] == key) = true := by simpa using he
        have HE := Lib.hid he
        clear he
        go_wp2_with (go_at_call 60; refine (lastFn_any _ key kb _ hk).mono ?_; rintro e w' ⟨rfl, rfl⟩)
        go_ret
        refine ⟨rfl, Or.inr ⟨k, rfl, hlt, ?_, hno'.out⟩⟩
        rw [List.getElem?_eq_getElem hlt, HE.out]
      · have hd : (l[k] == key) = false := by simpa using he
        have HE := Lib.hid he
        clear he
        go_wp2_with (go_at_call 60; refine (lastFn_any _ key kb _ hk).mono ?_; rintro e w' ⟨rfl, rfl⟩)
        go_round
        case rel => exact ⟨k + 1, by omega, not_mem_take hlt hno'.out HE.out, by go_num⟩
        case measure => simp [intOf]; omega
    · clear hr
      go_wp2
      go_ret
      refine ⟨rfl, Or.inl ⟨rfl, ?_⟩⟩
      rwa [List.take_of_length_le (by omega)] at hno

/-- The texts of a list that are not the key. -/
abbrev without (key : List UInt8) (l : List (List UInt8)) : List (List UInt8) := l.filter fun s => !(s == key)

theorem without_le (key : List UInt8) (l : List (List UInt8)) : (without key l).length ≤ l.length := List.length_filter_le _ _
theorem without_first {l : List (List UInt8)} {key : List UInt8} {i : Nat} (h : l[i]? = some key) (hno : key ∉ l.take i) : without key (l.take (i + 1)) = l.take i := by
  have hi : i < l.length := by
    rcases Nat.lt_or_ge i l.length with h' | h'
    · exact h'
    · rw [List.getElem?_eq_none h'] at h; cases h
  rw [List.getElem?_eq_getElem hi] at h
  unfold without
  rw [List.take_succ_eq_append_getElem hi, List.filter_append, List.filter_eq_self.2]
  · simp at h
    simp [h]
  · intro s hs
    simp only [Bool.not_eq_true', beq_eq_false_iff_ne]
    rintro rfl
    exact hno hs
theorem comp_drop {l c : List (List UInt8)} {p q : Nat} {x : List UInt8} (hpq : p < q) (hcd : c.drop q = l.drop q) : (c.set p x).drop (q + 1) = l.drop (q + 1) := by
  rw [← List.drop_drop (i := 1) (j := q) (l := l), ← hcd, List.drop_drop, List.drop_set_of_lt (by omega)]
theorem comp_keep {l c : List (List UInt8)} {key : List UInt8} {p q : Nat} (hp : p < c.length) (hq : q < l.length) (hct : c.take p = without key (l.take q)) (hne : (l[q] == key) = false) :
    (c.set p l[q]).take (p + 1) = without key (l.take (q + 1)) := by
  unfold without at *
  rw [List.take_succ_eq_append_getElem hq, List.filter_append, ← hct, List.take_succ_eq_append_getElem (by simpa using hp), List.take_set_of_le (by omega)]
  simp [hne]
theorem comp_skip {l c : List (List UInt8)} {key : List UInt8} {p q : Nat} (hq : q < l.length) (hct : c.take p = without key (l.take q)) (he : (l[q] == key) = true) :
    c.take p = without key (l.take (q + 1)) := by
  unfold without at *
  rw [List.take_succ_eq_append_getElem hq, List.filter_append, ← hct]
  simp [he]
theorem comp_drop' {l c : List (List UInt8)} {q : Nat} (hcd : c.drop q = l.drop q) : c.drop (q + 1) = l.drop (q + 1) := by
  rw [← List.drop_drop (i := 1) (j := q) (l := l), ← hcd, List.drop_drop]
theorem zeroStr (w : World) : (zeroValue 9).run Tryd.prog w = .ok (str []) w := by kernel_rfl

set_option maxRecDepth 100000 in
set_option maxHeartbeats 1000000 in
/-- slices.DeleteFunc at the captured text. -/
theorem deleteFunc_any (v : Value) (l : List (List UInt8)) (key : List UInt8) (kb : Nat) (w : World) (hown : w.ownsRow 0 9 1 v l.length (l.map str)) (hk : w.cell? ⟨kb, 0, none⟩ = some (str key)) (hne : v.ownBlock ≠ some kb) :
    Calls Tryd.prog 59 #[v, .func (.func 60) #[] #[.pointer (some ⟨kb, 0, none⟩)]] w fun e w' =>
      ∃ v', e = .returned v' ∧ v'.ownBlock = v.ownBlock ∧ w'.ownsRow 0 9 1 v' (without key l).length ((without key l).map str) ∧ w.grownBy w' v.ownBlock := by
  have hr := ownsRow_reads hown
  have hle := hr.le
  rw [List.length_map] at hle
  by_cases hin : key ∈ l
  · have hown' := hown
    obtain ⟨hl, hown'⟩ := hown'
    rcases hown' with ⟨rfl, h0⟩ | ⟨g, cap, cur, rfl, hg, hh, hn, hcap, hsz, htake⟩
    · obtain rfl := List.length_eq_zero_iff.1 h0
      simp at hin
    clear hg hh hsz htake hl
    have hgk : g ≠ kb := fun e => hne (by simp [Value.ownBlock, e])
    clear hne
    go_enter Tryd.func59, Tryd.ntmps59
    go_wp2_with fail
    refine (indexFunc_any _ l key kb w hr hk).mono ?_
    rintro e w' ⟨rfl, ⟨rfl, hno⟩ | ⟨i, rfl, hi, hik, hno⟩⟩
    · exact absurd hin hno
    have HI := Lib.hid hik
    have HN := Lib.hid hno
    clear hik hno hr
    have hneg : ((i : Int) == -1) = false := by simp
    go_wp2_with fail
    go_loopw [5, 6] (fun a b wr => ∃ (p q : Nat) (c : List (List UInt8)), a = .int .i64 p ∧ b = .int .i64 q ∧ p < q ∧ q ≤ l.length ∧ c.length = l.length ∧ c.take p = without key (l.take q) ∧ c.drop q = l.drop q ∧
        wr.ownsRow 0 9 1 (.slice (some ⟨g, 0, none⟩) l.length cap) l.length (c.map str) ∧ w.grownBy wr (some g)) (fun _ b _ => l.length - (intOf b).toNat)
    case atStart =>
      exact ⟨i, i + 1, l, rfl, by go_num, by omega, by omega, rfl, (without_first HI.out HN.out).symm, rfl, hown, .refl _ _⟩
    case round =>
      obtain ⟨p, q, c, rfl, rfl, hpq, hq, hcl, hct, hcd, hwo, hwg⟩ := hrel
      by_cases hlt : q < l.length
      · have hcq : c[q]? = l[q]? := by
          have := congrArg (·[0]?) hcd
          simpa [List.getElem?_drop] using this
        have hceq : wr.cell? ⟨g, q, none⟩ = some (str l[q]) := by
          rw [hwo.cellAt q (by omega), List.getElem?_map, hcq, List.getElem?_eq_getElem hlt]; rfl
        have hcep : wr.cell? ⟨g, p, none⟩ = some (str c[p]) := by
          rw [hwo.cellAt p (by omega), List.getElem?_map, List.getElem?_eq_getElem (by omega)]; rfl
        have hfp : wr.frozen? ⟨g, p, none⟩ = false := hwo.frozenAt p
        have hkr : wr.cell? ⟨kb, 0, none⟩ = some (str key) := hwg.cell hk (by simp; exact fun e => hgk e.symm)
        have HT := Lib.hid hct
        have HD := Lib.hid hcd
        have HL := Lib.hid hcl
        clear hct hcd hcq
        by_cases he : (l[q] == key) = true
        · have HE := Lib.hid he
          go_wp2_with (go_at_call 60; refine (lastFn_any _ key kb _ hkr).mono ?_; rintro e w' ⟨rfl, rfl⟩)
          go_roundw
          case rel => exact ⟨p, q + 1, c, rfl, by go_num, by omega, by omega, HL.out, comp_skip hlt HT.out HE.out, comp_drop' HD.out, hwo, hwg⟩
          case measure => simp [intOf]; omega
        · have he : (l[q] == key) = false := by simpa using he
          have HE := Lib.hid he
          go_wp2_with (go_at_call 60; refine (lastFn_any _ key kb _ hkr).mono ?_; rintro e w' ⟨rfl, rfl⟩)
          go_roundw
          case rel =>
            refine ⟨p + 1, q + 1, c.set p l[q], by go_num, by go_num, by omega, by omega, by simpa using HL.out, comp_keep (by have := HL.out; omega) hlt HT.out HE.out, comp_drop hpq HD.out, ?_, hwg.trans (hwo.stored p (str l[q])).2⟩
            rw [List.map_set]
            exact (hwo.stored p (str l[q])).1
          case measure => simp [intOf]; omega
      · obtain ⟨w2, hclr, hwo2, hwg2⟩ := ownsRow_clear Tryd.underlying29 zeroStr rfl rfl hwo (i := p) (by omega) (cap - p)
        have hpl : p = (without key l).length := by
          have := congrArg List.length hct
          rw [List.take_of_length_le (show l.length ≤ q by omega)] at this
          rw [← this]; simp; omega
        have HP := Lib.hid hpl
        have HT := Lib.hid hct
        have HD := Lib.hid hcd
        have HL := Lib.hid hcl
        have hpc : p < cap := by omega
        clear hct hcd hpl hcl
        go_wp2_with fail
        go_ret
        refine ⟨_, rfl, rfl, ?_, hwg.trans hwg2⟩
        have h3 := ownsRow_cut hwo2 (m := p) (by omega)
        have h4 := HT.out
        rw [List.take_of_length_le (show l.length ≤ q by omega)] at h4
        rw [List.take_append_of_le_length (by simp; have := HL.out; omega), List.take_take, Nat.min_self, ← List.map_take, h4] at h3
        rw [← HP.out]
        exact h3
  · go_enter Tryd.func59, Tryd.ntmps59
    go_wp2_with fail
    refine (indexFunc_any _ l key kb w hr hk).mono ?_
    rintro e w' ⟨rfl, ⟨rfl, hno⟩ | ⟨i, rfl, hi, hik, hno⟩⟩
    · clear hno
      go_wp2_with fail
      go_ret
      refine ⟨_, rfl, rfl, ?_, .refl _ _⟩
      have : without key l = l := by
        unfold without
        rw [List.filter_eq_self]
        intro s hs
        simp only [Bool.not_eq_true', beq_eq_false_iff_ne]
        rintro rfl
        exact hin hs
      rw [this]
      exact hown
    · exact absurd (List.mem_of_getElem? hik) hin
end Go.Proofs.YtmmgbgekcpbelaaDoor
