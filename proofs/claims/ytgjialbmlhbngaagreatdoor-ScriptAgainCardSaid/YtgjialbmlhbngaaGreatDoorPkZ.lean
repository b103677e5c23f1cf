/-
  The cache of package cache: what each of its functions does to memory. The cache of package cache: its methods. Between the words of the library's contracts (Holds, putRow) and the rows that a call owns. The cache of package cache: New, Get, Put, Len, Keys. The cache of package cache: Put. Plain lists: the keys that were asked for last, and what a cache with room for so many holds. No program. The key of a command whose inputs are files (up to 4000 bytes).
-/
import Derived.Test.YtgjialbmlhbngaaGreatDoorProg
import Derived.Test.YtgjialbmlhbngaaGreatDoorPkA
import Derived.Deep.QuietTactic
import Derived.BigQuiet
import Derived.Lib.Hide
import Derived.Sort.Row
import Derived.Test.YtgjialbmlhbngaaGreatDoorPkH0
import Derived.Test.YtgjialbmlhbngaaGreatDoorPkC

set_option maxRecDepth 100000
namespace Go.Proofs.YtgjialbmlhbngaaGreatDoor
open Go Go.RowKit Go.Kf
theorem lastFn_any (s key : List UInt8) (kb : Nat) (w : World) (h : w.cell? ⟨kb, 0, none⟩ = some (str key)) :
    Calls Tryz.prog 223 #[str s, .pointer (some ⟨kb, 0, none⟩)] w fun e w' => e = .returned (.bool (s == key)) ∧ w = w' := by
  go_enter Tryz.func223, Tryz.ntmps223
  go_wp2
  go_ret
  exact ⟨rfl, rfl⟩
theorem not_mem_take {α : Type} {l : List α} {x : α} {k : Nat} (hk : k < l.length) (h : x ∉ l.take k) (h2 : ¬ l[k] = x) : x ∉ l.take (k + 1) := by
  rw [List.take_succ_eq_append_getElem hk]
  simp only [List.mem_append, List.mem_singleton, not_or]
  exact ⟨h, fun e => h2 e.symm⟩
theorem indexFunc_any (v : Value) (l : List (List UInt8)) (key : List UInt8) (kb : Nat) (w : World) (hr : Reads w v (l.map str)) (hk : w.cell? ⟨kb, 0, none⟩ = some (str key)) :
    Calls Tryz.prog 254 #[v, .func (.func 223) #[] #[.pointer (some ⟨kb, 0, none⟩)]] w fun e w' =>
      w = w' ∧ ((e = .returned (.int .i64 (-1)) ∧ key ∉ l) ∨ ∃ i : Nat, e = .returned (.int .i64 i) ∧ i < l.length ∧ l[i]? = some key ∧ key ∉ l.take i) := by
  have hle := hr.le
  have hr' := hr
  obtain ⟨a, cap, rfl, -, -⟩ := hr'
  simp only [List.length_map] at *
  go_enter Tryz.func254, Tryz.ntmps254
  go_wp2
  go_loop [8] (fun i => ∃ k : Nat, k ≤ l.length ∧ key ∉ l.take k ∧ i = .int .i64 k) (fun i => l.length - (intOf i).toNat)
  case atStart => exact ⟨0, by omega, by simp, rfl⟩
  case round =>
    obtain ⟨k, hkl, hno, rfl⟩ := hrel
    by_cases hlt : k < l.length
    · obtain ⟨b, o, hix, hce⟩ := hr.at Tryz.underlying33 (by kernel_rfl) k (by simpa using hlt)
      simp only [List.getElem_map] at hce
      have hno' := Hd hno
      clear hr hno
      by_cases he : l[k] = key
      · have hd : (l[k] == key) = true := by simpa using he
        have HE := Hd he
        clear he
        go_wp2_with (go_at_call 223; refine (lastFn_any _ key kb _ hk).mono ?_; rintro e w' ⟨rfl, rfl⟩)
        go_ret
        refine ⟨rfl, Or.inr ⟨k, rfl, hlt, ?_, hno'.out⟩⟩
        rw [List.getElem?_eq_getElem hlt, HE.out]
      · have hd : (l[k] == key) = false := by simpa using he
        have HE := Hd he
        clear he
        go_wp2_with (go_at_call 223; refine (lastFn_any _ key kb _ hk).mono ?_; rintro e w' ⟨rfl, rfl⟩)
        go_round
        case rel => exact ⟨k + 1, by omega, not_mem_take hlt hno'.out HE.out, by go_num⟩
        case measure => simp [intOf]; omega
    · clear hr
      go_wp2
      go_ret
      refine ⟨rfl, Or.inl ⟨rfl, ?_⟩⟩
      rwa [List.take_of_length_le (by omega)] at hno
abbrev without (key : List UInt8) (l : List (List UInt8)) : List (List UInt8) := l.filter fun s => !(s == key)
theorem without_le (key : List UInt8) (l : List (List UInt8)) : (without key l).length ≤ l.length := List.length_filter_le _ _
theorem without_first {l : List (List UInt8)} {key : List UInt8} {i : Nat} (h : l[i]? = some key) (hno : key ∉ l.take i) : without key (l.take (i + 1)) = l.take i := by
  have hi : i < l.length := by
    rcases Nat.lt_or_ge i l.length with h' | h'
    · exact h'
    · rw [List.getElem?_eq_none h'] at h; cases h
  rw [List.getElem?_eq_getElem hi] at h
  unfold without
  rw [List.take_succ_eq_append_getElem hi, List.filter_append, List.filter_eq_self.2]
  · simp at h
    simp [h]
  · intro s hs
    simp only [Bool.not_eq_true', beq_eq_false_iff_ne]
    rintro rfl
    exact hno hs
theorem comp_drop {l c : List (List UInt8)} {p q : Nat} {x : List UInt8} (hpq : p < q) (hcd : c.drop q = l.drop q) : (c.set p x).drop (q + 1) = l.drop (q + 1) := by
  rw [← List.drop_drop (i := 1) (j := q) (l := l), ← hcd, List.drop_drop, List.drop_set_of_lt (by omega)]
theorem comp_keep {l c : List (List UInt8)} {key : List UInt8} {p q : Nat} (hp : p < c.length) (hq : q < l.length) (hct : c.take p = without key (l.take q)) (hne : (l[q] == key) = false) :
    (c.set p l[q]).take (p + 1) = without key (l.take (q + 1)) := by
  unfold without at *
  rw [List.take_succ_eq_append_getElem hq, List.filter_append, ← hct, List.take_succ_eq_append_getElem (by simpa using hp), List.take_set_of_le (by omega)]
  simp [hne]
theorem comp_skip {l c : List (List UInt8)} {key : List UInt8} {p q : Nat} (hq : q < l.length) (hct : c.take p = without key (l.take q)) (he : (l[q] == key) = true) :
    c.take p = without key (l.take (q + 1)) := by
  unfold without at *
  rw [List.take_succ_eq_append_getElem hq, List.filter_append, ← hct]
  simp [he]
theorem comp_drop' {l c : List (List UInt8)} {q : Nat} (hcd : c.drop q = l.drop q) : c.drop (q + 1) = l.drop (q + 1) := by
  rw [← List.drop_drop (i := 1) (j := q) (l := l), ← hcd, List.drop_drop]
theorem zeroStr (w : World) : (zeroValue 9).run Tryz.prog w = .ok (str []) w := by kernel_rfl
set_option maxHeartbeats 1000000 in
theorem deleteFunc_any (v : Value) (l : List (List UInt8)) (key : List UInt8) (kb : Nat) (w : World) (hown : w.ownsRow 0 9 1 v l.length (l.map str)) (hk : w.cell? ⟨kb, 0, none⟩ = some (str key)) (hne : v.ownBlock ≠ some kb) :
    Calls Tryz.prog 222 #[v, .func (.func 223) #[] #[.pointer (some ⟨kb, 0, none⟩)]] w fun e w' =>
      ∃ v', e = .returned v' ∧ v'.ownBlock = v.ownBlock ∧ w'.ownsRow 0 9 1 v' (without key l).length ((without key l).map str) ∧ w.grownBy w' v.ownBlock := by
  have hr := ownsRow_reads hown
  have hle := hr.le
  rw [List.length_map] at hle
  by_cases hin : key ∈ l
  · have hown' := hown
    obtain ⟨hl, hown'⟩ := hown'
    rcases hown' with ⟨rfl, h0⟩ | ⟨g, cap, cur, rfl, hg, hh, hn, hcap, hsz, htake⟩
    · obtain rfl := List.length_eq_zero_iff.1 h0
      simp at hin
    clear hg hh hsz htake hl
    have hgk : g ≠ kb := fun e => hne (by simp [Value.ownBlock, e])
    clear hne
    go_enter Tryz.func222, Tryz.ntmps222
    go_wp2_with fail
    refine (indexFunc_any _ l key kb w hr hk).mono ?_
    rintro e w' ⟨rfl, ⟨rfl, hno⟩ | ⟨i, rfl, hi, hik, hno⟩⟩
    · exact absurd hin hno
    have HI := Hd hik
    have HN := Hd hno
    clear hik hno hr
    have hneg : ((i : Int) == -1) = false := by simp
    go_wp2_with fail
    go_loopw [5, 6] (fun a b wr => ∃ (p q : Nat) (c : List (List UInt8)), a = .int .i64 p ∧ b = .int .i64 q ∧ p < q ∧ q ≤ l.length ∧ c.length = l.length ∧ c.take p = without key (l.take q) ∧ c.drop q = l.drop q ∧
        wr.ownsRow 0 9 1 (.slice (some ⟨g, 0, none⟩) l.length cap) l.length (c.map str) ∧ w.grownBy wr (some g)) (fun _ b _ => l.length - (intOf b).toNat)
    case atStart =>
      exact ⟨i, i + 1, l, rfl, by go_num, by omega, by omega, rfl, (without_first HI.out HN.out).symm, rfl, hown, .refl _ _⟩
    case round =>
      obtain ⟨p, q, c, rfl, rfl, hpq, hq, hcl, hct, hcd, hwo, hwg⟩ := hrel
      by_cases hlt : q < l.length
      · have hcq : c[q]? = l[q]? := by
          have := congrArg (·[0]?) hcd
          simpa [List.getElem?_drop] using this
        have hceq : wr.cell? ⟨g, q, none⟩ = some (str l[q]) := by
          rw [hwo.cellAt q (by omega), List.getElem?_map, hcq, List.getElem?_eq_getElem hlt]; rfl
        have hcep : wr.cell? ⟨g, p, none⟩ = some (str c[p]) := by
          rw [hwo.cellAt p (by omega), List.getElem?_map, List.getElem?_eq_getElem (by omega)]; rfl
        have hfp : wr.frozen? ⟨g, p, none⟩ = false := hwo.frozenAt p
        have hkr : wr.cell? ⟨kb, 0, none⟩ = some (str key) := hwg.cell hk (by simp; exact fun e => hgk e.symm)
        have HT := Hd hct
        have HD := Hd hcd
        have HL := Hd hcl
        clear hct hcd hcq
        by_cases he : (l[q] == key) = true
        · have HE := Hd he
          go_wp2_with (go_at_call 223; refine (lastFn_any _ key kb _ hkr).mono ?_; rintro e w' ⟨rfl, rfl⟩)
          go_roundw
          case rel => exact ⟨p, q + 1, c, rfl, by go_num, by omega, by omega, HL.out, comp_skip hlt HT.out HE.out, comp_drop' HD.out, hwo, hwg⟩
          case measure => simp [intOf]; omega
        · have he : (l[q] == key) = false := by simpa using he
          have HE := Hd he
          go_wp2_with (go_at_call 223; refine (lastFn_any _ key kb _ hkr).mono ?_; rintro e w' ⟨rfl, rfl⟩)
          go_roundw
          case rel =>
            refine ⟨p + 1, q + 1, c.set p l[q], by go_num, by go_num, by omega, by omega, by simpa using HL.out, comp_keep (by have := HL.out; omega) hlt HT.out HE.out, comp_drop hpq HD.out, ?_, hwg.trans (hwo.stored p (str l[q])).2⟩
            rw [List.map_set]
            exact (hwo.stored p (str l[q])).1
          case measure => simp [intOf]; omega
      · obtain ⟨w2, hclr, hwo2, hwg2⟩ := ownsRow_clear Tryz.underlying33 zeroStr rfl rfl hwo (i := p) (by omega) (cap - p)
        have hpl : p = (without key l).length := by
          have := congrArg List.length hct
          rw [List.take_of_length_le (show l.length ≤ q by omega)] at this
          rw [← this]; simp; omega
        have HP := Hd hpl
        have HT := Hd hct
        have HD := Hd hcd
        have HL := Hd hcl
        have hpc : p < cap := by omega
        clear hct hcd hpl hcl
        go_wp2_with fail
        go_ret
        refine ⟨_, rfl, rfl, ?_, hwg.trans hwg2⟩
        have h3 := ownsRow_cut hwo2 (m := p) (by omega)
        have h4 := HT.out
        rw [List.take_of_length_le (show l.length ≤ q by omega)] at h4
        rw [List.take_append_of_le_length (by simp; have := HL.out; omega), List.take_take, Nat.min_self, ← List.map_take, h4] at h3
        rw [← HP.out]
        exact h3
  · go_enter Tryz.func222, Tryz.ntmps222
    go_wp2_with fail
    refine (indexFunc_any _ l key kb w hr hk).mono ?_
    rintro e w' ⟨rfl, ⟨rfl, hno⟩ | ⟨i, rfl, hi, hik, hno⟩⟩
    · clear hno
      go_wp2_with fail
      go_ret
      refine ⟨_, rfl, rfl, ?_, .refl _ _⟩
      have : without key l = l := by
        unfold without
        rw [List.filter_eq_self]
        intro s hs
        simp only [Bool.not_eq_true', beq_eq_false_iff_ne]
        rintro rfl
        exact hin hs
      rw [this]
      exact hown
    · exact absurd (List.mem_of_getElem? hik) hin
theorem tyStrs : SliceTy Tryz.prog 33 9 (str []) 16 := ⟨Tryz.underlying33, by kernel_rfl, rfl⟩
structure CacheAt (w : World) (pb mb : Nat) (lv : Value) (many : Nat) (l : List (List UInt8)) (m : List (List UInt8 × List UInt8)) : Prop where
  blk : w.heap[pb]? = some (.cells #[.int .i64 many, lv, .map (some mb)] 155 (0, 0))
  row : w.ownsRow 0 9 1 lv l.length (l.map str)
  map : MapIs str str w mb m
def foot (pb mb : Nat) (lv : Value) (k : Nat) : Prop := k = pb ∨ k = mb ∨ lv.ownBlock = some k
theorem ownBlock_elem {w : World} {base e size n : Nat} {v : Value} {xs : List Value} (h : w.ownsRow base e size v n xs) {k : Nat} (hk : v.ownBlock = some k) : ∃ c, w.heap[k]? = some (.cells c e (0, 0)) := by
  rcases h.2 with ⟨rfl, -⟩ | ⟨g, cap, cur, rfl, -, hh, -⟩
  · cases hk
  · simp only [Value.ownBlock, Option.some.injEq] at hk
    subst hk
    exact ⟨_, hh⟩
theorem CacheAt.ne_pb {w : World} {pb mb : Nat} {lv : Value} {many : Nat} {l : List (List UInt8)} {m : List (List UInt8 × List UInt8)} (h : CacheAt w pb mb lv many l m) : lv.ownBlock ≠ some pb := by
  intro hk
  obtain ⟨c, hc⟩ := ownBlock_elem h.row hk
  rw [h.blk] at hc
  cases hc
theorem CacheAt.ne_mb {w : World} {pb mb : Nat} {lv : Value} {many : Nat} {l : List (List UInt8)} {m : List (List UInt8 × List UInt8)} (h : CacheAt w pb mb lv many l m) : lv.ownBlock ≠ some mb := by
  intro hk
  obtain ⟨c, hc⟩ := ownBlock_elem h.row hk
  obtain ⟨es, clock, hm, -⟩ := h.map
  rw [hm] at hc
  cases hc
theorem CacheAt.pb_mb {w : World} {pb mb : Nat} {lv : Value} {many : Nat} {l : List (List UInt8)} {m : List (List UInt8 × List UInt8)} (h : CacheAt w pb mb lv many l m) : pb ≠ mb := by
  rintro rfl
  obtain ⟨es, clock, hm, -⟩ := h.map
  rw [h.blk] at hm
  cases hm
def rowOf (lv : Value) (k : Nat) : Prop := lv.ownBlock = some k
set_option maxHeartbeats 1000000 in
theorem last_any (pb mb : Nat) (lv : Value) (many : Nat) (l : List (List UInt8)) (m : List (List UInt8 × List UInt8)) (key : List UInt8) (w : World) (h : CacheAt w pb mb lv many l m) (hl : l.length ≤ 1000) :
    Calls Tryz.prog 164 #[.pointer (some ⟨pb, 0, none⟩), str key] w fun e w' =>
      e = .returned (.tuple #[]) ∧ ∃ lv', CacheAt w' pb mb lv' many (without key l ++ [key]) m ∧ Fr w.heap.size (foot pb mb lv) w w' ∧ (∀ k, lv'.ownBlock = some k → lv.ownBlock = some k ∨ w.heap.size ≤ k) := by
  have hn1 := h.ne_pb
  have hn2 := h.ne_mb
  have hn3 := h.pb_mb
  obtain ⟨hb, hr, hm⟩ := h
  have hpb := lt_of_heap hb
  have hmb := hm.lt
  have c1 : w.cell? ⟨pb, 1, none⟩ = some lv := by rw [cell_of_heap hb]; rfl
  have f1 : w.frozen? ⟨pb, 1, none⟩ = false := free_of_heap hb 1
  have HB := Hd hb
  have HM := Hd hm
  have HN1 := Hd hn1
  have HN2 := Hd hn2
  have HN3 := Hd hn3
  clear hb hm hn1 hn2 hn3
  go_enter Tryz.func164, Tryz.ntmps164
  go_wp2_with fail
  go_region_law (first
    | (go_simp
       go_at_call 222
       refine (deleteFunc_any lv l key w.heap.size _ ?_ ?_ ?_).mono ?_
       · first | exact World.ownsRow.drew ((hr.alloc _).alloc _) | exact World.ownsRow.drew (hr.alloc _)
       · simp [go_sem]
       · intro hk; have := (hr.lt _ hk).2; omega
       rintro e w1 ⟨v1, rfl, hv1, ho1, hg1⟩
       have hbox : w1.cell? ⟨w.heap.size, 0, none⟩ = some (str key) := hg1.cell (by first | (simp [go_sem]; done) | simp [go_sem, World.cell?_alloc_past]) (fun hk => Nat.lt_irrefl _ (hr.lt _ hk.symm).2)
       have hF1 : Fr w.heap.size (rowOf lv) w w1 := by
         first
         | exact Fr.grown (((Fr.refl _ _ w).alloc (Nat.le_refl _) _).drew) hg1 (by show w.heap.size ≤ (w.heap.push _).size; simp) (fun k hk _ => hk)
         | exact Fr.grown ((((Fr.refl _ _ w).alloc (Nat.le_refl _) _).alloc (by simp) _).drew) hg1 (by show w.heap.size ≤ ((w.heap.push _).push _).size; simp; omega) (fun k hk _ => hk))
    | (refine step_app rfl (.tmp 10) (.tmp 12) 33 rfl tyStrs 0 v1 _ _ rfl (by first | exact ho1 | exact ho1.alloc _) _ 1 1 [str key] rfl rfl (news_one ?_) ?_ (by decide) ?_ (Nat.zero_le _) ?_
       · first | (refine hg1.cell ?_ (fun hk => Nat.not_lt.2 (Nat.le_succ _) (hr.lt _ hk.symm).2); simp [go_sem]; done) | (simp [go_sem]; done)
       · intro u hu; simp at hu; subst hu; rfl
       · have := without_le key l; omega
       intro v2 w2 ho2 hg2 hloc
       have hF2 : Fr w.heap.size (rowOf lv) w w2 := by
         first
         | exact Fr.grown hF1 hg2 hF1.size (fun k hk _ => by rw [hv1] at hk; exact hk)
         | exact Fr.grown (hF1.alloc hF1.size _) hg2 (by have := hF1.size; simp; omega) (fun k hk _ => by rw [hv1] at hk; exact hk)
       have hl2 : ∀ k, v2.ownBlock = some k → lv.ownBlock = some k ∨ w.heap.size ≤ k := by
         intro k hk
         rcases hloc with h | h
         · left; rw [← hv1, ← h]; exact hk
         · right; rw [hk] at h; cases h; have := hF1.size; simp; omega
       clear hloc hg2
       obtain ⟨g2, cap2, rfl⟩ := ownsRow_some ho2 (by omega)
       have c2 : w2.cell? ⟨pb, 1, none⟩ = some lv := (hF2.cell (p := ⟨pb, 1, none⟩) hpb HN1.out).trans c1
       have f2 : w2.frozen? ⟨pb, 1, none⟩ = false := (hF2.frozen (p := ⟨pb, 1, none⟩) hpb HN1.out).trans f1))
  all_goals
    go_end0
    refine ⟨rfl, _, ⟨Kf.heap_setCell_same ((hF2.block pb hpb HN1.out).trans HB.out) _, ?_, ?_⟩, ?_, hl2⟩
    · have h1 := ownsRow_setCell_other (a := ⟨pb, 1, none⟩) ho2 (fun e => ?_) (.slice (some ⟨g2, 0, none⟩) ((without key l).length + 1) cap2)
      · simpa using h1
      · rcases hl2 _ e with h | h
        · exact HN1.out h
        · exact absurd hpb (Nat.not_lt.2 h)
    · exact (HM.out.of_block (hF2.block mb hmb HN2.out)).of_block (Below.heap_setCell _ _ _ _ (fun e => HN3.out e.symm))
    · exact Fr.setCell (p := ⟨pb, 1, none⟩) (hF2.mono (S' := foot pb mb lv) (Nat.le_refl _) (fun k _ hk => Or.inr (Or.inr hk))) (fun _ => Or.inl rfl) _
end Go.Proofs.YtgjialbmlhbngaaGreatDoor

namespace Go.Kf
open Go Go.RowKit Go.Sort
theorem holds_own {α : Type} [Inhabited α] {enc : α → Value} {w : World} {base e g n cap : Nat} {zs : List α} (h : w.ownsRow base e 1 (.slice (some ⟨g, 0, none⟩) n cap) n (zs.map enc)) : Holds enc w g 0 zs.toArray := by
  intro j hj
  have hl : zs.length = n := by have := h.1; simpa using this
  have hj' : j < zs.length := by simpa using hj
  refine ⟨?_, by rw [Nat.zero_add]; exact h.frozenAt j⟩
  rw [Nat.zero_add, h.cellAt j (by omega), List.getElem?_map, List.getElem?_eq_getElem hj']
  simp [hj']
theorem own_put {α : Type} [Inhabited α] {enc : α → Value} {w : World} {base e g n cap : Nat} {xs : List Value} (h : w.ownsRow base e 1 (.slice (some ⟨g, 0, none⟩) n cap) n xs) (zs : List α) (hz : zs.length = n) (q : Nat) :
    (putRow enc (Sort.ahead w q) g 0 zs.toArray).ownsRow base e 1 (.slice (some ⟨g, 0, none⟩) n cap) n (zs.map enc) ∧ w.grownBy (putRow enc (Sort.ahead w q) g 0 zs.toArray) (some g) := by
  obtain ⟨hl, h⟩ := h
  rcases h with ⟨h0, _⟩ | ⟨g', cap', cur, hv, hg, hh, hn, hcap, hsz, htake⟩
  · cases h0
  · cases hv
    have hb : (putRow enc (Sort.ahead w q) g 0 zs.toArray).heap[g]? = some (.cells (putCells enc 0 zs.toArray cur) e (0, 0)) := by
      simp only [putRow, mapBlock, Sort.ahead, Array.getElem?_modify, if_true, hh, Option.map_some, onCells]
    refine ⟨⟨by simp [hz], .inr ⟨g, cap, _, rfl, hg, hb, hn, hcap, by simp [putCells]; omega, ?_⟩⟩, ⟨rfl, rfl, rfl, by simp [putRow, mapBlock, Sort.ahead], fun k _ hk => ?_⟩⟩
    · apply List.ext_getElem?
      intro j
      rw [Nat.mul_one, List.getElem?_take, List.getElem?_map]
      by_cases hj : j < n
      · have hjc : j < cur.size := by omega
        simp [hj, putCells, hjc, hz]
      · simp [hj, hz]
    · simp only [putRow, mapBlock, Sort.ahead, Array.getElem?_modify]
      rw [if_neg (fun e => hk (by rw [e]))]
end Go.Kf

namespace Go.Proofs.YtgjialbmlhbngaaGreatDoor
open Go Go.RowKit Go.Kf
theorem mapKey : KeyBy Tryz.prog 9 str := KeyBy.string Tryz.underlying9
theorem mapUnd : Tryz.prog.underlying 123 = some (.map 9 9) := Tryz.underlying123
theorem new_ok (n : Nat) (w : World) (h1 : 1 ≤ n) (h2 : n ≤ 100) :
    Calls Tryz.prog 31 #[.int .i64 n] w fun r w' => ∃ pb mb, r = .returned (.tuple #[.pointer (some ⟨pb, 0, none⟩), .nilIface]) ∧ w.heap.size ≤ pb ∧ w.heap.size ≤ mb ∧ CacheAt w' pb mb (.slice none 0 0) n [] [] ∧ Below w.heap.size w w' := by
  have hmm := @run_makeMap Tryz.prog
  go_enter Tryz.func31, Tryz.ntmps31
  go_wp2
  go_ret2
  refine ⟨w.heap.size + 1, w.heap.size, rfl, by omega, by omega, ⟨?_, World.ownsRow_nil _ _ _ _, ?_⟩, ?_⟩
  · have := heap_alloc_here (w.alloc (.map #[] 0)) (.cells #[.int .i64 n, .slice none 0 0, .map (some w.heap.size)] 155)
    simpa using this
  · exact (MapIs.made w).of_block (Below.heap_alloc _ _ _ (by simp))
  · exact ((Below.refl _ w).alloc (Nat.le_refl _) _).alloc (by simp) _
theorem get_any (pb mb : Nat) (lv : Value) (many : Nat) (l : List (List UInt8)) (m : List (List UInt8 × List UInt8)) (key : List UInt8) (w : World) (h : CacheAt w pb mb lv many l m) (hl : l.length ≤ 1000) :
    Calls Tryz.prog 96 #[.pointer (some ⟨pb, 0, none⟩), str key] w fun e w' =>
      e = .returned (.tuple #[str ((mlook key m).getD []), .bool (mlook key m).isSome]) ∧
      ∃ lv', CacheAt w' pb mb lv' many (if (mlook key m).isSome then without key l ++ [key] else l) m ∧ Fr w.heap.size (foot pb mb lv) w w' ∧ (∀ k, lv'.ownBlock = some k → lv.ownBlock = some k ∨ w.heap.size ≤ k) := by
  have c2 : w.cell? ⟨pb, 2, none⟩ = some (.map (some mb)) := by rw [cell_of_heap h.blk]; rfl
  have hlk := h.map.lookup mapKey mapUnd zeroStr key true
  simp only [if_true] at hlk
  have H := Hd h
  cases hk : mlook key m with
  | none =>
    rw [hk] at hlk
    simp only [Option.map_none, Option.getD_none, Option.isSome_none] at hlk
    clear h
    go_enter Tryz.func96, Tryz.ntmps96
    go_wp2
    go_ret2
    exact ⟨rfl, lv, by simpa using H.out, .refl _ _ _, fun k hk => Or.inl hk⟩
  | some v =>
    rw [hk] at hlk
    simp only [Option.map_some, Option.getD_some, Option.isSome_some] at hlk
    clear h
    go_enter Tryz.func96, Tryz.ntmps96
    go_wp2_with (go_at_call 164; refine (last_any pb mb lv many l m key _ H.out hl).mono ?_; rintro e w' ⟨rfl, hpost⟩)
    go_ret2
    exact ⟨rfl, hpost⟩
theorem CacheAt.drewN {w : World} {pb mb : Nat} {lv : Value} {many : Nat} {l : List (List UInt8)} {m : List (List UInt8 × List UInt8)} (h : CacheAt w pb mb lv many l m) (n : Nat) : CacheAt (w.drewN n) pb mb lv many l m :=
  ⟨h.blk, h.row, h.map⟩
theorem delete_first (g cap : Nat) (l : List (List UInt8)) (w : World) (h : w.ownsRow 0 9 1 (.slice (some ⟨g, 0, none⟩) l.length cap) l.length (l.map str)) (h1 : 1 ≤ l.length) (hcap : l.length ≤ cap) (hm : cap ≤ 9223372036854775807) :
    Calls Tryz.prog 167 #[.slice (some ⟨g, 0, none⟩) l.length cap, .int .i64 0, .int .i64 1] w fun e w' =>
      e = .returned (.slice (some ⟨g, 0, none⟩) (l.length - 1) cap) ∧ w'.ownsRow 0 9 1 (.slice (some ⟨g, 0, none⟩) (l.length - 1) cap) (l.length - 1) (l.tail.map str) ∧ w.grownBy w' (some g) := by
  refine (Tryz.slices_Delete_string g 0 cap 0 1 l w (holds_own h) hcap hm (by omega) h1).mono ?_
  rintro e w' ⟨rfl, q, rfl⟩
  have hp := own_put (enc := str) h (l.take 0 ++ l.drop 1 ++ List.replicate (1 - 0) []) (by simp; omega) q
  refine ⟨by simp, ?_, hp.2⟩
  have hc := ownsRow_cut (m := l.length - 1) hp.1 (by omega)
  have e : ((l.take 0 ++ l.drop 1 ++ List.replicate (1 - 0) []).map str).take (l.length - 1) = l.tail.map str := by
    rw [← List.map_take, List.take_append_of_le_length (by simp), List.take_zero, List.nil_append, List.drop_one, List.take_of_length_le (by simp)]
  rw [e] at hc
  exact hc
def putKeys (many : Nat) (key : List UInt8) (l : List (List UInt8)) : List (List UInt8) :=
  if many < (without key l ++ [key]).length then (without key l ++ [key]).tail else without key l ++ [key]
def putMapL (many : Nat) (key v : List UInt8) (l : List (List UInt8)) (m : List (List UInt8 × List UInt8)) : List (List UInt8 × List UInt8) :=
  if many < (without key l ++ [key]).length then mdel ((without key l ++ [key]).headD []) (mupd key v m) else mupd key v m
set_option maxHeartbeats 1000000 in
theorem put_any (pb mb : Nat) (lv : Value) (many : Nat) (l : List (List UInt8)) (m : List (List UInt8 × List UInt8)) (key v : List UInt8) (w : World) (h : CacheAt w pb mb lv many l m) (hl : l.length ≤ 999) :
    Calls Tryz.prog 98 #[.pointer (some ⟨pb, 0, none⟩), str key, str v] w fun e w' =>
      e = .returned (.tuple #[]) ∧ ∃ lv', CacheAt w' pb mb lv' many (putKeys many key l) (putMapL many key v l m) ∧ Fr w.heap.size (foot pb mb lv) w w' ∧ (∀ k, lv'.ownBlock = some k → lv.ownBlock = some k ∨ w.heap.size ≤ k) := by
  have c2 : w.cell? ⟨pb, 2, none⟩ = some (.map (some mb)) := by rw [cell_of_heap h.blk]; rfl
  obtain ⟨es, clock, hup, hmap1⟩ := h.map.update mapKey mapUnd key v
  have hpb := lt_of_heap h.blk
  have hmb := h.map.lt
  have hF1 : Fr w.heap.size (foot pb mb lv) w (putMap w mb es clock) := (Fr.refl _ _ w).putMap (fun _ => Or.inr (Or.inl rfl)) es clock
  have hC1 : CacheAt (putMap w mb es clock) pb mb lv many l (mupd key v m) := by
    refine ⟨by rw [putMap_heap, if_neg (fun e => h.pb_mb e.1)]; exact h.blk, ?_, hmap1⟩
    refine h.row.kept (row := some mb) ⟨rfl, rfl, rfl, by simp [putMap], fun k _ hk => ?_⟩ (Or.inr h.ne_mb)
    rw [putMap_heap, if_neg (fun e => hk (by rw [e.1]))]
  clear hmap1 h
  go_enter Tryz.func98, Tryz.ntmps98
  go_wp2_with fail
  refine (last_any pb mb lv many l _ key _ hC1 (by omega)).mono ?_
  rintro e w2 ⟨rfl, lv2, hC2, hF2, hl2⟩
  have hF2' := hF1.trans (hF2.mono (B' := w.heap.size) (S' := foot pb mb lv) hF1.size (fun k _ hk => hk))
  have hll := without_le key l
  have hn1 : 0 < (without key l ++ [key]).length := by simp
  have hn2 : (without key l ++ [key]).length ≤ 1000 := by simp; omega
  have hl2' : ∀ k, lv2.ownBlock = some k → lv.ownBlock = some k ∨ w.heap.size ≤ k := fun k hk => (hl2 k hk).imp id (fun h => Nat.le_trans hF1.size h)
  clear hC1 hup c2 hl2 hF1 hF2
  have H2 := Hd hC2
  have hx1 : putKeys many key l = if many < (without key l ++ [key]).length then (without key l ++ [key]).tail else without key l ++ [key] := rfl
  have hx2 : putMapL many key v l m = if many < (without key l ++ [key]).length then mdel ((without key l ++ [key]).headD []) (mupd key v m) else mupd key v m := rfl
  have HX1 := Hd hx1
  have HX2 := Hd hx2
  clear hx1 hx2
  generalize without key l ++ [key] = l1 at *
  generalize mupd key v m = m1 at *
  obtain ⟨g, cap, rfl⟩ := ownsRow_some hC2.row hn1
  have c0 : w2.cell? ⟨pb, 0, none⟩ = some (.int .i64 many) := by rw [cell_of_heap hC2.blk]; rfl
  have c1 : w2.cell? ⟨pb, 1, none⟩ = some (.slice (some ⟨g, 0, none⟩) l1.length cap) := by rw [cell_of_heap hC2.blk]; rfl
  clear hC2
  by_cases hlt : many < l1.length
  · have hd : decide ((many : Int) < (l1.length : Int)) = true := by simp; omega
    go_wp2_with fail
    go_quiet (fail)
    go_wp2_with fail
    generalize hw3 : w2.drewN nq = w3
    have hC3 : CacheAt w3 pb mb (.slice (some ⟨g, 0, none⟩) l1.length cap) many l1 m1 := by rw [← hw3]; exact H2.out.drewN _
    have hF3 : Fr w.heap.size (foot pb mb lv) w w3 := by rw [← hw3]; exact hF2'.drewN _
    clear hw3 hF2' H2 c0 c1
    have c1 : w3.cell? ⟨pb, 1, none⟩ = some (.slice (some ⟨g, 0, none⟩) l1.length cap) := by rw [cell_of_heap hC3.blk]; rfl
    have c2 : w3.cell? ⟨pb, 2, none⟩ = some (.map (some mb)) := by rw [cell_of_heap hC3.blk]; rfl
    obtain ⟨x, hx⟩ : ∃ x, x = l1.headD [] := ⟨_, rfl⟩
    have cg : w3.cell? ⟨g, 0, none⟩ = some (str x) := by
      rw [hC3.row.cellAt 0 (by omega), hx]
      cases l1 with
      | nil => simp at hn1
      | cons x l => rfl
    obtain ⟨es2, clock2, hdel, hmap2⟩ := MapIs.delete (w := w3.drew) mapKey mapUnd hC3.map x 0
    have h0 : (0 : Int) < (l1.length : Int) := by omega
    have H3 := Hd hC3
    have HX := Hd hx
    clear hC3 hx
    go_region
    have hC4 : CacheAt (putMap w3.drew mb es2 clock2) pb mb (.slice (some ⟨g, 0, none⟩) l1.length cap) many l1 (mdel x m1) := by
      refine ⟨by rw [putMap_heap, if_neg (fun e => H3.out.pb_mb e.1)]; exact H3.out.blk, ?_, hmap2⟩
      refine H3.out.row.kept (row := some mb) ⟨rfl, rfl, rfl, by simp [putMap], fun k _ hk => ?_⟩ (Or.inr H3.out.ne_mb)
      rw [putMap_heap, if_neg (fun e => hk (by rw [e.1]))]; rfl
    have hF4 : Fr w.heap.size (foot pb mb lv) w (putMap w3.drew mb es2 clock2) := hF3.drew.putMap (fun _ => Or.inr (Or.inl rfl)) _ _
    clear hmap2 hdel c1 c2 cg hF3 H3
    generalize putMap w3.drew mb es2 clock2 = w4 at *
    have c1 : w4.cell? ⟨pb, 1, none⟩ = some (.slice (some ⟨g, 0, none⟩) l1.length cap) := by rw [cell_of_heap hC4.blk]; rfl
    have f1 : w4.frozen? ⟨pb, 1, none⟩ = false := free_of_heap hC4.blk 1
    have hcap : l1.length ≤ cap ∧ cap ≤ 9223372036854775807 := by
      rcases hC4.row.2 with ⟨h', _⟩ | ⟨_, _, _, h', _, _, h1, h2, _⟩
      · cases h'
      · cases h'; unfold maxLen at h2; omega
    have H4 := Hd hC4
    clear hC4
    go_wp2_with fail
    refine (delete_first g cap l1 w4 H4.out.row (by omega) hcap.1 hcap.2).mono ?_
    rintro e w5 ⟨rfl, ho5, hg5⟩
    have hgpb : g ≠ pb := fun e => H4.out.ne_pb (by rw [e]; rfl)
    have hgmb : g ≠ mb := fun e => H4.out.ne_mb (by rw [e]; rfl)
    have hF5 : Fr w.heap.size (fun k => foot pb mb lv k ∨ k = g) w w5 := (hF4.mono (Nat.le_refl _) (fun k _ hk => Or.inl hk)).grown hg5 hF4.size (fun k hk _ => by cases hk; exact Or.inr rfl)
    have hpb4 := lt_of_heap H4.out.blk
    have hmb4 := H4.out.map.lt
    have c1 : w5.cell? ⟨pb, 1, none⟩ = some (.slice (some ⟨g, 0, none⟩) l1.length cap) := hg5.cell c1 (by simp; exact fun e => hgpb e.symm)
    have f1 : w5.frozen? ⟨pb, 1, none⟩ = false := by rw [World.frozen?_of_block (hg5.block pb hpb4 (by simp; exact fun e => hgpb e.symm))]; exact f1
    have hb5 : w5.heap[pb]? = some (.cells #[.int .i64 many, .slice (some ⟨g, 0, none⟩) l1.length cap, .map (some mb)] 155 (0, 0)) := (hg5.block pb hpb4 (by simp; exact fun e => hgpb e.symm)).trans H4.out.blk
    have HB5 := Hd hb5
    clear hb5
    go_wp2_with fail
    go_end0
    refine ⟨rfl, .slice (some ⟨g, 0, none⟩) (l1.length - 1) cap, ?_, ?_, hl2'⟩
    · rw [HX1.out, HX2.out, if_pos hlt, if_pos hlt, ← HX.out]
      refine ⟨Kf.heap_setCell_same HB5.out _, ?_, ?_⟩
      · rw [List.length_tail]
        exact ownsRow_setCell_other ho5 (by simp [Value.ownBlock]; exact hgpb) _
      · exact (H4.out.map.of_block (hg5.block mb hmb4 (by simp; exact fun e => hgmb e.symm))).of_block (Below.heap_setCell _ _ _ _ (fun e => H4.out.pb_mb e.symm))
    · refine Fr.setCell (p := ⟨pb, 1, none⟩) (hF5.mono (S' := foot pb mb lv) (Nat.le_refl _) ?_) (fun _ => Or.inl rfl) _
      rintro k hk (hk' | rfl)
      · exact hk'
      · rcases hl2' k rfl with h | h
        · exact Or.inr (Or.inr h)
        · omega
  · have hd : decide ((many : Int) < (l1.length : Int)) = false := by simp; omega
    go_wp2_with fail
    go_quiet (fail)
    go_wp2_with fail
    go_end0
    refine ⟨rfl, _, ?_, hF2'.drewN _, hl2'⟩
    rw [HX1.out, HX2.out, if_neg hlt, if_neg hlt]
    exact H2.out.drewN _
end Go.Proofs.YtgjialbmlhbngaaGreatDoor

namespace Go.Proofs.YtgjialbmlhbngaaGreatDoor
open Go Go.Kf
theorem mem_without {x y : List UInt8} {K : List (List UInt8)} : y ∈ without x K ↔ y ∈ K ∧ y ≠ x := by
  unfold without
  rw [List.mem_filter]
  simp
theorem without_lt {x : List UInt8} {K : List (List UInt8)} (hx : x ∈ K) : (without x K).length < K.length := by
  unfold without
  rw [List.length_filter_lt_length_iff_exists]
  exact ⟨x, hx, by simp⟩
end Go.Proofs.YtgjialbmlhbngaaGreatDoor

namespace Go.Kf
open Go
theorem digits_short4 {n : Nat} (h : n ≤ 4000) : (Lib.decDigits n).length ≤ 4 := by
  rw [Lib.decDigits_length, Lib.nDigits]
  split
  · omega
  · rw [Lib.nDigits]
    split
    · omega
    · rw [Lib.nDigits]
      split
      · omega
      · rw [Lib.nDigits_small (by omega)]
        omega
theorem cnt_short4 {s : List UInt8} (h : s.length ≤ 4000) : (cnt s).length ≤ s.length + 5 := by
  unfold cnt
  have := digits_short4 h
  simp
  omega
theorem flat_short4 : ∀ {l : List (List UInt8)}, (∀ s ∈ l, s.length ≤ 4000) → ((l.map cnt).flatten).length ≤ 4005 * l.length
  | [], _ => by simp
  | s :: l, h => by
    have h1 := cnt_short4 (h s List.mem_cons_self)
    have h0 := h s List.mem_cons_self
    have h2 := flat_short4 (l := l) (fun t ht => h t (List.mem_cons_of_mem _ ht))
    simp only [List.map_cons, List.flatten_cons, List.length_append, List.length_cons]
    omega
theorem keyL_short4 {k w : List UInt8} {l : List (List UInt8)} (hk : k.length ≤ 1000) (hw : w.length ≤ 1000) (hl : ∀ s ∈ l, s.length ≤ 4000) (hn : l.length ≤ 1000) : (keyL k w l).length ≤ 5000000 := by
  have a := cnt_short hk
  have b := cnt_short hw
  have c := flat_short4 hl
  unfold keyL
  simp only [List.length_append]
  omega
end Go.Kf
namespace Go.Proofs.YtgjialbmlhbngaaGreatDoor
open Go Go.RowKit Go.Kf
theorem counted4_any (s : List UInt8) (w : World) (hs : s.length ≤ 4000) (ht : Tab w) : Calls Tryz.prog 163 #[str s] w fun e w' => e = .returned (str (cnt s)) ∧ Below w.heap.size w w' := by
  have HT := Hd ht
  clear ht
  go_enter Tryz.func163, Tryz.ntmps163
  go_wp2_with fail
  refine (itoa_any s.length w (by omega) HT.out).mono ?_
  rintro e w1 ⟨rfl, hb⟩
  have hd := digits_short4 hs
  go_wp2
  go_ret
  refine ⟨?_, hb⟩
  simp only [str_app, cnt]
  simp
set_option maxHeartbeats 1000000 in
theorem key4_any (kd wd : List UInt8) (v : Value) (l : List (List UInt8)) (w : World) (ht : Tab w) (hr : Reads w v (l.map str))
    (hk : kd.length ≤ 1000) (hw : wd.length ≤ 1000) (hl : ∀ s ∈ l, s.length ≤ 4000) (hn : l.length ≤ 1000) :
    Calls Tryz.prog 95 #[str kd, str wd, v] w fun e w' => e = .returned (str (keyL kd wd l)) ∧ Below w.heap.size w w' := by
  obtain ⟨a, cap, rfl, -, -⟩ := id hr
  simp only [List.length_map] at *
  have HR := Hd hr
  have HT := Hd ht
  have HL := Hd hl
  have hck := cnt_short hk
  have hcw := cnt_short hw
  have hw0 : Below w.heap.size w (w.alloc (.cells #[.pointer none, .slice none 0 0] 138)) := (Below.refl _ _).alloc (Nat.le_refl _) _
  have hB0 := Lib.fresh_isBuilder 138 5 w
  have HB0 := Hd hB0
  clear hr ht hl hB0
  go_enter Tryz.func95, Tryz.ntmps95
  go_wp2_with fail
  refine (counted_any kd _ hk (tab_below HT.out hw0 (Nat.le_refl _))).mono ?_
  rintro e w1 ⟨rfl, hb1⟩
  have b1 := hw0.trans (hb1.mono (by simp))
  have HB1 := Hd (builder_below HB0.out hb1)
  have z1 : w.heap.size < w1.heap.size := by have := hb1.size; simp at this; omega
  clear hb1
  go_wp2_with fail
  refine (counted_any wd _ hw (tab_below HT.out b1 (Nat.le_refl _))).mono ?_
  rintro e w2 ⟨rfl, hb2⟩
  have b2 := b1.trans (hb2.mono b1.size)
  have HB2 := Hd (builder_below HB1.out hb2)
  have z2 : w.heap.size < w2.heap.size := by have := hb2.size; omega
  clear hb2
  go_wp2_with fail
  refine (writeString_any w.heap.size w.heap.size [] _ w2 HB2.out (by rw [Lib.size_eq]; simp; omega) b2.size).mono ?_
  rintro e w3 ⟨rfl, hB3, hb3⟩
  have b3 := b2.trans hb3
  have z3 : w.heap.size < w3.heap.size := by have := hb3.size; omega
  rw [str_app, Lib.strCells_toArray, List.nil_append, ← keyL_nil] at hB3
  have HB3 := Hd hB3
  clear hb3 hB3
  go_wp2_with fail
  go_loopw [18] (fun i wl => ∃ j : Nat, j ≤ l.length ∧ i = .int .i64 j ∧ Lib.BuilderAt 138 5 w.heap.size w.heap.size (.pointer (some ⟨w.heap.size, 0, none⟩)) (Lib.byteCells (keyL kd wd (l.take j))) wl ∧ Below w.heap.size w wl) (fun i _ => l.length - (intOf i).toNat)
  case atStart => exact ⟨0, by omega, rfl, by simpa using HB3.out, b3⟩
  case round =>
    obtain ⟨j, hj, rfl, hBj, hbj⟩ := hrel
    have HBj := Hd hBj
    have hsj : (keyL kd wd (l.take j)).length ≤ 5000000 := keyL_short4 hk hw (fun s hs => HL.out s (List.mem_of_mem_take hs)) (by simp; omega)
    clear hBj
    by_cases hlt : j < l.length
    · obtain ⟨b, o, hix, hce⟩ := (HR.out.below0 hbj).at (P := Tryz.prog) Tryz.underlying33 (by kernel_rfl) j (by simpa using hlt)
      simp only [List.getElem_map] at hce
      have hcj := cnt_short4 (HL.out l[j] (List.getElem_mem hlt))
      have hsl := HL.out l[j] (List.getElem_mem hlt)
      go_wp2_with fail
      refine (counted4_any l[j] _ hsl (tab_below HT.out hbj (Nat.le_refl _))).mono ?_
      rintro e w4 ⟨rfl, hb4⟩
      have b4 := hbj.trans (hb4.mono hbj.size)
      have HB4 := Hd (builderAt_below HBj.out hb4)
      clear hb4
      go_wp2_with fail
      refine (writeString_any w.heap.size w.heap.size _ _ w4 (Or.inr HB4.out) (by rw [Lib.size_eq, Lib.byteCells_length]; simp; omega) b4.size).mono ?_
      rintro e w5 ⟨rfl, hB5, hb5⟩
      have b5 := b4.trans hb5
      rw [Lib.strCells_toArray, ← Lib.byteCells_append, ← keyL_snoc, ← List.take_succ_eq_append_getElem hlt] at hB5
      have HB5 := Hd hB5
      clear hb5 hB5
      go_wp2
      go_roundw
      case rel => exact ⟨j + 1, by omega, by go_num, HB5.out, b5⟩
      case measure => simp [intOf]; omega
    · obtain rfl : j = l.length := by omega
      rw [List.take_length] at HBj
      go_wp2_with fail
      refine (Tryz.Builder_String_any w.heap.size w.heap.size _ _ (Or.inr HBj.out) hbj.size).mono ?_
      rintro e w6 ⟨rfl, hb6⟩
      go_wp2
      go_ret
      exact ⟨rfl, hbj.trans hb6⟩
end Go.Proofs.YtgjialbmlhbngaaGreatDoor
