/-
  The reference's cycle, in plain words; a square of numbers in memory.
-/
import Derived.Test.YtmlmogllgnfklaaGreatDoorCycP
import Derived.Test.YtmlmogllgnfklaaGreatDoorOrderP
import Derived.Laws.OwnMore
namespace Go.Proofs.YtmlmogllgnfklaaGreatDoor
open Go Go.RowKit Go.Kf Go.Sort Go.Proofs

theorem far_ex (E : Nat → List Nat) (n tg : Nat) : ∃ f, FarAt E n tg f := by
  have h : ∀ t, ∃ f l, FarSt E n tg f (t + 1) l := by
    intro t
    induction t with
    | zero => exact ⟨_, _, FarSt.zero E n tg⟩
    | succ t ih => obtain ⟨f, l, h⟩ := ih; exact ⟨_, _, h.step⟩
  obtain ⟨f, l, h⟩ := h (n + 1)
  by_cases hl : l = []
  · subst hl; exact ⟨f, h.stop (by omega)⟩
  · have := h.bound hl; omega
theorem FarAt.le {E : Nat → List Nat} {n tg : Nat} {f f' : List Int} (h : FarAt E n tg f) (h' : FarAt E n tg f') (hE : ∀ i, ∀ k ∈ E i, k < n) {i : Nat} (hi : i < n) (hp : 0 < fa f i) : 0 < fa f' i ∧ fa f' i ≤ fa f i := by
  obtain ⟨d, hd⟩ : ∃ d : Nat, fa f i = (d : Int) + 1 := ⟨(fa f i - 1).toNat, by omega⟩
  have := h'.of_way (Nat.le_refl n) hi (h.way hE d i hd)
  omega
theorem FarAt.same {E : Nat → List Nat} {n tg : Nat} {f f' : List Int} (h : FarAt E n tg f) (h' : FarAt E n tg f') (hE : ∀ i, ∀ k ∈ E i, k < n) : f = f' := by
  apply List.ext_getElem
  · rw [h.len, h'.len]
  · intro i h1 h2
    have hi : i < n := by rw [← h.len]; exact h1
    rw [← fa_at h1, ← fa_at h2]
    rcases h.range i with e | e
    · rcases h'.range i with e' | e'
      · rw [e, e']
      · have := h'.le h hE hi (by omega)
        omega
    · have h3 := h.le h' hE hi (by omega)
      have h4 := h'.le h hE hi h3.1
      omega
theorem cyc_same {l : List RuleL} {c c' : List Nat} (h : CycR l c) (h' : CycR l c') : c = c' := by
  have hpl : ∀ {i f}, FarAt (edgesB l) l.length i f → 0 < fa f i → Plus (edgesB l) i i := fun {i f} hf hp => by
    obtain ⟨d, hd⟩ : ∃ d : Nat, fa f i = (d : Int) + 1 := ⟨(fa f i - 1).toNat, by omega⟩
    exact hf.plus d i hd
  rcases h with ⟨i, f, hi, hf, hp, hm, rfl⟩ | ⟨rfl, hn⟩
  · rcases h' with ⟨j, g, hj, hg, hq, hk, rfl⟩ | ⟨rfl, hn'⟩
    · have : i = j := by
        rcases Nat.lt_trichotomy i j with h1 | h1 | h1
        · exact absurd (hpl hf hp) (hk i h1)
        · exact h1
        · exact absurd (hpl hg hq) (hm j h1)
      subst this
      rw [hf.same hg (edges_lt l)]
    · exact absurd (hpl hf hp) (hn' i hi)
  · rcases h' with ⟨j, g, hj, hg, hq, hk, rfl⟩ | ⟨rfl, hn'⟩
    · exact absurd (hpl hg hq) (hn j hj)
    · rfl
theorem find_first {n x : Nat} {p q : Nat → Bool} (h : ((List.range n).filter p).find? q = some x) : x < n ∧ p x = true ∧ q x = true ∧ ∀ j, j < x → p j = true → q j = false := by
  rw [List.find?_filter] at h
  have h1 := List.find?_range_eq_some.1 h
  have h2 := h1.1
  simp only [decide_eq_true_eq] at h2
  refine ⟨List.mem_range.1 h1.2.1, h2.1, h2.2, fun j hj hp => ?_⟩
  have := h1.2.2 j hj
  simpa [hp] using this

/-! ### a square of numbers -/
theorem ints_info : (Tryz.prog.info? 3).map (fun i => (i.zero, i.size, i.bytes)) = some (some (.int .i64 0), 1, 8) := by kernel_rfl
theorem make_ints (n : Nat) (hn : n ≤ 1000000) (w : World) :
    (Instr.makeSlice 28 (.int .i64 (n : Int)) (.int .i64 (n : Int))).run Tryz.prog w = .ok (.slice (some ⟨w.heap.size, 0, none⟩) n n) (w.alloc (.cells (List.replicate n (Value.int .i64 0)).toArray 3)) := by
  obtain ⟨i0, hi, hz0, hz1, hz2⟩ := info_parts ints_info
  have h := run_make (P := Tryz.prog) w 28 3 i0 (.int .i64 0) Tryz.underlying28 hi hz0 .i64 .i64 (n : Int) (n : Int) (by omega) (by omega) (by rw [hz2]; omega) (by omega)
  rw [h, hz1]
  have e : ((n : Int)).toNat = n := by omega
  rw [e, Nat.mul_one]
  have e2 : (Value.int .i64 0).cells = #[.int .i64 0] := rfl
  have e3 : madeCells #[Value.int .i64 0] n = (List.replicate n (Value.int .i64 0)).toArray := by
    apply Array.ext
    · simp [size_madeCells]
    · intro i h1 h2
      simp [madeCells, Nat.mod_one]
  rw [e2, e3]
/-- The first m rows of a square of n by n numbers lie in blocks of their own. -/
structure MatAt (w : World) (G n : Nat) (g : Nat → Nat) (m : Nat) (D : Nat → Nat → Nat) : Prop where
  row : VRow 28 w G ((List.range n).map fun i => if i < m then .slice (some ⟨g i, 0, none⟩) n n else .slice none 0 0)
  cells : ∀ i, i < m → VRow 3 w (g i) ((List.range n).map fun k => intE (D i k))
  gt : ∀ i, i < m → G < g i
  inj : ∀ i j, i < m → j < m → g i = g j → i = j
theorem MatAt.below0 {w w' : World} {G n m : Nat} {g : Nat → Nat} {D : Nat → Nat → Nat} (h : MatAt w G n g m D) (hb : Below w.heap.size w w') : MatAt w' G n g m D :=
  ⟨h.row.below0 hb, fun i hi => (h.cells i hi).below0 hb, h.gt, h.inj⟩
theorem MatAt.row_at {w : World} {G n m : Nat} {g : Nat → Nat} {D : Nat → Nat → Nat} (h : MatAt w G n g m D) {i : Nat} (hi : i < m) (hn : i < n) : w.cell? ⟨G, i, none⟩ = some (.slice (some ⟨g i, 0, none⟩) n n) :=
  h.row.cell (by rw [List.getElem?_map, List.getElem?_range hn, Option.map_some, if_pos hi])
theorem MatAt.at {w : World} {G n m : Nat} {g : Nat → Nat} {D : Nat → Nat → Nat} (h : MatAt w G n g m D) {i k : Nat} (hi : i < m) (hk : k < n) : w.cell? ⟨g i, k, none⟩ = some (intE (D i k)) :=
  (h.cells i hi).cell (by rw [List.getElem?_map, List.getElem?_range hk, Option.map_some])
theorem MatAt.congr {w : World} {G n m : Nat} {g : Nat → Nat} {D D' : Nat → Nat → Nat} (h : MatAt w G n g m D) (he : ∀ a b, a < m → b < n → D a b = D' a b) : MatAt w G n g m D' :=
  ⟨h.row, fun i hi => by
    have := h.cells i hi
    rw [List.map_congr_left (g := fun k => intE (D' i k)) (fun k hk => by rw [he i k hi (List.mem_range.1 hk)])] at this
    exact this, h.gt, h.inj⟩
theorem MatAt.set {w : World} {G n m : Nat} {g : Nat → Nat} {D : Nat → Nat → Nat} (h : MatAt w G n g m D) {i k : Nat} (hi : i < m) (_hk : k < n) (v : Nat) : MatAt (w.setCell ⟨g i, k, none⟩ (intE v)) G n g m (fwSet D i k v) := by
  have hfr : Fr w.heap.size (fun q => q = g i) w (w.setCell ⟨g i, k, none⟩ (intE v)) := Fr.setCell (S := fun q => q = g i) (p := ⟨g i, k, none⟩) (Fr.refl w.heap.size _ w) (fun _ => rfl) _
  refine ⟨h.row.fr hfr h.row.lt (fun e => by have := h.gt i hi; omega), fun j hj => ?_, h.gt, h.inj⟩
  by_cases hji : j = i
  · subst hji
    have h1 := (h.cells j hj).set k (intE v)
    have e : ((List.range n).map fun k => intE (D j k)).set k (intE v) = (List.range n).map fun b => intE (fwSet D j k v j b) := by
      apply List.ext_getElem
      · simp
      · intro b h1 h2
        rw [List.getElem_set]
        simp only [List.getElem_map, List.getElem_range, fwSet]
        by_cases hb : k = b
        · subst hb; simp
        · have hb2 : ¬ b = k := fun e => hb e.symm
          simp [hb, hb2]
    rw [e] at h1
    exact h1
  · have h1 := (h.cells j hj).fr hfr (h.cells j hj).lt (fun e => hji (h.inj j i hj hi e))
    have e : (fun b => intE (fwSet D i k v j b)) = fun b => intE (D j b) := by
      funext b
      simp [fwSet, hji]
    rw [e]
    exact h1
theorem MatAt.zero (w : World) (n : Nat) : MatAt (w.alloc (.cells (List.replicate n (Value.slice none 0 0)).toArray 28)) w.heap.size n (fun _ => 0) 0 (fun _ _ => 0) := by
  refine ⟨?_, fun i hi => absurd hi (Nat.not_lt_zero i), fun i hi => absurd hi (Nat.not_lt_zero i), fun i j hi => absurd hi (Nat.not_lt_zero i)⟩
  have e : ((List.range n).map fun i => if i < 0 then Value.slice (some ⟨0, 0, none⟩) n n else .slice none 0 0) = List.replicate n (Value.slice none 0 0) := by
    apply List.ext_getElem
    · simp
    · intro i h1 h2
      simp
  rw [e]
  exact heap_alloc_here w _
theorem MatAt.add {w : World} {G n m : Nat} {g : Nat → Nat} {D : Nat → Nat → Nat} (h : MatAt w G n g m D) (hm : m < n) :
    MatAt ((w.alloc (.cells (List.replicate n (Value.int .i64 0)).toArray 3)).setCell ⟨G, m, none⟩ (.slice (some ⟨w.heap.size, 0, none⟩) n n)) G n (fun j => if j = m then w.heap.size else g j) (m + 1) (fun a b => if a = m then 0 else D a b) := by
  have hA : Below w.heap.size w (w.alloc (.cells (List.replicate n (Value.int .i64 0)).toArray 3)) := (Below.refl _ w).alloc (Nat.le_refl _) _
  have h1 := h.below0 hA
  have h2 : VRow 3 (w.alloc (.cells (List.replicate n (Value.int .i64 0)).toArray 3)) w.heap.size (List.replicate n (Value.int .i64 0)) := heap_alloc_here w _
  have hz : (w.alloc (.cells (List.replicate n (Value.int .i64 0)).toArray 3)).heap.size = w.heap.size + 1 := by simp
  generalize w.alloc (.cells (List.replicate n (Value.int .i64 0)).toArray 3) = W at h1 h2 hz hA ⊢
  have hGl := h.row.lt
  have hfr : Fr W.heap.size (fun q => q = G) W (W.setCell ⟨G, m, none⟩ (.slice (some ⟨w.heap.size, 0, none⟩) n n)) := Fr.setCell (S := fun q => q = G) (p := ⟨G, m, none⟩) (Fr.refl W.heap.size _ W) (fun _ => rfl) _
  refine ⟨?_, fun j hj => ?_, fun j hj => ?_, fun i j hi hj e => ?_⟩
  · have h3 := h1.row.set m (.slice (some ⟨w.heap.size, 0, none⟩) n n)
    have e : ((List.range n).map fun i => if i < m then Value.slice (some ⟨g i, 0, none⟩) n n else .slice none 0 0).set m (.slice (some ⟨w.heap.size, 0, none⟩) n n) = (List.range n).map fun i => if i < m + 1 then Value.slice (some ⟨if i = m then w.heap.size else g i, 0, none⟩) n n else .slice none 0 0 := by
      apply List.ext_getElem
      · simp
      · intro b h1 h2
        rw [List.getElem_set]
        simp only [List.getElem_map, List.getElem_range]
        by_cases hb : m = b
        · subst hb; simp
        · have hb2 : ¬ b = m := fun e => hb e.symm
          by_cases hlt : b < m
          · rw [if_neg hb, if_pos hlt, if_pos (by omega), if_neg hb2]
          · rw [if_neg hb, if_neg hlt, if_neg (by omega)]
    rw [e] at h3
    exact h3
  · by_cases hjm : j = m
    · subst hjm
      simp only [if_true]
      have h3 := h2.fr hfr h2.lt (fun e => by omega)
      have e : (List.replicate n (Value.int .i64 0)) = (List.range n).map fun _ => intE 0 := by
        apply List.ext_getElem
        · simp
        · intro i h1 h2
          simp [intE]
      rw [e] at h3
      exact h3
    · simp only [if_neg hjm]
      have hjm2 : j < m := by omega
      exact (h1.cells j hjm2).fr hfr (h1.cells j hjm2).lt (fun e => by have := h.gt j hjm2; omega)
  · by_cases hjm : j = m
    · rw [if_pos hjm]; omega
    · rw [if_neg hjm]; exact h.gt j (by omega)
  · by_cases him : i = m
    · by_cases hjm : j = m
      · omega
      · rw [if_pos him, if_neg hjm] at e
        have := (h.cells j (by omega)).lt
        omega
    · by_cases hjm : j = m
      · rw [if_neg him, if_pos hjm] at e
        have := (h.cells i (by omega)).lt
        omega
      · rw [if_neg him, if_neg hjm] at e
        exact h.inj i j (by omega) (by omega) e
end Go.Proofs.YtmlmogllgnfklaaGreatDoor

/-
  The reference: CycleOf.
-/
namespace Go.Proofs.YtmlmogllgnfklaaGreatDoor
open Go Go.RowKit Go.Kf Go.Sort Go.Proofs

theorem idx_rows (G n i : Nat) (hi : i < n) (w' : World) : (Instr.indexAt 72 (.slice (some ⟨G, 0, none⟩) n n) (.int .i64 (i : Int))).run Tryz.prog w' = .ok (.pointer (some ⟨G, i, none⟩)) w' :=
  idx_at (P := Tryz.prog) (T := 72) (E := 28) Tryz.underlying72 (by kernel_rfl) G n n i hi w'
theorem idx_ints (G n i : Nat) (hi : i < n) (w' : World) : (Instr.indexAt 28 (.slice (some ⟨G, 0, none⟩) n n) (.int .i64 (i : Int))).run Tryz.prog w' = .ok (.pointer (some ⟨G, i, none⟩)) w' :=
  idx_at (P := Tryz.prog) (T := 28) (E := 3) Tryz.underlying28 (by kernel_rfl) G n n i hi w'

set_option maxRecDepth 100000 in
set_option maxHeartbeats 4000000 in
theorem cycleOf_any (R : List RV) (v : Value) (w : World) (hr : ReadsK 4 w v (R.map rvRow)) (hx : ∀ x ∈ R, Reads w x.2 (x.1.ins.map str)) (hn : R.length ≤ 900) :
    Calls Tryz.prog 33 #[v] w fun e w' => ∃ c u, CycR (R.map Prod.fst) c ∧ e = .returned u ∧ w'.ownsRow w.heap.size 3 1 u c.length ((intsB c).map (Value.int .i64)) ∧ Below w.heap.size w w' := by
  have hrow : ∀ r ∈ R.map rvRow, r ≠ [] := fun r hr => by obtain ⟨x, -, rfl⟩ := List.mem_map.1 hr; simp [rvRow]
  obtain ⟨a, c, hv, hle, -⟩ := id hr
  rw [List.length_map] at hv hle
  subst hv
  have KR := Lib.hid (fun wl (hb : Below w.heap.size w wl) i k (hi : i < R.length) (hk : k < R.length) => needs_any R (.slice a R.length c) i k wl (readsK_below0 hr hrow hb) (fun x h => (hx x h).below0 hb) hi hk)
  obtain ⟨L, hL⟩ : ∃ L, R.map Prod.fst = L := ⟨_, rfl⟩
  have hLn : L.length = R.length := by rw [← hL]; simp
  rw [hL] at KR ⊢
  have HLN := Lib.hid hLn
  have HNE : Hid (∀ i k, k < R.length → (needB L i k = true ↔ k ∈ edgesB L i)) := Lib.hid (fun i k hk => ⟨fun h => need_edges (by rw [hLn]; exact hk) h, fun h => (edges_need h).2⟩)
  have hmk := make_rows R.length (by omega) w
  have hmi := make_ints R.length (by omega)
  have hm0 := MatAt.zero w R.length
  obtain ⟨W1, hW1⟩ : ∃ W, w.alloc (.cells (List.replicate R.length (Value.slice none 0 0)).toArray 28) = W := ⟨_, rfl⟩
  have hA : Below w.heap.size w W1 := hW1 ▸ (Below.refl _ w).alloc (Nat.le_refl _) _
  rw [hW1] at hmk hm0
  have HM0 := Lib.hid hm0
  have HA := Lib.hid hA
  have hir := fun i (hi : i < R.length) w' => idx_rows w.heap.size R.length i hi w'
  have HIR := Lib.hid hir
  clear hr hx hL hLn hrow hm0 hA hir hW1
  go_enter Tryz.func33, Tryz.ntmps33
  go_wp2_with fail
  go_loopw [5] (fun iv wl => ∃ (i : Nat) (g : Nat → Nat) (D : Nat → Nat → Nat), i ≤ R.length ∧ iv = .int .i64 i ∧ MatAt wl w.heap.size R.length g i D ∧ (∀ a b, a < i → b < R.length → D a b = farOne (edgesB L) a b) ∧ Below w.heap.size w wl) (fun iv _ => R.length - (intOf iv).toNat)
  case atStart => exact ⟨0, _, _, by omega, rfl, HM0.out, fun a b h _ => absurd h (Nat.not_lt_zero a), HA.out⟩
  case round =>
    obtain ⟨i, g, D, hi, rfl, hma, hD, hbi⟩ := hrel
    by_cases hlt : i < R.length
    · have hlc : ((i : Int) < (R.length : Int)) = True := eq_true (by omega)
      have hixi := HIR.out i hlt
      have hmiw := hmi wr
      have hma2 := hma.add hlt
      obtain ⟨W2, hW2⟩ : ∃ W, wr.alloc (.cells (List.replicate R.length (Value.int .i64 0)).toArray 3) = W := ⟨_, rfl⟩
      have hA1 : Below wr.heap.size wr W2 := hW2 ▸ (Below.refl _ wr).alloc (Nat.le_refl _) _
      rw [hW2] at hmiw hma2
      have HMA := Lib.hid hma2
      have HBA := Lib.hid ((hbi.trans (hA1.mono hbi.size)).setCell (p := ⟨w.heap.size, i, none⟩) (Nat.le_refl _) (.slice (some ⟨wr.heap.size, 0, none⟩) R.length R.length))
      have hrw := hma.row.below0 hA1
      have hfz := VRow.frozen hrw
      have hcz : W2.cell? ⟨w.heap.size, i, none⟩ = some (.slice none 0 0) := hrw.cell (by rw [List.getElem?_map, List.getElem?_range hlt, Option.map_some, if_neg (by omega)])
      have HDO := Lib.hid hD
      clear hma hma2 hD hbi hrw hA1 hmi hW2
      go_wp2_with fail
      go_loopw [6] (fun kv wl => ∃ (k : Nat) (g : Nat → Nat) (D : Nat → Nat → Nat), k ≤ R.length ∧ kv = .int .i64 k ∧ MatAt wl w.heap.size R.length g (i + 1) D ∧ (∀ a b, a < i → b < R.length → D a b = farOne (edgesB L) a b) ∧ (∀ b, b < k → D i b = farOne (edgesB L) i b) ∧ Below w.heap.size w wl) (fun kv _ => R.length - (intOf kv).toNat)
      case atStart => exact ⟨0, _, _, by omega, rfl, HMA.out, fun a b ha hb => by have := HDO.out a b ha hb; rw [if_neg (by omega)]; exact this, fun b hb => absurd hb (Nat.not_lt_zero b), HBA.out⟩
      case round =>
        obtain ⟨k, g2, D2, hk, rfl, hma, hD, hDk, hbk⟩ := hrel
        by_cases hlk : k < R.length
        · have hlc2 : ((k : Int) < (R.length : Int)) = True := eq_true (by omega)
          have hri := hma.row_at (i := i) (by omega) hlt
          have hci := hma.at (i := i) (k := k) (by omega) hlk
          have hfr := VRow.frozen (hma.cells i (by omega))
          have hgi := hma.gt i (by omega)
          have hixk := fun w' => idx_ints (g2 i) R.length k hlk w'
          have hm1 := hma.set (i := i) (k := k) (by omega) hlk 1000
          have hb1 := hbk.setCell (p := ⟨g2 i, k, none⟩) (by show w.heap.size ≤ g2 i; omega) (intE 1000)
          obtain ⟨W5, hW5⟩ : ∃ W, wr.setCell ⟨g2 i, k, none⟩ (intE 1000) = W := ⟨_, rfl⟩
          have hW5' : wr.setCell ⟨g2 i, k, none⟩ (.int .i64 1000) = W5 := hW5
          rw [hW5] at hm1 hb1
          have HM1 := Lib.hid hm1
          have HB1 := Lib.hid hb1
          have HZ := Lib.hid hb1.size
          have K := Lib.hid (KR.out W5 hb1 i k hlt hlk)
          have HDO2 := Lib.hid hD
          have HDK2 := Lib.hid hDk
          have HGI := Lib.hid hgi
          clear hma hD hDk hbk hm1 hb1
          cases hnb : needB L i k with
          | false =>
            rw [hnb] at K
            have HF : Hid (1000 = farOne (edgesB L) i k) := Lib.hid (by
              unfold farOne
              rw [if_neg (fun h => by have := (HNE.out i k hlk).2 h; rw [hnb] at this; cases this)])
            clear hnb
            go_wp2_with fail
            refine K.out.mono ?_
            rintro e w6 ⟨rfl, hb6⟩
            have HM6 := Lib.hid (HM1.out.below0 hb6)
            have HB6 := Lib.hid (HB1.out.trans (hb6.mono (by have := HM1.out.row.lt; omega)))
            clear hb6
            go_wp2
            go_roundw
            case rel =>
              refine ⟨k + 1, _, _, by omega, by go_num, HM6.out, fun a b ha hb => ?_, fun b hb => ?_, HB6.out⟩
              · unfold fwSet
                rw [if_neg (by omega)]
                exact HDO2.out a b ha hb
              · unfold fwSet
                by_cases hbk : b = k
                · rw [if_pos ⟨rfl, hbk⟩, hbk]; exact HF.out
                · rw [if_neg (fun h => hbk h.2)]; exact HDK2.out b (by omega)
            case measure => simp [intOf]; omega
          | true =>
            rw [hnb] at K
            have HF : Hid (1 = farOne (edgesB L) i k) := Lib.hid (by
              unfold farOne
              rw [if_pos ((HNE.out i k hlk).1 hnb)])
            clear hnb
            go_wp2_with fail
            refine K.out.mono ?_
            rintro e w6 ⟨rfl, hb6⟩
            have hm6 := HM1.out.below0 hb6
            have hb6' := HB1.out.trans (hb6.mono (by have := HM1.out.row.lt; omega))
            clear hri hci hfr
            have hri := hm6.row_at (i := i) (by omega) hlt
            have hci := hm6.at (i := i) (k := k) (by omega) hlk
            have hfr := VRow.frozen (hm6.cells i (by omega))
            have HM7 := Lib.hid (hm6.set (i := i) (k := k) (by omega) hlk 1)
            have HB7 := Lib.hid (hb6'.setCell (p := ⟨g2 i, k, none⟩) (by have := HGI.out; show w.heap.size ≤ g2 i; omega) (intE 1))
            clear hb6 hm6 hb6'
            go_wp2
            go_roundw
            case rel =>
              refine ⟨k + 1, _, _, by omega, by go_num, HM7.out, fun a b ha hb => ?_, fun b hb => ?_, HB7.out⟩
              · unfold fwSet
                rw [if_neg (by omega), if_neg (by omega)]
                exact HDO2.out a b ha hb
              · unfold fwSet
                by_cases hbk : b = k
                · rw [if_pos ⟨rfl, hbk⟩, hbk]; exact HF.out
                · rw [if_neg (fun h => hbk h.2), if_neg (fun h => hbk h.2)]; exact HDK2.out b (by omega)
            case measure => simp [intOf]; omega
        · obtain rfl : k = R.length := by omega
          have hlc2 : ((R.length : Int) < (R.length : Int)) = False := eq_false (by omega)
          have HM := Lib.hid hma
          have HB := Lib.hid hbk
          have HDD : Hid (∀ a b, a < i + 1 → b < R.length → D2 a b = farOne (edgesB L) a b) := Lib.hid (fun a b ha hb => by
            by_cases hai : a = i
            · subst hai; exact hDk b hb
            · exact hD a b (by omega) hb)
          clear hma hD hDk hbk
          go_wp2
          go_roundw
          case rel => exact ⟨i + 1, _, _, by omega, by go_num, HM.out, HDD.out, HB.out⟩
          case measure => simp [intOf]; omega
    · obtain rfl : i = R.length := by omega
      have hlc : ((R.length : Int) < (R.length : Int)) = False := eq_false (by omega)
      have HM1 := Lib.hid (hma.congr (D' := farOne (edgesB L)) hD)
      have HB1 := Lib.hid hbi
      clear hma hD hbi hmi
      have HZ0 : Hid (Fw (edgesB L) R.length 0 0 (farOne (edgesB L))) := Lib.hid (Fw.zero _ _)
      go_wp2_with fail
      go_loopw [7] (fun mv wl => ∃ (m : Nat) (D : Nat → Nat → Nat), m ≤ R.length ∧ mv = .int .i64 m ∧ MatAt wl w.heap.size R.length g R.length D ∧ Fw (edgesB L) R.length m 0 D ∧ Below w.heap.size w wl) (fun mv _ => R.length - (intOf mv).toNat)
      case atStart => exact ⟨0, _, by omega, rfl, HM1.out, HZ0.out, HB1.out⟩
      case round =>
        obtain ⟨m, D1, hm, rfl, hma, hfw, hbm⟩ := hrel
        by_cases hlm : m < R.length
        · have hlc3 : ((m : Int) < (R.length : Int)) = True := eq_true (by omega)
          have HMm := Lib.hid hma
          have HFm : Hid (Fw (edgesB L) R.length m (0 * R.length) D1) := Lib.hid (by rw [Nat.zero_mul]; exact hfw)
          have HBm := Lib.hid hbm
          clear hma hfw hbm
          go_wp2_with fail
          go_loopw [8] (fun iv wl => ∃ (i : Nat) (D : Nat → Nat → Nat), i ≤ R.length ∧ iv = .int .i64 i ∧ MatAt wl w.heap.size R.length g R.length D ∧ Fw (edgesB L) R.length m (i * R.length) D ∧ Below w.heap.size w wl) (fun iv _ => R.length - (intOf iv).toNat)
          case atStart => exact ⟨0, _, by omega, rfl, HMm.out, HFm.out, HBm.out⟩
          case round =>
            obtain ⟨i, D2, hi, rfl, hma, hfw, hbi⟩ := hrel
            by_cases hli : i < R.length
            · have hlc4 : ((i : Int) < (R.length : Int)) = True := eq_true (by omega)
              have HMi := Lib.hid hma
              have HFi : Hid (Fw (edgesB L) R.length m (i * R.length + 0) D2) := Lib.hid hfw
              have HBi := Lib.hid hbi
              clear hma hfw hbi
              go_wp2_with fail
              go_loopw [9] (fun kv wl => ∃ (k : Nat) (D : Nat → Nat → Nat), k ≤ R.length ∧ kv = .int .i64 k ∧ MatAt wl w.heap.size R.length g R.length D ∧ Fw (edgesB L) R.length m (i * R.length + k) D ∧ Below w.heap.size w wl) (fun kv _ => R.length - (intOf kv).toNat)
              case atStart => exact ⟨0, _, by omega, rfl, HMi.out, HFi.out, HBi.out⟩
              case round =>
                obtain ⟨k, D3, hk, rfl, hma, hfw, hbk⟩ := hrel
                by_cases hlk : k < R.length
                · have hlc5 : ((k : Int) < (R.length : Int)) = True := eq_true (by omega)
                  have hri := hma.row_at hli hli
                  have hrm := hma.row_at hlm hlm
                  have hci := hma.at hli hlm
                  have hcm := hma.at hlm hlk
                  have hck := hma.at hli hlk
                  have hfr := VRow.frozen (hma.cells i hli)
                  have hixim := fun w' => idx_ints (g i) R.length m hlm w'
                  have hixmk := fun w' => idx_ints (g m) R.length k hlk w'
                  have hixik := fun w' => idx_ints (g i) R.length k hlk w'
                  have hirI := HIR.out i hli
                  have hirM := HIR.out m hlm
                  have hle1 := hfw.le i m
                  have hle2 := hfw.le m k
                  have hle3 := hfw.le i k
                  have HMK := Lib.hid hma
                  have HFK := Lib.hid hfw
                  have HBK := Lib.hid hbk
                  have hgi : w.heap.size < g i := hma.gt i hli
                  by_cases hcmp : D3 i m + D3 m k < D3 i k
                  · have hcc : ((D3 i m : Int) + (D3 m k : Int) < (D3 i k : Int)) = True := eq_true (by omega)
                    have hww : IntKind.i64.wrap ((D3 i m : Int) + (D3 m k : Int)) = ((D3 i m + D3 m k : Nat) : Int) := by rw [IntWalk.i64_in _ (by omega)]; omega
                    have HFN := Lib.hid (hfw.step hlm hli hlk hcmp)
                    have HMN := Lib.hid (fun q => (hma.below0 (below_drewN (Below.refl _ _) q)).set hli hlk (D3 i m + D3 m k))
                    have HBN := Lib.hid (fun q => (below_drewN hbk q).setCell (p := ⟨g i, k, none⟩) (by show w.heap.size ≤ g i; omega) (intE (D3 i m + D3 m k)))
                    clear hma hfw hbk hcmp
                    go_wp2_with fail
                    go_quiet (fail)
                    go_wp2_with fail
                    go_region
                    go_wp2
                    go_roundw
                    case rel => exact ⟨k + 1, _, by omega, by go_num, HMN.out _, HFN.out, HBN.out _⟩
                    case measure => simp [intOf]; omega
                  · have hcc : ((D3 i m : Int) + (D3 m k : Int) < (D3 i k : Int)) = False := eq_false (by omega)
                    have hww : IntKind.i64.wrap ((D3 i m : Int) + (D3 m k : Int)) = (D3 i m : Int) + (D3 m k : Int) := IntWalk.i64_in _ (by omega)
                    have HFN := Lib.hid (hfw.skip hlm hlk hcmp)
                    clear hma hfw hbk hcmp
                    go_wp2_with fail
                    go_quiet (fail)
                    go_wp2
                    go_roundw
                    case rel => exact ⟨k + 1, _, by omega, by go_num, HMK.out.below0 (below_drewN (Below.refl _ _) _), HFN.out, below_drewN HBK.out _⟩
                    case measure => simp [intOf]; omega
                · obtain rfl : k = R.length := by omega
                  have hlc5 : ((R.length : Int) < (R.length : Int)) = False := eq_false (by omega)
                  have HMN := Lib.hid hma
                  have HFN : Hid (Fw (edgesB L) R.length m ((i + 1) * R.length) D3) := Lib.hid (by rw [Nat.succ_mul]; exact hfw)
                  have HBN := Lib.hid hbk
                  clear hma hfw hbk
                  go_wp2
                  go_roundw
                  case rel => exact ⟨i + 1, _, by omega, by go_num, HMN.out, HFN.out, HBN.out⟩
                  case measure => simp [intOf]; omega
            · obtain rfl : i = R.length := by omega
              have hlc4 : ((R.length : Int) < (R.length : Int)) = False := eq_false (by omega)
              have HMN := Lib.hid hma
              have HFN := Lib.hid hfw.turn
              have HBN := Lib.hid hbi
              clear hma hfw hbi
              go_wp2
              go_roundw
              case rel => exact ⟨m + 1, _, by omega, by go_num, HMN.out, HFN.out, HBN.out⟩
              case measure => simp [intOf]; omega
        · obtain rfl : m = R.length := by omega
          have hlc3 : ((R.length : Int) < (R.length : Int)) = False := eq_false (by omega)
          have HMF := Lib.hid (fun wl (hb : Below wr.heap.size wr wl) => hma.below0 hb)
          have HFW := Lib.hid hfw
          have HW : Hid (∀ wl, Below wr.heap.size wr wl → Below w.heap.size w wl) := Lib.hid (fun wl hb => hbm.trans (hb.mono (Nat.le_of_lt hma.row.lt)))
          have HGL := Lib.hid hma.row.lt
          have HEL : Hid (∀ i, ∀ k ∈ edgesB L i, k < R.length) := Lib.hid (fun i k hk => by have h := edges_lt _ i k hk; rw [HLN.out] at h; exact h)
          obtain ⟨W9, rfl⟩ : ∃ W, W = wr := ⟨_, rfl⟩
          clear hma hfw hbm
          go_wp2_with fail
          go_loopw [10] (fun iv wl => ∃ i : Nat, i ≤ R.length ∧ iv = .int .i64 i ∧ (∀ j, j < i → ¬ Plus (edgesB L) j j) ∧ Below W9.heap.size W9 wl) (fun iv _ => R.length - (intOf iv).toNat)
          case atStart => exact ⟨0, by omega, rfl, fun j h => absurd h (Nat.not_lt_zero j), Below.refl _ _⟩
          case round =>
            obtain ⟨i, hi, rfl, hno, hbi⟩ := hrel
            have HNO := Lib.hid hno
            have HBI := Lib.hid hbi
            by_cases hlt : i < R.length
            · have hlc : ((i : Int) < (R.length : Int)) = True := eq_true (by omega)
              have hma := HMF.out _ hbi
              have hri := hma.row_at hlt hlt
              have hci := hma.at hlt hlt
              have hixi := fun w' => idx_ints (g i) R.length i hlt w'
              have hirI := HIR.out i hlt
              obtain ⟨f, hf⟩ := far_ex (edgesB L) R.length i
              have hsm := far_same HEL.out hf HFW.out (by omega) hlt hlt
              have HFA := Lib.hid hf
              clear hno hbi hma hf
              rcases hsm with ⟨hp, hd⟩ | ⟨hneg, hd⟩
              case inr =>
                have hc : ((1000 : Int) ≤ (D1 i i : Int)) = True := eq_true (by omega)
                have HNX : Hid (∀ j, j < i + 1 → ¬ Plus (edgesB L) j j) := Lib.hid (fun j hj hp => by
                  by_cases hji : j = i
                  · subst hji
                    have := HFA.out.of_plus HEL.out hlt hp
                    omega
                  · exact HNO.out j (by omega) hp)
                clear hneg hd
                generalize D1 i i = z at *
                go_wp2
                go_roundw
                case rel => exact ⟨i + 1, by omega, by go_num, HNX.out, HBI.out⟩
                case measure => simp [intOf]; omega
              case inl =>
                have hrg := HFA.out.range i
                obtain ⟨d, hdd⟩ : ∃ d : Nat, fa f i = (d : Int) + 1 := ⟨(fa f i - 1).toNat, by omega⟩
                have hdn : d < R.length := by omega
                have hDi : D1 i i = d + 1 := by omega
                rw [hDi] at hci
                have hc : ((1000 : Int) ≤ ((d + 1 : Nat) : Int)) = False := eq_false (by omega)
                have hc' : ((1000 : Int) ≤ (d : Int) + 1) = False := eq_false (by omega)
                have HDD := Lib.hid hdd
                obtain ⟨W5, hW5⟩ : ∃ W, wr.alloc (.cells #[intE i] 3) = W := ⟨_, rfl⟩
                have hA5 : Below W9.heap.size W9 W5 := hW5 ▸ HBI.out.alloc HBI.out.size _
                have hma5 := HMF.out _ hA5
                have hri5 := hma5.row_at hlt hlt
                have hci5 := hma5.at hlt hlt
                rw [hDi] at hci5
                have ho5 : W5.ownsRow W9.heap.size 3 1 (.slice (some ⟨wr.heap.size, 0, none⟩) 1 1) 1 [intE i] := by
                  have h := World.ownsRow_lit (base := W9.heap.size) (e := 3) (size := 1) wr #[intE i] 1 HBI.out.size (by decide) rfl
                  rw [hW5] at h
                  exact h
                have HO5 := Lib.hid ho5
                have HA5 := Lib.hid hA5
                have HPOS : Hid (0 < fa f i) := Lib.hid hp
                have HSTEP : Hid (∀ t : Nat, t < d → ∃ x, cycA (edgesB L) f i (t + 1) = x ∧ x < R.length ∧ needB L (cycA (edgesB L) f i t) x = true ∧ D1 x i = d - t ∧ ∀ k, k < x → needB L (cycA (edgesB L) f i t) k = true → D1 k i ≠ d - t) := Lib.hid (fun t ht => by
                  have h := (HFA.out.cyc_step hp (t := t) (by omega)).1
                  obtain ⟨h1, h2, h3, h4⟩ := find_first h
                  rw [HLN.out] at h1
                  rw [decide_eq_true_eq] at h3
                  refine ⟨_, rfl, h1, h2, ?_, fun k hk hn hd => ?_⟩
                  · rcases far_same HEL.out HFA.out HFW.out (by omega) h1 hlt with ⟨h5, h6⟩ | ⟨h5, h6⟩ <;> omega
                  · have h7 := of_decide_eq_false (h4 k hk hn)
                    rcases far_same HEL.out HFA.out HFW.out (by omega) (Nat.lt_trans hk h1) hlt with ⟨h5, h6⟩ | ⟨h5, h6⟩ <;> omega)
                have HAT : Hid (∀ t : Nat, t ≤ d → cycA (edgesB L) f i t < R.length) := Lib.hid (fun t ht => by
                  cases t with
                  | zero => exact hlt
                  | succ t => exact HEL.out _ _ (HFA.out.cyc_step hp (t := t) (by omega)).2)
                have hwd : IntKind.i64.wrap ((d : Int) + 1 - 1) = (d : Int) := by rw [show (d : Int) + 1 - 1 = d by omega]; exact IntWalk.i64_in _ (by omega)
                clear hp hd hrg hDi hdd hma5 hA5 ho5
                go_wp2_with fail
                go_loopw [11, 12, 13] (fun ov av lv wl => ∃ t : Nat, t ≤ d ∧ av = intE (cycA (edgesB L) f i t) ∧ lv = .int .i64 ((d : Int) - t) ∧ wl.ownsRow W9.heap.size 3 1 ov (t + 1) ((intsB ((List.range (t + 1)).map (cycA (edgesB L) f i))).map (Value.int .i64)) ∧ Below W9.heap.size W9 wl) (fun ov _ _ _ => d + 1 - lenV ov)
                case atStart => exact ⟨0, by omega, rfl, by simp, HO5.out, HA5.out⟩
                case round =>
                  obtain ⟨t, htd, rfl, rfl, hown, hbe⟩ := hrel
                  obtain ⟨g8, c8, rfl⟩ := ownsRow_some hown (by omega)
                  have HOW := Lib.hid hown
                  have HBE := Lib.hid hbe
                  by_cases hlast : t < d
                  · have hpos : ((0 : Int) < (d : Int) - t) = True := eq_true (by omega)
                    obtain ⟨x, hxe, hxn, hxb, hxd, hxm⟩ := HSTEP.out t hlast
                    have hat := HAT.out t (by omega)
                    have HR1 : Hid ((List.range (t + 1 + 1)).map (cycA (edgesB L) f i) = (List.range (t + 1)).map (cycA (edgesB L) f i) ++ [x]) := Lib.hid (by rw [List.range_succ (n := t + 1), List.map_append, ← hxe]; rfl)
                    have HXE : Hid (intE (cycA (edgesB L) f i (t + 1)) = intE x) := Lib.hid (by rw [hxe])
                    have HXM := Lib.hid hxm
                    have HXD := Lib.hid hxd
                    have HXB := Lib.hid hxb
                    obtain ⟨W8, rfl⟩ : ∃ W, W = wr := ⟨_, rfl⟩
                    have HM8 := Lib.hid (fun wl (hb : Below W8.heap.size W8 wl) => HMF.out wl (hbe.trans (hb.mono hbe.size)))
                    have HOQ : Hid (∀ wl, Below W8.heap.size W8 wl → wl.ownsRow W9.heap.size 3 1 (.slice (some ⟨g8, 0, none⟩) (t + 1) c8) (t + 1) ((intsB ((List.range (t + 1)).map (cycA (edgesB L) f i))).map (Value.int .i64))) := Lib.hid (fun wl hb => ownsRow_fr (S := fun _ => False) HOW.out (Fr.of_below hb) (fun k hk => ⟨(HOW.out.lt k hk).2, id⟩))
                    have HW8 : Hid (∀ wl, Below W8.heap.size W8 wl → Below W9.heap.size W9 wl) := Lib.hid (fun wl hb => hbe.trans (hb.mono hbe.size))
                    clear hown hbe hxe hxm hxd hxb
                    generalize cycA (edgesB L) f i t = ct at *
                    go_wp2_with fail
                    go_loopw [12, 14] (fun av kv wl => ∃ k : Nat, k ≤ x ∧ kv = .int .i64 k ∧ av = intE ct ∧ Below W8.heap.size W8 wl) (fun _ kv _ => R.length - (intOf kv).toNat)
                    case atStart => exact ⟨0, by omega, rfl, rfl, Below.refl _ _⟩
                    case round =>
                      obtain ⟨k, hk, rfl, rfl, hbk⟩ := hrel
                      have hlk : k < R.length := by omega
                      have hlc6 : ((k : Int) < (R.length : Int)) = True := eq_true (by omega)
                      have HBK := Lib.hid hbk
                      have K := Lib.hid (KR.out _ (HW.out _ (HW8.out _ hbk)) ct k hat hlk)
                      have HZ := Lib.hid hbk.size
                      have hixki := fun w' => idx_ints (g k) R.length i hlt w'
                      have hirk := HIR.out k hlk
                      clear hbk
                      cases hnb : needB L ct k with
                      | false =>
                        rw [hnb] at K
                        have hne : k ≠ x := fun e => by rw [e, HXB.out] at hnb; cases hnb
                        clear hnb
                        go_wp2_with fail
                        refine K.out.mono ?_
                        rintro e w6 ⟨rfl, hb6⟩
                        have HB6 := Lib.hid (HBK.out.trans (hb6.mono HZ.out))
                        clear hb6
                        go_wp2
                        go_roundw
                        case rel => exact ⟨k + 1, by omega, by go_num, rfl, HB6.out⟩
                        case measure => simp [intOf]; omega
                      | true =>
                        rw [hnb] at K
                        by_cases hkx : k = x
                        · subst hkx
                          clear hnb
                          go_wp2_with fail
                          refine K.out.mono ?_
                          rintro e w6 ⟨rfl, hb6⟩
                          have hb6' := HBK.out.trans (hb6.mono HZ.out)
                          have hm6 := HM8.out _ hb6'
                          have hrk := hm6.row_at hlk hlk
                          have hck := hm6.at hlk hlt
                          rw [HXD.out] at hck
                          have hcc : ((d - t : Nat) : Int) = (d : Int) - t := by omega
                          have hHO := HOQ.out _ hb6'
                          have HO6 := Lib.hid hHO
                          have HB6 := Lib.hid (HW8.out _ hb6')
                          rw [intE, hcc] at hck
                          have hww : IntKind.i64.wrap ((d : Int) - (t : Int) - 1) = (d : Int) - (t : Int) - 1 := IntWalk.i64_in _ (by omega)
                          have hz6 := HB6.out.size
                          clear hb6 hb6' hm6 hcc hHO
                          go_wp2_with (first
                            | (at_builtin
                               refine wpList_app _ rfl _ _ 28 rfl tyInts W9.heap.size _ _ _ rfl (HO6.out.alloc _) ⟨w6.heap.size, 0, none⟩ 1 1 [intE k] rfl rfl (news_one ?_) ?_ (by decide) ?_ ?_ ?_
                               · rw [cell_of_heap (heap_alloc_here w6 _)]; rfl
                               · intro u hu; simp at hu; subst hu; rfl
                               · omega
                               · simp; omega
                               intro v7 w7 ho7 hg7 hloc7
                               have HO7 := Lib.hid ho7
                               have HB7 : Hid (Below W9.heap.size W9 w7) := Lib.hid ((HB6.out.alloc HB6.out.size _).grown hg7 (by have := HB6.out.size; simp; omega) (fun b hb => (HO6.out.lt b hb).1))
                               obtain ⟨g7, c7, rfl⟩ := ownsRow_some ho7 (by omega)
                               clear ho7 hg7 hloc7))
                          go_wp2
                          go_roundw
                          case rel => exact ⟨t + 1, by omega, HXE.out.symm, by rw [show (d : Int) - ((t + 1 : Nat) : Int) = (d : Int) - t - 1 by omega], by rw [HR1.out]; have h := HO7.out; simpa [intsB] using h, HB7.out⟩
                          case measure =>
                            show d + 1 - (t + 1 + 1) < d + 1 - (t + 1)
                            omega
                        · have hne := HXM.out k (by omega) hnb
                          clear hnb
                          go_wp2_with fail
                          refine K.out.mono ?_
                          rintro e w6 ⟨rfl, hb6⟩
                          have hb6' := HBK.out.trans (hb6.mono HZ.out)
                          have hm6 := HM8.out _ hb6'
                          have hrk := hm6.row_at hlk hlk
                          have hck := hm6.at hlk hlt
                          have hcc : ((D1 k i : Int) == (d : Int) - t) = false := by
                            rw [beq_eq_false_iff_ne]
                            omega
                          have HB6 := Lib.hid hb6'
                          clear hb6 hb6' hm6 hne
                          go_wp2
                          go_roundw
                          case rel => exact ⟨k + 1, by omega, by go_num, rfl, HB6.out⟩
                          case measure => simp [intOf]; omega
                  · obtain rfl : t = d := by omega
                    have hpos : ((0 : Int) < (t : Int) - t) = False := eq_false (by omega)
                    have HCY : Hid (CycR L ((List.range (t + 1)).map (cycA (edgesB L) f i))) := Lib.hid (Or.inl ⟨i, f, by rw [HLN.out]; exact hlt, by rw [HLN.out]; exact HFA.out, HPOS.out, HNO.out, by unfold cycL; rw [HDD.out]; congr 2⟩)
                    have HBF := Lib.hid (HW.out _ hbe)
                    have HOF := Lib.hid (ownsRow_base hown (Nat.le_of_lt HGL.out))
                    clear hown hbe
                    go_wp2
                    go_ret
                    exact ⟨_, _, HCY.out, rfl, by rw [List.length_map, List.length_range]; exact HOF.out, HBF.out⟩
            · obtain rfl : i = R.length := by omega
              have hlc : ((R.length : Int) < (R.length : Int)) = False := eq_false (by omega)
              have HF : Hid (CycR L []) := Lib.hid (Or.inr ⟨rfl, fun j hj => HNO.out j (by rw [HLN.out] at hj; exact hj)⟩)
              have HBF := Lib.hid (HW.out _ hbi)
              clear hno hbi
              go_wp2
              go_ret
              exact ⟨[], _, HF.out, rfl, World.ownsRow_nil _ _ _ _, HBF.out⟩
end Go.Proofs.YtmlmogllgnfklaaGreatDoor
