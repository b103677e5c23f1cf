/-
  A build: Count. A build, with a cache or with none: Run, All.
-/
import Derived.Test.YtgjialbmlhbngaaGreatDoorBdB
import Derived.Test.YtgjialbmlhbngaaGreatDoorPkM
import Derived.Test.YtgjialbmlhbngaaGreatDoorBdD

set_option maxRecDepth 100000
namespace Go.Proofs.YtgjialbmlhbngaaGreatDoor
open Go Go.RowKit Go.Kf Go.Sort Go.Proofs
abbrev countV (a b c d : Nat) : Value := .agg #[.int .i64 (a : Int), .int .i64 (b : Int), .int .i64 (c : Int), .int .i64 (d : Int)]
theorem cnt_erase {lf : List Nat} {st : Nat → St} {p : St → Bool} {i : Nat} (hi : i < lf.length) : cntP lf st p = (if p (st lf[i]) = true then 1 else 0) + cntP (lf.eraseIdx i) st p := by
  unfold cntP
  rw [← ((erase_perm hi).filter fun i => p (st i)).length_eq, List.filter_cons]
  by_cases h : p (st lf[i]) = true
  · rw [if_pos h, if_pos h, List.length_cons, Nat.add_comm]
  · rw [if_neg h, if_neg h, Nat.zero_add]
theorem cnt_le (P : List Nat) (st : Nat → St) (p : St → Bool) : cntP P st p ≤ P.length := List.length_filter_le _ _
theorem count_size : (Tryz.prog.info? 45).map (·.size) = some 4 := by kernel_rfl
theorem count_ret {fn : Func} {p : Tmp} (h : fn.results = #[.cell p 45]) (tmps : Array Value) (w : World) (g : Nat) (a b c d : Value)
    (hp : tmps.getD p undef = .pointer (some ⟨g, 0, none⟩)) (hg : w.heap[g]? = some (.cells #[a, b, c, d] 45 (0, 0))) : (results fn tmps).run Tryz.prog w = .ok (.agg #[a, b, c, d]) w :=
  results_cell_row h tmps w g _ _ _ _ hp hg Tryz.underlying45 rfl count_size
theorem four_free {w : World} {g : Nat} {a b c d : Value} {t : TypeId} (h : w.heap[g]? = some (.cells #[a, b, c, d] t (0, 0))) : (w.cell? ⟨g, 0, none⟩ = some a ∧ w.cell? ⟨g, 1, none⟩ = some b ∧ w.cell? ⟨g, 2, none⟩ = some c ∧ w.cell? ⟨g, 3, none⟩ = some d) ∧ w.frozen? ⟨g, 0, none⟩ = false ∧ w.frozen? ⟨g, 1, none⟩ = false ∧ w.frozen? ⟨g, 2, none⟩ = false ∧ w.frozen? ⟨g, 3, none⟩ = false :=
  ⟨⟨cell_of_heap h 0, cell_of_heap h 1, cell_of_heap h 2, cell_of_heap h 3⟩, free_of_heap h 0, free_of_heap h 1, free_of_heap h 2, free_of_heap h 3⟩
theorem four_put {w : World} {g : Nat} {a b c d : Value} {t : TypeId} (h : w.heap[g]? = some (.cells #[a, b, c, d] t (0, 0))) (x y z u : Value) : ((((w.setCell ⟨g, 0, none⟩ x).setCell ⟨g, 1, none⟩ y).setCell ⟨g, 2, none⟩ z).setCell ⟨g, 3, none⟩ u).heap[g]? = some (.cells #[x, y, z, u] t (0, 0)) :=
  (Kf.heap_setCell_same (Kf.heap_setCell_same (Kf.heap_setCell_same (Kf.heap_setCell_same h x) y) z) u).trans rfl
set_option maxHeartbeats 2000000 in
theorem bcount_any {S : Nat → Addr} {l : List RuleL} {P : List Nat} {m : List Ent} {D : BPl} {st : Nat → St} (w : World) (h : BAt S l P m D w st) (hP : PartOk l P) :
    Calls Tryz.prog 109 #[ptrV D.b] w fun e w' => e = .returned (countV (cntP P st isRan) (cntP P st isHit) (cntP P st isFailed) (cntP P st isLeft)) ∧ Below w.heap.size w w' := by
  obtain ⟨W0, hW0⟩ : ∃ W, w.alloc (.cells #[.int .i64 0, .int .i64 0, .int .i64 0, .int .i64 0] 45) = W := ⟨_, rfl⟩
  obtain ⟨W1, hW1⟩ : ∃ W, W0.alloc (.cells #[.int .i64 0, .int .i64 0, .int .i64 0, .int .i64 0] 45) = W := ⟨_, rfl⟩
  have hb0 : Below w.heap.size w W0 := by rw [← hW0]; exact (Below.refl _ w).alloc (Nat.le_refl _) _
  have hz0 : W0.heap.size = w.heap.size + 1 := by rw [← hW0]; simp
  have hb1 : Below w.heap.size w W1 := by rw [← hW1]; exact hb0.alloc (by omega) _
  have hz1 : W1.heap.size = w.heap.size + 2 := by rw [← hW1]; simp; omega
  have hg0 : W1.heap[w.heap.size]? = some (.cells #[.int .i64 0, .int .i64 0, .int .i64 0, .int .i64 0] 45 (0, 0)) := by rw [← hW1]; exact Kf.heap_alloc_old (by rw [← hW0]; exact heap_alloc_here w _) _
  have hg1 : W1.heap[W0.heap.size]? = some (.cells #[.int .i64 0, .int .i64 0, .int .i64 0, .int .i64 0] 45 (0, 0)) := by rw [← hW1]; exact heap_alloc_here W0 _
  have h1 := h.below hb1
  obtain ⟨-, hc1, -, -⟩ := h1.cells
  obtain ⟨w1, hrg, hR, hbr⟩ := Ranging.start (P := Tryz.prog) stepUnd h1.stat.lm
  have HR1 := Hd hR
  have HB1 := Hd (hb1.trans (hbr.mono hb1.size))
  have HG0 := Hd ((hbr.block _ (by omega)).trans hg0)
  have HG1 := Hd ((hbr.block _ (by omega)).trans hg1)
  have HAT := Hd h
  have HRW : Hid (W1.heap.size = w.heap.size + 2) := Hd hz1
  have hmany := hP.many
  obtain ⟨r, hr⟩ : ∃ r, W1.heap.size = r := ⟨_, rfl⟩
  rw [hr] at hrg HR1 HRW
  have HZ0 := Hd hz0
  generalize hn1 : W0.heap.size = n1 at *
  clear h h1 hR hbr hb0 hb1 hg0 hg1 hr hz0 hz1
  go_enter Tryz.func109, Tryz.ntmps109
  go_wp2_with fail
  go_loopw [] (fun wl => ∃ (lf : List Nat) (x0 x1 x2 x3 : Nat), Ranging (Value.int .i64) ptrV D.lb r (stepM D P) (stepM D lf) wl ∧ (∀ k ∈ lf, k ∈ P) ∧ x0 + cntP lf st isRan = cntP P st isRan ∧ x1 + cntP lf st isHit = cntP P st isHit ∧ x2 + cntP lf st isFailed = cntP P st isFailed ∧ x3 + cntP lf st isLeft = cntP P st isLeft ∧
    wl.heap[w.heap.size]? = some (.cells #[.int .i64 0, .int .i64 0, .int .i64 0, .int .i64 0] 45 (0, 0)) ∧ wl.heap[n1]? = some (.cells #[.int .i64 (x0 : Int), .int .i64 (x1 : Int), .int .i64 (x2 : Int), .int .i64 (x3 : Int)] 45 (0, 0)) ∧ Below w.heap.size w wl) (fun wl => iterLeft wl D.lb r)
  case atStart => exact ⟨P, 0, 0, 0, 0, HR1.out, fun k hk => hk, by omega, by omega, by omega, by omega, HG0.out, HG1.out, HB1.out⟩
  case round =>
    obtain ⟨lf, x0, x1, x2, x3, hR, hsub, e0, e1, e2, e3, hg0, hg1, hbw⟩ := hrel
    have HSUB := Hd hsub
    have HI := Hd (iterLeft_of hR)
    have HGZ := Hd hg0
    have HGN := Hd hg1
    have HBW := Hd hbw
    have hm0 := cnt_le P st isRan
    have hm1 := cnt_le P st isHit
    have hm2 := cnt_le P st isFailed
    have hm3 := cnt_le P st isLeft
    clear hsub
    rcases hR.next (P := Tryz.prog) 0 with ⟨h0, hnx⟩ | ⟨i, hi, w3, hnx, hR3, hF3, hz3, hen⟩
    · have h00 : lf = [] := List.map_eq_nil_iff.1 h0
      subst h00
      have hn : ∀ p, cntP [] st p = 0 := fun p => rfl
      rw [hn, Nat.add_zero] at e0 e1 e2 e3
      subst e0 e1 e2 e3
      obtain ⟨⟨k0, k1, k2, k3⟩, f0, f1, f2, f3⟩ := four_free hg0
      obtain ⟨⟨m0, m1, m2, m3⟩, -⟩ := four_free hg1
      clear hR hg0 hg1 hbw h0
      go_wp2
      refine bodyPost_ret (count_ret rfl _ _ w.heap.size _ _ _ _ rfl (four_put HGZ.out _ _ _ _)) rfl ?_
      exact ⟨rfl, ((((HBW.out).setCell (p := ⟨w.heap.size, 0, none⟩) (Nat.le_refl _) _).setCell (p := ⟨w.heap.size, 1, none⟩) (Nat.le_refl _) _).setCell (p := ⟨w.heap.size, 2, none⟩) (Nat.le_refl _) _).setCell (p := ⟨w.heap.size, 3, none⟩) (Nat.le_refl _) _⟩
    · have hil : i < lf.length := by rw [stepM_len] at hi; exact hi
      rw [stepM_at D hil hi] at hnx hen
      rw [stepM_erase] at hR3
      have HR3 := Hd hR3
      have HKP := Hd (HSUB.out _ (List.getElem_mem hil))
      have HSB : Hid (∀ k ∈ lf.eraseIdx i, k ∈ P) := Hd (fun k hk => HSUB.out k (List.mem_of_mem_eraseIdx hk))
      have HLL : Hid ((lf.eraseIdx i).length < lf.length) := Hd (by rw [List.length_eraseIdx, if_pos hil]; omega)
      rw [cnt_erase hil] at e0 e1 e2 e3
      have hrw := HRW.out
      have hzn := HZ0.out
      have hsz := HBW.out.size
      have hl0 := lt_of_heap hg0
      have hl1 := lt_of_heap hg1
      have hb3 : Below w.heap.size w w3 := hbw.trans ((hF3.mono (S' := fun k => k = r) (B' := w.heap.size) hbw.size (fun _ _ h => h)).below (fun k hk e => by omega))
      have HB3 := Hd hb3
      have g0 := (hF3.block _ hl0 (by omega)).trans hg0
      have g1 := (hF3.block _ hl1 (by omega)).trans hg1
      have HG3 := Hd g0
      have HN3 := Hd g1
      obtain ⟨⟨m0, m1, m2, m3⟩, f0, f1, f2, f3⟩ := four_free g1
      have hat3 := HAT.out.below hb3
      have HAT3 := Hd hat3
      have hlbn : D.lb ≠ n1 := fun e => by have := HAT.out.lt (Or.inl (Or.inr (Or.inl rfl)) : D.has P D.lb); omega
      have hrn : r ≠ n1 := by omega
      have HRP : Hid (∀ (v : Value) (o : Nat), Ranging (Value.int .i64) ptrV D.lb r (stepM D P) (stepM D (lf.eraseIdx i)) (w3.setCell ⟨n1, o, none⟩ v)) := Hd (fun v o => HR3.out.of_blocks (Below.heap_setCell _ _ _ _ hlbn) (Below.heap_setCell _ _ _ _ hrn))
      have HGP : Hid (∀ (v : Value) (o : Nat), (w3.setCell ⟨n1, o, none⟩ v).heap[w.heap.size]? = some (.cells #[.int .i64 0, .int .i64 0, .int .i64 0, .int .i64 0] 45 (0, 0))) := Hd (fun v o => Kf.heap_setCell_other HG3.out (p := ⟨n1, o, none⟩) (by show w.heap.size ≠ n1; omega) v)
      have HNP : Hid (∀ (v : Value) (o : Nat), (w3.setCell ⟨n1, o, none⟩ v).heap[n1]? = some (.cells ((#[.int .i64 (x0 : Int), .int .i64 (x1 : Int), .int .i64 (x2 : Int), .int .i64 (x3 : Int)] : Array Value).setIfInBounds o v) 45 (0, 0))) := Hd (fun v o => Kf.heap_setCell_same HN3.out v)
      have HBP : Hid (∀ (v : Value) (o : Nat), Below w.heap.size w (w3.setCell ⟨n1, o, none⟩ v)) := Hd (fun v o => HB3.out.setCell (p := ⟨n1, o, none⟩) (by show w.heap.size ≤ n1; omega) v)
      clear hR hR3 hF3 hi hg0 hg1 hbw hb3 g0 g1 hz3 hrw hzn hsz hl0 hl1 hlbn hrn
      generalize lf[i] = k at *
      generalize lf.eraseIdx i = lf2 at *
      clear hil
      have h4 := (hat3.at_ HKP.out 4).trans (show (stRow S (l.getD k noR) (D.iv k) (st k))[4]? = some (Value.int .i64 ((st k).state : Int)) from rfl)
      have h5 := (hat3.at_ HKP.out 5).trans (show (stRow S (l.getD k noR) (D.iv k) (st k))[5]? = some (Value.bool (st k).hit) from rfl)
      have HMS : Hid (iterLeft wr D.lb r = lf.length) := Hd (by rw [HI.out, stepM_len])
      clear hat3
      generalize hsk : st k = s at *
      obtain ⟨z, hit, o, y⟩ := s
      simp only [isRan, isHit, isFailed, isLeft] at h4 h5 e0 e1 e2 e3
      by_cases hz2 : z = 2
      · subst hz2
        replace h4 : w3.cell? ⟨D.sb k, 4, none⟩ = some (.int .i64 2) := h4
        cases hit with
        | true =>
          simp at e0 e1 e2 e3
          go_wp2
          go_roundw
          case rel => exact ⟨lf2, x0, x1 + 1, x2, x3, HRP.out _ _, HSB.out, by omega, by omega, by omega, by omega, HGP.out _ _, by rw [HNP.out]; rfl, HBP.out _ _⟩
          case measure => rw [HMS.out, iterLeft_of (HRP.out _ _), stepM_len]; exact HLL.out
        | false =>
          simp at e0 e1 e2 e3
          go_wp2
          go_roundw
          case rel => exact ⟨lf2, x0 + 1, x1, x2, x3, HRP.out _ _, HSB.out, by omega, by omega, by omega, by omega, HGP.out _ _, by rw [HNP.out]; rfl, HBP.out _ _⟩
          case measure => rw [HMS.out, iterLeft_of (HRP.out _ _), stepM_len]; exact HLL.out
      · have q2 : ((z : Int) == 2) = false := by simpa using (by omega : ¬ (z : Int) = 2)
        by_cases hz3 : z = 3
        · subst hz3
          replace h4 : w3.cell? ⟨D.sb k, 4, none⟩ = some (.int .i64 3) := h4
          simp at e0 e1 e2 e3
          go_wp2
          go_roundw
          case rel => exact ⟨lf2, x0, x1, x2 + 1, x3, HRP.out _ _, HSB.out, by omega, by omega, by omega, by omega, HGP.out _ _, by rw [HNP.out]; rfl, HBP.out _ _⟩
          case measure => rw [HMS.out, iterLeft_of (HRP.out _ _), stepM_len]; exact HLL.out
        · have q3 : ((z : Int) == 3) = false := by simpa using (by omega : ¬ (z : Int) = 3)
          by_cases hz4 : z = 4
          · subst hz4
            replace h4 : w3.cell? ⟨D.sb k, 4, none⟩ = some (.int .i64 4) := h4
            simp at e0 e1 e2 e3
            go_wp2
            go_roundw
            case rel => exact ⟨lf2, x0, x1, x2, x3 + 1, HRP.out _ _, HSB.out, by omega, by omega, by omega, by omega, HGP.out _ _, by rw [HNP.out]; rfl, HBP.out _ _⟩
            case measure => rw [HMS.out, iterLeft_of (HRP.out _ _), stepM_len]; exact HLL.out
          · have q4 : ((z : Int) == 4) = false := by simpa using (by omega : ¬ (z : Int) = 4)
            simp [hz2, hz3, hz4] at e0 e1 e2 e3
            go_wp2
            go_roundw
            case rel => exact ⟨lf2, x0, x1, x2, x3, HR3.out, HSB.out, by omega, by omega, by omega, by omega, HG3.out, HN3.out, HB3.out⟩
            case measure => rw [HMS.out, iterLeft_of HR3.out, stepM_len]; exact HLL.out
def cfoot (pb mb : Nat) (lv : Value) : Option CS → Nat → Prop
  | none, _ => False
  | some _, q => foot pb mb lv q
def CacheO (D : BPl) (pb mb : Nat) (lv : Value) (w : World) : Option CS → Prop
  | none => D.cv = .pointer none
  | some c => D.cv = ptrV pb ∧ CacheAt w pb mb lv c.many c.ks c.mp
structure BO (S : Nat → Addr) (l : List RuleL) (P : List Nat) (m : List Ent) (D : BPl) (pb mb B : Nat) (lv : Value) (c : Option CS) (st : Nat → St) (w : World) : Prop where
  at_ : BAt S l P m D w st
  cache : CacheO D pb mb lv w c
  low : ∀ q, D.steps P q ∨ cfoot pb mb lv c q → B ≤ q
  apart : ∀ q, D.has P q → ¬ cfoot pb mb lv c q
  inv : BInv l P (fun p => mlook p m) st
  cok : COk c
def Turned (D : BPl) (P : List Nat) (pb mb : Nat) (lv : Value) (c : Option CS) (w : World) (lv' : Value) (c' : Option CS) (w' : World) : Prop :=
  Fr w.heap.size (fun q => D.steps P q ∨ cfoot pb mb lv c q) w w' ∧ ∀ q, cfoot pb mb lv' c' q → cfoot pb mb lv c q ∨ w.heap.size ≤ q
section
variable {S : Nat → Addr} {l : List RuleL} {P : List Nat} {m : List Ent} {D : BPl} {pb mb B : Nat} {lv lv' lv2 : Value} {c c' c2 : Option CS} {st : Nat → St} {w w' w2 : World}
theorem Turned.trans (h : Turned D P pb mb lv c w lv' c' w') (k : Turned D P pb mb lv' c' w' lv2 c2 w2) : Turned D P pb mb lv c w lv2 c2 w2 :=
  ⟨h.1.trans (k.1.mono h.1.size (fun q hq hs => hs.elim Or.inl (fun h1 => (h.2 q h1).elim Or.inr (fun h2 => by omega)))), fun q hq => (k.2 q hq).elim (fun h1 => h.2 q h1) (fun h1 => Or.inr (Nat.le_trans h.1.size h1))⟩
theorem Turned.of_below (hb : Below w.heap.size w w') : Turned D P pb mb lv c w lv c w' := ⟨Fr.of_below hb, fun _ h => Or.inl h⟩
theorem CacheO.lt (h : CacheO D pb mb lv w c) {q : Nat} (hq : cfoot pb mb lv c q) : q < w.heap.size := by
  cases c with
  | none => exact absurd hq id
  | some c => exact h.2.lt hq
theorem BO.lt (h : BO S l P m D pb mb B lv c st w) {q : Nat} (hq : D.has P q ∨ cfoot pb mb lv c q) : q < w.heap.size := hq.elim h.at_.lt h.cache.lt
theorem CacheO.fr {N : Nat} {Q : Nat → Prop} (h : CacheO D pb mb lv w c) (hf : Fr N Q w w') (hq : ∀ q, cfoot pb mb lv c q → q < N ∧ ¬ Q q) : CacheO D pb mb lv w' c := by
  cases c with
  | none => exact h
  | some c => exact ⟨h.1, h.2.fr hf hq⟩
theorem BO.fr {N : Nat} {Q : Nat → Prop} (h : BO S l P m D pb mb B lv c st w) (hf : Fr N Q w w') (hq : ∀ q, D.has P q ∨ cfoot pb mb lv c q → q < N ∧ ¬ Q q) : BO S l P m D pb mb B lv c st w' :=
  ⟨h.at_.of_fr hf (fun q hk => hq q (Or.inl hk)), h.cache.fr hf (fun q hk => hq q (Or.inr hk)), h.low, h.apart, h.inv, h.cok⟩
theorem BO.below (h : BO S l P m D pb mb B lv c st w) (hb : Below w.heap.size w w') : BO S l P m D pb mb B lv c st w' :=
  h.fr (Q := fun _ => False) (Fr.of_below hb) (fun _ hq => ⟨h.lt hq, id⟩)
theorem BO.base (h : BO S l P m D pb mb B lv c st w) {w0 : World} (h0 : w0.heap.size = B) (hb : Below w0.heap.size w0 w) (ht : Turned D P pb mb lv c w lv' c' w') : Below w0.heap.size w0 w' :=
  hb.trans ((ht.1.mono (S' := fun q => D.steps P q ∨ cfoot pb mb lv c q) hb.size (fun _ _ h => h)).below (fun q hq hs => by have := h.low q hs; omega))
theorem BO.made (h : BAt S l P m D w (fun _ => st0)) (hB : ∀ q, D.has P q → B ≤ q) (hc : CacheO D pb mb lv w c) (hl : ∀ q, cfoot pb mb lv c q → B ≤ q) (ha : ∀ q, D.has P q → ¬ cfoot pb mb lv c q) (hk : COk c) : BO S l P m D pb mb B lv c (fun _ => st0) w :=
  ⟨h, hc, fun q hq => hq.elim (fun h1 => hB q (Or.inr h1)) (hl q), ha, BInv.zero _ _ _, hk⟩
theorem brun_any {o : List Nat} (w : World) (h : BO S l P m D pb mb B lv c st w) (ho : Ord l P o) (w0 : World) (hB : w0.heap.size = B) (hV : BEnv S l m w0) (hb0 : Below w0.heap.size w0 w) (i : Int) :
    Calls Tryz.prog 36 #[ptrV D.b, .int .i64 i] w fun e w' => ∃ hit code c' st' lv', e = .returned (.tuple #[.bool hit, errN S code]) ∧ RunRel l P (fun p => mlook p m) c st i hit code c' st' ∧ BO S l P m D pb mb B lv' c' st' w' ∧ Turned D P pb mb lv c w lv' c' w' := by
  subst hB
  cases c with
  | none =>
    refine (brunN_any w h.at_ ho.ok (hV.below hb0) h.inv h.cache i).mono ?_
    rintro e w' ⟨hit, code, st', rfl, hrel, hat, hfr⟩
    have hi := hrel.steps.inv ho h.inv h.cok
    exact ⟨hit, code, none, st', lv, rfl, hrel, ⟨hat, h.cache, h.low, h.apart, hi.1, h.cok⟩, hfr.mono (Nat.le_refl _) (fun _ _ h => Or.inl h), fun _ h => Or.inl h⟩
  | some c =>
    refine (brunC_any w h.at_ ho.ok w0 hV hb0 h.low h.inv h.cache.1 h.cache.2 (h.cok c rfl).1 h.apart i).mono ?_
    rintro e w' ⟨hit, code, c', st', lv', rfl, hrel, hat, hca, hfr, hlv⟩
    have hi := hrel.steps.inv ho h.inv h.cok
    have hft : ∀ q, foot pb mb lv' q → foot pb mb lv q ∨ w.heap.size ≤ q := fun q hq => by
      rcases hq with h1 | h1 | h1
      · exact Or.inl (Or.inl h1)
      · exact Or.inl (Or.inr (Or.inl h1))
      · exact (hlv q h1).elim (fun h2 => Or.inl (Or.inr (Or.inr h2))) Or.inr
    refine ⟨hit, code, some c', st', lv', rfl, hrel, ⟨hat, ⟨h.cache.1, hca⟩, ?_, ?_, hi.1, hi.2.1⟩, hfr, hft⟩
    · rintro q (h1 | h1)
      · exact h.low q (Or.inl h1)
      · exact (hft q h1).elim (fun h2 => h.low q (Or.inr h2)) (fun h2 => Nat.le_trans hb0.size h2)
    · intro q hq hf
      rcases hft q hf with h2 | h2
      · exact h.apart q hq h2
      · have := h.at_.lt hq; omega
end
set_option maxHeartbeats 2000000 in
theorem ball_any {S : Nat → Addr} {l : List RuleL} {P : List Nat} {m : List Ent} {D : BPl} {pb mb B : Nat} {lv : Value} {c : Option CS} {st : Nat → St} {o : List Nat} (w : World) (h : BO S l P m D pb mb B lv c st w) (ho : Ord l P o) (w0 : World) (hB : w0.heap.size = B) (hV : BEnv S l m w0) (hb0 : Below w0.heap.size w0 w) :
    Calls Tryz.prog 39 #[ptrV D.b] w fun e w' => ∃ ks c' st' lv', e = .returned (countV (cntP P st' isRan) (cntP P st' isHit) (cntP P st' isFailed) (cntP P st' isLeft)) ∧ AllRel l P (fun p => mlook p m) c st ks c' st' ∧ BO S l P m D pb mb B lv' c' st' w' ∧ Turned D P pb mb lv c w lv' c' w' := by
  obtain ⟨W0, hW0⟩ : ∃ W, w.alloc (.cells #[.int .i64 0, .int .i64 0, .int .i64 0, .int .i64 0] 45) = W := ⟨_, rfl⟩
  have hbw : Below w.heap.size w W0 := by rw [← hW0]; exact (Below.refl _ w).alloc (Nat.le_refl _) _
  have hz0 : W0.heap.size = w.heap.size + 1 := by rw [← hW0]; simp
  have hg0 : W0.heap[w.heap.size]? = some (.cells #[.int .i64 0, .int .i64 0, .int .i64 0, .int .i64 0] 45 (0, 0)) := by rw [← hW0]; exact heap_alloc_here w _
  have HNS : Hid (∀ q, D.has P q ∨ cfoot pb mb lv c q → q < w.heap.size) := Hd (fun q hq => h.lt hq)
  have HW0 := Hd hbw
  have HB0 := Hd (hb0.trans (hbw.mono hb0.size))
  have HV := Hd hV
  have HO := Hd ho
  have HBE := Hd hB
  have h1 := h.below hbw
  have H1 := Hd h1
  have HG0 := Hd hg0
  have hz01 := hb0.size
  have KR := Hd (bReady_any W0 h1.at_ ho.ok hV.lens)
  clear h h1 hV ho hb0 hbw hg0
  go_enter Tryz.func39, Tryz.ntmps39
  go_wp2_with fail
  refine KR.out.mono ?_
  rintro e w1 ⟨u, rfl, hown, hb1⟩
  have H2 := Hd (H1.out.below hb1)
  have HT2 : Hid (Turned D P pb mb lv c W0 lv c w1) := Hd (Turned.of_below hb1)
  have HBB := Hd (HB0.out.trans (hb1.mono HB0.out.size))
  have HG1 := Hd ((hb1.block _ (by omega)).trans HG0.out)
  have HRU := Hd (reads_ints hown)
  have hs1 := hb1.size
  clear hown hb1 KR
  go_wp2_with fail
  go_loopw [3] (fun uv wl => ∃ (ks : List Nat) (c1 : Option CS) (st1 : Nat → St) (lv1 : Value), Reads wl uv ((readyL l P st1).map intE) ∧ BO S l P m D pb mb B lv1 c1 st1 wl ∧ Turned D P pb mb lv c W0 lv1 c1 wl ∧ Below w0.heap.size w0 wl ∧ wl.heap[w.heap.size]? = some (.cells #[.int .i64 0, .int .i64 0, .int .i64 0, .int .i64 0] 45 (0, 0)) ∧
    ∀ ks' c' st', AllRel l P (fun p => mlook p m) c1 st1 ks' c' st' → AllRel l P (fun p => mlook p m) c st (ks ++ ks') c' st') (fun _ wl => waitW D P wl)
  case atStart => exact ⟨[], c, st, lv, HRU.out, H2.out, HT2.out, HBB.out, HG1.out, fun ks' c' st' h => h⟩
  case round =>
    obtain ⟨ks, c1, st1, lv1, hrd, hbo, htu, hbb, hgz, hall⟩ := hrel
    have HBO := Hd hbo
    have HTU := Hd htu
    have HBW := Hd hbb
    have HGZ := Hd hgz
    have HALL := Hd hall
    have HRD := Hd hrd
    obtain ⟨a, cp, hu, hrl, -⟩ := id hrd
    rw [List.length_map] at hu hrl
    subst hu
    cases hr : readyL l P st1 with
    | nil =>
      have HR0 := Hd hr
      have KC := Hd (bcount_any wr hbo.at_ HO.out.ok)
      rw [hr] at hrl
      have hn0 : ((0 : Int) < (([] : List Nat).length : Int)) = False := eq_false (by simp)
      clear hrd hbo htu hbb hgz hall hr
      go_wp2_with fail
      refine KC.out.mono ?_
      rintro e w2 ⟨rfl, hb2⟩
      have hgz2 := (hb2.block _ (lt_of_heap HGZ.out)).trans HGZ.out
      have HGZ2 := Hd hgz2
      have HB2 := Hd hb2
      obtain ⟨⟨k0, k1, k2, k3⟩, f0, f1, f2, f3⟩ := four_free hgz2
      clear hb2 KC hgz2
      go_wp2
      refine bodyPost_ret (count_ret rfl _ _ w.heap.size _ _ _ _ rfl (four_put HGZ2.out _ _ _ _)) rfl ?_
      have hgl := lt_of_heap HGZ2.out
      have hset : Fr w2.heap.size (fun q => q = w.heap.size) w2 ((((w2.setCell ⟨w.heap.size, 0, none⟩ (.int .i64 (cntP P st1 isRan : Int))).setCell ⟨w.heap.size, 1, none⟩ (.int .i64 (cntP P st1 isHit : Int))).setCell ⟨w.heap.size, 2, none⟩ (.int .i64 (cntP P st1 isFailed : Int))).setCell ⟨w.heap.size, 3, none⟩ (.int .i64 (cntP P st1 isLeft : Int))) :=
        Fr.setCell (S := fun q => q = w.heap.size) (p := ⟨w.heap.size, 3, none⟩) (Fr.setCell (S := fun q => q = w.heap.size) (p := ⟨w.heap.size, 2, none⟩) (Fr.setCell (S := fun q => q = w.heap.size) (p := ⟨w.heap.size, 1, none⟩) (Fr.setCell (S := fun q => q = w.heap.size) (p := ⟨w.heap.size, 0, none⟩) (Fr.refl w2.heap.size _ w2) (fun _ => rfl) _) (fun _ => rfl) _) (fun _ => rfl) _) (fun _ => rfl) _
      have hnew : ∀ q, D.has P q ∨ cfoot pb mb lv1 c1 q → q ≠ w.heap.size := fun q hq e => by
        rcases hq with h1 | h1
        · have := HNS.out q (Or.inl h1); omega
        · rcases HTU.out.2 q h1 with h2 | h2
          · have := HNS.out q (Or.inr h2); omega
          · omega
      have hbo2 := HBO.out.below HB2.out
      have htu2 : Turned D P pb mb lv c W0 lv1 c1 w2 := HTU.out.trans (Turned.of_below HB2.out)
      refine ⟨ks, c1, st1, lv1, rfl, by have := HALL.out [] c1 st1 (.stop HR0.out); rwa [List.append_nil] at this, hbo2.fr hset (fun q hq => ⟨hbo2.lt hq, hnew q hq⟩), ?_, ?_⟩
      · have h1 := ((Fr.of_below (S := fun q => D.steps P q ∨ cfoot pb mb lv c q) HW0.out).trans (htu2.1.mono (by omega) (fun _ _ h => h)))
        exact h1.trans ((hset.mono (S' := fun q => D.steps P q ∨ cfoot pb mb lv c q) (B' := w.heap.size) (by omega) (fun q hq e => by omega)))
      · intro q hq
        rcases htu2.2 q hq with h2 | h2
        · exact Or.inl h2
        · exact Or.inr (by omega)
    | cons k r =>
      rw [hr] at hrl hrd
      have hn1 : ((0 : Int) < ((k :: r).length : Int)) = True := eq_true (by rw [List.length_cons]; omega)
      obtain ⟨b, of, hix, hce⟩ := hrd.at (P := Tryz.prog) Tryz.underlying53 (by kernel_rfl) 0 (by simp)
      simp only [List.map_cons, List.getElem_cons_zero, List.length_cons] at hce hix
      replace hix : ∀ w', (Instr.indexAt 53 (.slice a (r.length + 1) cp) (.int .i64 0)).run Tryz.prog w' = .ok (.pointer (some ⟨b, of, none⟩)) w' := hix
      have HR0 := Hd hr
      have hkr := ready_head hr
      have KRU := Hd (brun_any wr hbo HO.out w0 HBE.out HV.out hbb (k : Int))
      have HMS := Hd (waitW_is hbo.at_)
      clear hrd hbo htu hbb hgz hall hr
      simp only [List.length_cons] at *
      go_wp2_with fail
      refine KRU.out.mono ?_
      rintro e w2 ⟨hit, code, c2, st2, lv2, rfl, hrel, hbo2, htu2⟩
      have hgo : GoRel l P (fun p => mlook p m) c1 st1 k hit c2 st2 := by
        generalize hz : ((k : Nat) : Int) = z at hrel
        cases hrel with
        | none h => exact absurd hz.symm (h k hkr.1)
        | done h1 h2 => obtain rfl : k = _ := by exact_mod_cast hz
                        exact absurd hkr.2.1 h2
        | turn h1 h2 h3 => obtain rfl : k = _ := by exact_mod_cast hz
                           exact absurd hkr.2 h3
        | go h1 h2 h3 => obtain rfl : k = _ := by exact_mod_cast hz
                         exact h3
      have HGO := Hd hgo
      have HBO2 := Hd hbo2
      have HTU2 := Hd htu2
      have HBB2 := Hd (HBO.out.base HBE.out HBW.out htu2)
      have HKR := Hd hkr
      have hgz2 : w2.heap[w.heap.size]? = some (.cells #[.int .i64 0, .int .i64 0, .int .i64 0, .int .i64 0] 45 (0, 0)) := (htu2.1.block _ (lt_of_heap HGZ.out) (fun hq => by
        rcases hq with h1 | h1
        · have := HNS.out _ (Or.inl (Or.inr h1)); omega
        · rcases HTU.out.2 _ h1 with h2 | h2
          · have := HNS.out _ (Or.inr h2); omega
          · omega)).trans HGZ.out
      have HGZ2 := Hd hgz2
      have KR2 := Hd (bReady_any w2 hbo2.at_ HO.out.ok HV.out.lens)
      clear hrel hbo2 htu2 hgo hgz2 KRU hkr
      go_wp2_with fail
      refine KR2.out.mono ?_
      rintro e w3 ⟨u3, rfl, hown3, hb3⟩
      have HRU3 := Hd (reads_ints hown3)
      have HBO3 := Hd (HBO2.out.below hb3)
      have HTU3 := Hd ((HTU.out.trans HTU2.out).trans (Turned.of_below hb3))
      have HBB3 := Hd (HBB2.out.trans (hb3.mono HBB2.out.size))
      have HGZ3 := Hd ((hb3.block _ (lt_of_heap HGZ2.out)).trans HGZ2.out)
      clear hown3 hb3 KR2
      go_wp2
      go_roundw
      case rel => exact ⟨ks ++ [k], c2, st2, lv2, HRU3.out, HBO3.out, HTU3.out, HBB3.out, HGZ3.out, fun ks' c' st' h => by
        rw [List.append_assoc]
        exact HALL.out _ _ _ (.more HR0.out HGO.out h)⟩
      case measure =>
        rw [waitW_is HBO3.out.at_, HMS.out]
        have hl := HGO.out.less
        exact wait_less HKR.out.1 HKR.out.2.1 hl.1 hl.2
end Go.Proofs.YtgjialbmlhbngaaGreatDoor
