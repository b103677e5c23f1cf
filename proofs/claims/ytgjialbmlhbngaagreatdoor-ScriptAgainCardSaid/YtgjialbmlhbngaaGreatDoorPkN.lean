/-
  Package want: the asker. Package graph: order of those that are so. Package graph: Part of a right sheet.
-/
import Derived.Test.YtgjialbmlhbngaaGreatDoorPkI
import Derived.Test.YtgjialbmlhbngaaGreatDoorPkH
import Derived.Test.YtgjialbmlhbngaaGreatDoorPkL
import Derived.Test.YtgjialbmlhbngaaGreatDoorPkM
import Derived.Laws.CopyOwn
import Derived.BigQuiet
import Derived.Deep.RegionHeld3
import Derived.Test.YtgjialbmlhbngaaGreatDoorPkG

set_option maxRecDepth 100000
namespace Go.Proofs.YtgjialbmlhbngaaGreatDoor
open Go Go.RowKit Go.Kf Go.Sort Go.Proofs
def toldV (S : Nat → Addr) (x : Told) : Value := .agg #[str x.2, errN S x.1]
theorem knowUnd : Tryz.prog.underlying 206 = some (.map 9 210) := Tryz.underlying206
theorem knowZero (w : World) : (zeroValue 210).run Tryz.prog w = .ok (.agg #[str [], .nilIface]) w := by kernel_rfl
theorem errN_cases (S : Nat → Addr) (c : Nat) : errN S c = .nilIface ∨ ∃ ad, errN S c = errI ad := by
  unfold errN
  split
  · exact Or.inl rfl
  · exact Or.inr ⟨_, rfl⟩
structure WCtx (S : Nat → Addr) (R : List RV) (v : Value) (tb mb : Nat) (m : List Ent) (w : World) : Prop where
  rules : RulesAt w v R
  roomy : Roomy v
  tree : TAt w tb mb m
  ml : Ml w
  err : KErr w S
  non : LErr w S
  num : NErr w
  tab : Tab w
  right : Right (R.map Prod.fst)
  short : ∀ x ∈ R, x.1.out.length ≤ 1000000 ∧ x.1.word.length ≤ 100000 ∧ (∀ s ∈ x.1.ins, s.length ≤ 1000000) ∧ x.1.ins.length ≤ 1000
  files : ∀ p b, mlook p m = some b → b.length ≤ 2000
  many : R.length ≤ 1000
theorem WCtx.below {S : Nat → Addr} {R : List RV} {v : Value} {tb mb : Nat} {m : List Ent} {w w' : World} (h : WCtx S R v tb mb m w) (hb : Below w.heap.size w w') : WCtx S R v tb mb m w' :=
  ⟨h.rules.below0 hb, h.roomy, h.tree.below hb, h.ml.below hb (Nat.le_refl _), h.err.below hb (Nat.le_refl _), h.non.below hb (Nat.le_refl _), h.num.below hb (Nat.le_refl _), tab_below h.tab hb (Nat.le_refl _), h.right, h.short, h.files, h.many⟩
structure AskAt (S : Nat → Addr) (l : List RuleL) (T : Look) (v : Value) (ab tb kb : Nat) (w : World) (K : List (List UInt8 × Told)) : Prop where
  blk : w.heap[ab]? = some (.cells #[.pointer (some ⟨tb, 0, none⟩), v, .map (some kb)] 208 (0, 0))
  map : MapIs str (toldV S) w kb K
  ok : ∀ p x, mlook p K = some x → x = wantV l T p
theorem AskAt.ne {S : Nat → Addr} {l : List RuleL} {T : Look} {v : Value} {ab tb kb : Nat} {w : World} {K : List (List UInt8 × Told)} (h : AskAt S l T v ab tb kb w K) : ab ≠ kb := fun e => by
  obtain ⟨es, clock, hb, -⟩ := h.map
  rw [← e, h.blk] at hb
  cases hb
theorem AskAt.below {S : Nat → Addr} {l : List RuleL} {T : Look} {v : Value} {ab tb kb : Nat} {w w' : World} {K : List (List UInt8 × Told)} (h : AskAt S l T v ab tb kb w K) (hb : Below w.heap.size w w') : AskAt S l T v ab tb kb w' K :=
  ⟨(hb.block _ (lt_of_heap h.blk)).trans h.blk, h.map.of_block (hb.block _ h.map.lt), h.ok⟩
theorem AskAt.cells {S : Nat → Addr} {l : List RuleL} {T : Look} {v : Value} {ab tb kb : Nat} {w : World} {K : List (List UInt8 × Told)} (h : AskAt S l T v ab tb kb w K) :
    w.cell? ⟨ab, 0, none⟩ = some (.pointer (some ⟨tb, 0, none⟩)) ∧ w.cell? ⟨ab, 1, none⟩ = some v ∧ w.cell? ⟨ab, 2, none⟩ = some (.map (some kb)) :=
  ⟨(cell_of_heap h.blk 0).trans rfl, (cell_of_heap h.blk 1).trans rfl, (cell_of_heap h.blk 2).trans rfl⟩
theorem AskAt.fr {S : Nat → Addr} {l : List RuleL} {T : Look} {v : Value} {ab tb kb : Nat} {w w' : World} {K : List (List UInt8 × Told)} {B : Nat} {Q : Nat → Prop} (h : AskAt S l T v ab tb kb w K) (hf : Fr B Q w w') (h1 : ab < B ∧ kb < B) (h2 : ¬ Q ab) (h3 : ¬ Q kb) : AskAt S l T v ab tb kb w' K :=
  ⟨(hf.block _ h1.1 h2).trans h.blk, h.map.of_block (hf.block _ h1.2 h3), h.ok⟩
theorem AskAt.drew {S : Nat → Addr} {l : List RuleL} {T : Look} {v : Value} {ab tb kb : Nat} {w : World} {K : List (List UInt8 × Told)} (h : AskAt S l T v ab tb kb w K) : AskAt S l T v ab tb kb w.drew K := ⟨h.blk, h.map, h.ok⟩
theorem AskAt.lt {S : Nat → Addr} {l : List RuleL} {T : Look} {v : Value} {ab tb kb : Nat} {w : World} {K : List (List UInt8 × Told)} (h : AskAt S l T v ab tb kb w K) : ab < w.heap.size ∧ kb < w.heap.size := ⟨lt_of_heap h.blk, h.map.lt⟩
def AskPost (S : Nat → Addr) (l : List RuleL) (T : Look) (v : Value) (ab tb kb : Nat) (p : List UInt8) (W : World) (e : Ending) (w' : World) : Prop :=
  ∃ K', e = .returned (toldV S (wantV l T p)) ∧ AskAt S l T v ab tb kb w' K' ∧ Fr W.heap.size (fun q => q = kb) W w'
theorem askFn_any (x : RV) (B : Nat) (s : List UInt8) (W : World) (hc : W.cell? ⟨B, 0, none⟩ = some (str s)) :
    Calls Tryz.prog 197 #[rvAgg x, .pointer (some ⟨B, 0, none⟩)] W fun e w' => e = .returned (.bool (x.1.out == s)) ∧ Below W.heap.size W w' := by
  obtain ⟨⟨x0, x1, x2, x4⟩, x3⟩ := x
  simp only
  obtain ⟨W0, hW0⟩ : ∃ W0, W.alloc (.cells #[str x0, str x1, str x2, x3] 35) = W0 := ⟨_, rfl⟩
  have hA : Below W.heap.size W W0 := hW0 ▸ (Below.refl _ W).alloc (Nat.le_refl _) _
  have h0 : W0.cell? ⟨W.heap.size, 0, none⟩ = some (str x0) := by rw [← hW0, cell_of_heap (heap_alloc_here W _)]; rfl
  have h1 := (hA.cell (p := ⟨B, 0, none⟩) (lt_of_cell hc)).trans hc
  have HA := Hd hA
  obtain ⟨b, hb⟩ : ∃ b, (x0 == s) = b := ⟨_, rfl⟩
  rw [hb]
  clear hc hA
  go_enter Tryz.func197, Tryz.ntmps197
  go_wp2
  go_ret
  exact ⟨rfl, HA.out⟩
theorem told_size : (Tryz.prog.info? 210).map (·.size) = some 2 := by kernel_rfl
theorem told_ret {fn : Func} {p : Tmp} (h : fn.results = #[.cell p 210]) (tmps : Array Value) (w : World) (g : Nat) (c z : Value)
    (hp : tmps.getD p undef = .pointer (some ⟨g, 0, none⟩)) (hg : w.heap[g]? = some (.cells #[c, z] 210 (0, 0))) : (results fn tmps).run Tryz.prog w = .ok (.agg #[c, z]) w :=
  results_cell_row h tmps w g _ _ _ _ hp hg Tryz.underlying210 rfl told_size
theorem ask_put {S : Nat → Addr} {l : List RuleL} {T : Look} {v : Value} {ab tb kb : Nat} {w : World} {K : List (List UInt8 × Told)} (h : AskAt S l T v ab tb kb w K) {r : Nat} (hr : ab < r ∧ kb < r) (a b : Value) : AskAt S l T v ab tb kb ((w.setCell ⟨r, 0, none⟩ a).setCell ⟨r, 1, none⟩ b) K :=
  h.fr (Fr.setCell (S := fun q => q = r) (p := ⟨r, 1, none⟩) (Fr.setCell (S := fun q => q = r) (p := ⟨r, 0, none⟩) (Fr.refl w.heap.size _ w) (fun _ => rfl) a) (fun _ => rfl) b) h.lt (by omega) (by omega)
theorem fr_put {B kb : Nat} {w w' : World} (h : Fr B (fun q => q = kb) w w') {r : Nat} (hr : B ≤ r) (a b : Value) : Fr B (fun q => q = kb) w ((w'.setCell ⟨r, 0, none⟩ a).setCell ⟨r, 1, none⟩ b) :=
  Fr.setCell (p := ⟨r, 1, none⟩) (Fr.setCell (p := ⟨r, 0, none⟩) h (fun hlt => absurd hlt (by show ¬ r < B; omega)) a) (fun hlt => absurd hlt (by show ¬ r < B; omega)) b
set_option maxHeartbeats 4000000 in
theorem askOf_any {S : Nat → Addr} {R : List RV} {v : Value} {tb mb : Nat} {m : List Ent} {w0 : World} (C : WCtx S R v tb mb m w0) (ab kb : Nat) (_hab : w0.heap.size ≤ ab) (_hkb : w0.heap.size ≤ kb) (K : List (List UInt8 × Told)) (p : List UInt8) (W : World) (hW : Below w0.heap.size w0 W)
    (hA : AskAt S (R.map Prod.fst) (fun p => mlook p m) v ab tb kb W K)
    (hM : ∀ k (hk : k < R.length), R[k].1.out = p → ∀ W' K', Below w0.heap.size w0 W' → AskAt S (R.map Prod.fst) (fun p => mlook p m) v ab tb kb W' K' → Calls Tryz.prog 198 #[.pointer (some ⟨ab, 0, none⟩), rvAgg R[k]] W' (AskPost S (R.map Prod.fst) (fun p => mlook p m) v ab tb kb p W')) :
    Calls Tryz.prog 140 #[.pointer (some ⟨ab, 0, none⟩), str p] W (AskPost S (R.map Prod.fst) (fun p => mlook p m) v ab tb kb p W) := by
  obtain ⟨a, c, hv, -, -⟩ := id C.rules.1
  rw [List.length_map] at hv
  subst hv
  obtain ⟨W1, hW1⟩ : ∃ X, (W.alloc (.cells #[str p] 9)).alloc (.cells #[.string ⟨#[]⟩, .nilIface] 210) = X := ⟨_, rfl⟩
  have hA1 : Below W.heap.size W W1 := hW1 ▸ ((Below.refl _ W).alloc (Nat.le_refl _) _).alloc (by simp) _
  have hz1 : W1.heap.size = W.heap.size + 2 := by rw [← hW1]; simp
  have hgp : W1.heap[W.heap.size]? = some (.cells #[str p] 9 (0, 0)) := by
    rw [← hW1]
    exact Kf.heap_alloc_old (Kf.heap_alloc_here W _) _
  have hgr : W1.heap[W.heap.size + 1]? = some (.cells #[.string ⟨#[]⟩, .nilIface] 210 (0, 0)) := by
    rw [← hW1]
    have := heap_alloc_here (W.alloc (.cells #[str p] 9)) (.cells #[.string ⟨#[]⟩, .nilIface] 210)
    simpa using this
  have HPB := Hd (fun wl (hb : Below W1.heap.size W1 wl) => ((cell_of_heap ((hb.block W.heap.size (by omega)).trans hgp) 0).trans rfl : wl.cell? ⟨W.heap.size, 0, none⟩ = some (str p)))
  have HRB := Hd (fun wl (hb : Below W1.heap.size W1 wl) => ((hb.block (W.heap.size + 1) (by omega)).trans hgr))
  have HPG := Hd (fun wl (hb : Below W1.heap.size W1 wl) => ((hb.block W.heap.size (by omega)).trans hgp))
  have hW01 := hW.trans (hA1.mono hW.size)
  have HC := Hd C
  have HA := Hd (fun wl (hb : Below W1.heap.size W1 wl) => (hA.below hA1).below hb)
  have HW := Hd (fun wl (hb : Below W1.heap.size W1 wl) => hW01.trans (hb.mono hW01.size))
  have HA1 := Hd hA1
  have HA0 := Hd hA
  have HM := Hd hM
  have KI := Hd (idxRule_any (fun x => x.1.out == p) 197 (.pointer (some ⟨W.heap.size, 0, none⟩)) (.slice a R.length c) R W1 (C.below hW01).rules.1
    ⟨fun _ _ => rfl, fun X x hX => askFn_any x W.heap.size p X (HPB.out X hX)⟩)
  obtain ⟨hc0, hc1, hc2⟩ := (HA.out W1 (Below.refl _ _)).cells
  have hpb := HPB.out W1 (Below.refl _ _)
  clear C hA hW hM hA1 hgp hgr hW01
  go_enter Tryz.func140, Tryz.ntmps140
  go_wp2_with fail
  refine KI.out.mono ?_
  rintro e w2 ⟨rfl, hb2⟩
  have hbx := (HA.out w2 hb2).cells
  obtain ⟨hd0, hd1, hd2⟩ := hbx
  have hpb2 := HPB.out w2 hb2
  clear hc0 hc1 hc2 hpb
  rcases idxR_cases (fun x => x.1.out == p) R with ⟨k, hk, hi, hkp⟩ | ⟨hi, hno⟩
  case inr =>
    rw [hi]
    have hnone : p ∉ (R.map Prod.fst).map RuleL.out := fun hm => by
      rw [List.map_map] at hm
      obtain ⟨x, hx, e⟩ := List.mem_map.1 hm
      have := hno x hx
      simp only [Function.comp_apply] at e
      simp [e] at this
    have HV : Hid (wantV (R.map Prod.fst) (fun p => mlook p m) p = leafT (fun p => mlook p m) p) := Hd (wantV_leaf hnone)
    have KG : Hid (∀ n, Calls Tryz.prog 23 #[.pointer (some ⟨tb, 0, none⟩), str p] (w2.drewN n) fun e w' => e = .returned (.tuple #[str ((mlook p m).getD []), .bool (mlook p m).isSome]) ∧ w' = w2.drewN n) := Hd (fun n =>
      (get_tree tb mb m p (w2.drewN n) ((HC.out.below (HW.out w2 hb2)).tree.below (below_drewN (Below.refl _ _) n))).mono fun _ _ ⟨h1, h2⟩ => ⟨h1, h2.symm⟩)
    have hres := HRB.out w2 hb2
    have hnon : w2.cell? ⟨0, 0, none⟩ = some (errI (S 5)) := (HC.out.below (HW.out w2 hb2)).non
    have HLT2 := Hd HA0.out.lt
    have HB2 := Hd hb2
    clear hi hno hnone hb2
    cases hl : mlook p m with
    | none =>
      have HLT : Hid (leafT (fun p => mlook p m) p = (6, [])) := Hd (by simp only [leafT, hl])
      rw [hl] at KG
      obtain ⟨hcs, hf0, hf1⟩ := two_free hres
      have HRS := Hd hres
      clear hres hl
      go_wp2_with fail
      go_quiet ((go_at_call 23; exact Calls.quiet_of_same (KG.out _)))
      go_wp2
      refine bodyPost_ret (told_ret rfl _ _ (W.heap.size + 1) _ _ rfl (two_put (w := w2.drewN _) HRS.out _ _)) rfl ?_
      refine ⟨K, by rw [HV.out, HLT.out]; rfl, ask_put (HA.out _ (below_drewN HB2.out _)) (by have := HLT2.out; omega) _ _, fr_put (Fr.of_below (HA1.out.trans ((below_drewN HB2.out _).mono HA1.out.size))) (by omega) _ _⟩
    | some b =>
      have HLT : Hid (leafT (fun p => mlook p m) p = (0, b)) := Hd (by simp only [leafT, hl])
      rw [hl] at KG
      obtain ⟨hcs, hf0, hf1⟩ := two_free hres
      have HRS := Hd hres
      clear hres hl
      go_wp2_with fail
      go_quiet ((go_at_call 23; exact Calls.quiet_of_same (KG.out _)))
      go_wp2
      refine bodyPost_ret (told_ret rfl _ _ (W.heap.size + 1) _ _ rfl (two_put (w := w2.drewN _) HRS.out _ _)) rfl ?_
      refine ⟨K, by rw [HV.out, HLT.out]; rfl, ask_put (HA.out _ (below_drewN HB2.out _)) (by have := HLT2.out; omega) _ _, fr_put (Fr.of_below (HA1.out.trans ((below_drewN HB2.out _).mono HA1.out.size))) (by omega) _ _⟩
  case inl =>
    rw [hi]
    have hkp' : R[k].1.out = p := by simpa using hkp
    have hk0 : ((k : Int) < 0) = False := eq_false (by omega)
    have hres := HRB.out w2 hb2
    have HRS := Hd hres
    have HB2 := Hd hb2
    have HLT2 := Hd HA0.out.lt
    obtain ⟨hcs, hf0, hf1⟩ := two_free hres
    cases hl : mlook p K with
    | some x =>
      have HX : Hid (x = wantV (R.map Prod.fst) (fun p => mlook p m) p) := Hd (HA0.out.ok p x hl)
      have HSS : Hid (∀ wl, Below w2.heap.size w2 wl → wl.cell? ⟨ab, 2, none⟩ = some (.map (some kb)) ∧ wl.cell? ⟨W.heap.size, 0, none⟩ = some (str p) ∧ (Instr.lookup 206 (.map (some kb)) (str p) true).run Tryz.prog wl = .ok (.tuple #[.agg #[str x.2, errN S x.1], .bool true]) wl) := Hd (fun wl hb => by
        have hbl := hb2.trans (hb.mono hb2.size)
        have hlk := (HA.out wl hbl).map.lookup tmapKey knowUnd knowZero p true
        rw [hl] at hlk
        exact ⟨(HA.out wl hbl).cells.2.2, HPB.out wl hbl, hlk⟩)
      clear hi hkp hb2 hl hres
      obtain ⟨xc, xb⟩ := x
      simp only at HSS HX
      have HB3 : Hid (∀ o, Below W1.heap.size W1 (w2.alloc o)) := Hd (fun o => HB2.out.alloc HB2.out.size o)
      have HR3 : Hid (∀ o, (w2.alloc o).heap[W.heap.size + 1]? = some (.cells #[.string ⟨#[]⟩, .nilIface] 210 (0, 0))) := Hd (fun o => HRB.out _ (HB3.out o))
      have H3 : Hid ((∀ o k, (w2.alloc o).cell? ⟨W.heap.size + 1, k, none⟩ = (#[.string ⟨#[]⟩, .nilIface] : Array Value)[k]?) ∧ (∀ o, (w2.alloc o).frozen? ⟨W.heap.size + 1, 0, none⟩ = false) ∧ ∀ o, (w2.alloc o).frozen? ⟨W.heap.size + 1, 1, none⟩ = false) := Hd ⟨fun o => (two_free (HR3.out o)).1, fun o => (two_free (HR3.out o)).2.1, fun o => (two_free (HR3.out o)).2.2⟩
      have HEQ : Hid (toldV S (wantV (R.map Prod.fst) (fun p => mlook p m) p) = .agg #[str xb, errN S xc]) := Hd (by rw [← HX.out]; rfl)
      rcases errN_cases S xc with he | ⟨ad, he⟩
      all_goals
        rw [he] at HSS HEQ
        clear he
        go_wp2_with fail
        first
        | go_region_held3 (fun w' => w'.cell? ⟨ab, 2, none⟩ = some (.map (some kb)) ∧ w'.cell? ⟨W.heap.size, 0, none⟩ = some (str p) ∧ (Instr.lookup 206 (.map (some kb)) (str p) true).run Tryz.prog w' = .ok (.tuple #[.agg #[str xb, .nilIface], .bool true]) w')
            (first | exact HSS.out _ (Below.refl _ _) | exact HSS.out _ (Below.refl _ _).drew | exact HSS.out _ ((Below.refl _ _).drew.alloc (Nat.le_refl _) _) | exact HSS.out _ ((Below.refl _ _).alloc (Nat.le_refl _) _).drew | exact HSS.out _ ((Below.refl _ _).alloc (Nat.le_refl _) _))
            (first | fail)
        | go_region_held3 (fun w' => w'.cell? ⟨ab, 2, none⟩ = some (.map (some kb)) ∧ w'.cell? ⟨W.heap.size, 0, none⟩ = some (str p) ∧ (Instr.lookup 206 (.map (some kb)) (str p) true).run Tryz.prog w' = .ok (.tuple #[.agg #[str xb, errI ad], .bool true]) w')
            (first | exact HSS.out _ (Below.refl _ _) | exact HSS.out _ (Below.refl _ _).drew | exact HSS.out _ ((Below.refl _ _).drew.alloc (Nat.le_refl _) _) | exact HSS.out _ ((Below.refl _ _).alloc (Nat.le_refl _) _).drew | exact HSS.out _ ((Below.refl _ _).alloc (Nat.le_refl _) _))
            (first | fail)
        all_goals
          obtain ⟨hcs3, hf3, hf4⟩ := H3.out
          go_wp2
          refine bodyPost_ret (told_ret rfl _ _ (W.heap.size + 1) _ _ rfl (two_put (HR3.out _) _ _)) rfl ?_
          exact ⟨K, by rw [HEQ.out], (ask_put (HA.out _ (HB3.out _)) (by have := HLT2.out; omega) _ _).drew, (fr_put (Fr.of_below (HA1.out.trans ((HB3.out _).mono HA1.out.size))) (by omega) _ _).drew⟩
    | none =>
      have HSS : Hid (∀ wl, Below w2.heap.size w2 wl → wl.cell? ⟨ab, 2, none⟩ = some (.map (some kb)) ∧ wl.cell? ⟨W.heap.size, 0, none⟩ = some (str p) ∧ (Instr.lookup 206 (.map (some kb)) (str p) true).run Tryz.prog wl = .ok (.tuple #[.agg #[str [], .nilIface], .bool false]) wl) := Hd (fun wl hb => by
        have hbl := hb2.trans (hb.mono hb2.size)
        have hlk := (HA.out wl hbl).map.lookup tmapKey knowUnd knowZero p true
        rw [hl] at hlk
        exact ⟨(HA.out wl hbl).cells.2.2, HPB.out wl hbl, hlk⟩)
      clear hi hkp hb2 hl hres
      go_wp2_with fail
      go_region_held3 (fun w' => w'.cell? ⟨ab, 2, none⟩ = some (.map (some kb)) ∧ w'.cell? ⟨W.heap.size, 0, none⟩ = some (str p) ∧ (Instr.lookup 206 (.map (some kb)) (str p) true).run Tryz.prog w' = .ok (.tuple #[.agg #[str [], .nilIface], .bool false]) w')
        (first | exact HSS.out _ (Below.refl _ _) | exact HSS.out _ (Below.refl _ _).drew | exact HSS.out _ ((Below.refl _ _).drew.alloc (Nat.le_refl _) _) | exact HSS.out _ ((Below.refl _ _).alloc (Nat.le_refl _) _).drew | exact HSS.out _ ((Below.refl _ _).alloc (Nat.le_refl _) _))
        (first | fail)
      all_goals
        obtain ⟨W3, hW3⟩ : ∃ X, (w2.alloc (.cells #[.string ⟨#[]⟩, .nilIface] 210)).drew = X := ⟨_, rfl⟩
        have hA3 : Below w2.heap.size w2 W3 := hW3 ▸ ((Below.refl _ w2).alloc (Nat.le_refl _) _).drew
        have hg3 : W3.heap[w2.heap.size]? = some (.cells #[.string ⟨#[]⟩, .nilIface] 210 (0, 0)) := by rw [← hW3]; exact Kf.heap_alloc_here w2 _
        have hb3 := HB2.out.trans (hA3.mono HB2.out.size)
        rw [hW3]
        clear hW3
        obtain ⟨b, o, hix, -, hce⟩ := (HC.out.below (HW.out W3 hb3)).rules.1.at (P := Tryz.prog) Tryz.underlying22 (by kernel_rfl) k (by simpa using hk)
        simp only [List.getElem_map] at hce
        have hr0 := hce 0 _ rfl
        have hr1 := hce 1 _ rfl
        have hr2 := hce 2 _ rfl
        have hr3 := hce 3 _ rfl
        simp only [Nat.add_zero] at hr0
        have KM := Hd (HM.out k hk hkp' W3 K (HW.out W3 hb3) (HA.out W3 hb3))
        obtain ⟨he0, he1, he2⟩ := (HA.out W3 hb3).cells
        have HG3 := Hd hg3
        have HB3 := Hd hb3
        have HZ3 := Hd (lt_of_heap hg3)
        clear hce hA3 hg3 hb3
        generalize R[k] = x at *
        obtain ⟨⟨x0, x1, x2, x4⟩, x3⟩ := x
        simp only at hr0 hr1 hr2 hr3 KM hkp'
        rw [hkp'] at KM hr0
        clear hkp'
        obtain ⟨xc, xb, hx⟩ : ∃ xc xb, wantV (R.map Prod.fst) (fun p => mlook p m) p = (xc, xb) := ⟨_, _, rfl⟩
        have HEQ : Hid (toldV S (wantV (R.map Prod.fst) (fun p => mlook p m) p) = .agg #[str xb, errN S xc]) := Hd (by rw [hx]; rfl)
        have HXW : Hid (wantV (R.map Prod.fst) (fun p => mlook p m) p = (xc, xb)) := Hd hx
        clear hx
        rcases errN_cases S xc with he | ⟨ad, he⟩
        all_goals
          have HER := Hd he
          rw [he] at HEQ
          clear he
          go_wp2_with fail
          refine KM.out.mono ?_
          rintro e w4 ⟨K4, rfl, hA4, hF4⟩
          rw [HEQ.out]
          have hlt := HLT2.out
          have hz2 := HB2.out.size
          have hg4 := (hF4.block _ HZ3.out (by omega)).trans HG3.out
          have hf4 : Fr W1.heap.size (fun q => q = kb) W1 w4 := (Fr.of_below HB3.out).trans (hF4.mono HB3.out.size (fun _ _ h => h))
          have HF4 := Hd hf4
          have HA4 := Hd hA4
          have HG4 := Hd hg4
          obtain ⟨hcx, hfx, hfy⟩ := two_free hg4
          clear hA4 hF4 hg4 hf4
          go_wp2_with fail
          have H5 : ∀ ev, AskAt S (R.map Prod.fst) (fun p => mlook p m) (.slice a R.length c) ab tb kb ((w4.setCell ⟨w2.heap.size, 0, none⟩ (str xb)).setCell ⟨w2.heap.size, 1, none⟩ ev) K4 ∧
              ((w4.setCell ⟨w2.heap.size, 0, none⟩ (str xb)).setCell ⟨w2.heap.size, 1, none⟩ ev).heap[w2.heap.size]? = some (.cells #[str xb, ev] 210 (0, 0)) ∧ Fr W1.heap.size (fun q => q = kb) W1 ((w4.setCell ⟨w2.heap.size, 0, none⟩ (str xb)).setCell ⟨w2.heap.size, 1, none⟩ ev) :=
            fun ev => ⟨ask_put HA4.out (by omega) _ _, two_put HG4.out _ _, fr_put HF4.out hz2 _ _⟩
          have H5' := H5 (errN S xc)
          rw [HER.out] at H5'
          clear H5 hcx hfx hfy
          first
          | (obtain ⟨W5, hW5⟩ : ∃ X, (w4.setCell ⟨w2.heap.size, 0, none⟩ (str xb)).setCell ⟨w2.heap.size, 1, none⟩ .nilIface = X := ⟨_, rfl⟩
             rw [hW5] at H5' ⊢)
          | (obtain ⟨W5, hW5⟩ : ∃ X, (w4.setCell ⟨w2.heap.size, 0, none⟩ (str xb)).setCell ⟨w2.heap.size, 1, none⟩ (errI ad) = X := ⟨_, rfl⟩
             rw [hW5] at H5' ⊢)
          obtain ⟨hA5, hg5, hF5⟩ := H5'
          have hp5 : W5.cell? ⟨W.heap.size, 0, none⟩ = some (str p) := (cell_of_heap ((hF5.block W.heap.size (by omega) (by omega)).trans (HPG.out W1 (Below.refl _ _))) 0).trans rfl
          have hr5 := (hF5.block (W.heap.size + 1) (by omega) (by omega)).trans (HRB.out W1 (Below.refl _ _))
          obtain ⟨hk0', hk1', hk2'⟩ := hA5.cells
          obtain ⟨hcx, hfx, hfy⟩ := two_free hg5
          obtain ⟨es, ck, hup, hm6⟩ := MapIs.update tmapKey knowUnd (hA5.drew).map p (xc, xb)
          rw [show toldV S (xc, xb) = .agg #[str xb, errN S xc] from rfl, HER.out] at hup
          have hA6 : AskAt S (R.map Prod.fst) (fun p => mlook p m) (.slice a R.length c) ab tb kb (Kf.putMap W5.drew kb es ck) (mupd p (xc, xb) K4) := by
            refine ⟨?_, hm6, fun q y hq => ?_⟩
            · rw [Kf.putMap_heap, if_neg (fun h => hA5.ne h.1)]
              exact hA5.blk
            · rw [mlook_upd] at hq
              by_cases hpq : p = q
              · rw [if_pos hpq] at hq
                rw [← hpq, HXW.out]
                exact (Option.some.inj hq).symm
              · rw [if_neg hpq] at hq
                exact hA5.ok q y hq
          have hF6 : Fr W1.heap.size (fun q => q = kb) W1 (Kf.putMap W5.drew kb es ck) := Fr.putMap hF5.drew (fun _ => rfl) _ _
          have hg6 : (Kf.putMap W5.drew kb es ck).heap[w2.heap.size]? = W5.heap[w2.heap.size]? := by
            rw [Kf.putMap_heap, if_neg (fun h => by have := h.1; omega)]
            rfl
          have hg6' := hg6.trans hg5
          have hr6 : (Kf.putMap W5.drew kb es ck).heap[W.heap.size + 1]? = some (.cells #[.string ⟨#[]⟩, .nilIface] 210 (0, 0)) := by
            rw [Kf.putMap_heap, if_neg (fun h => by have := h.1; omega)]
            exact hr5
          generalize Kf.putMap W5.drew kb es ck = W6 at *
          have HA6 := Hd hA6
          have HF6 := Hd hF6
          have HR6 := Hd hr6
          have HKL := Hd (show kb < W.heap.size + 1 by omega)
          obtain ⟨hcy, hfz, hfw⟩ := two_free hg6'
          obtain ⟨hcr, hfr1, hfr2⟩ := two_free hr6
          clear hA5 hF5 hm6 hA6 hF6 hg6 hg6' hr6 hg5 hr5
          go_wp2_with fail
          go_region
          all_goals
            go_wp2
            refine bodyPost_ret (told_ret rfl _ _ (W.heap.size + 1) _ _ rfl (two_put HR6.out _ _)) rfl ?_
            exact ⟨_, by rw [HEQ.out], ask_put HA6.out (by have := HLT2.out; omega) _ _, fr_put ((Fr.of_below HA1.out).trans (HF6.out.mono HA1.out.size (fun _ _ h => h))) (by omega) _ _⟩
set_option maxHeartbeats 4000000 in
theorem askMade_any {S : Nat → Addr} {R : List RV} {v : Value} {tb mb : Nat} {m : List Ent} {w0 : World} (C : WCtx S R v tb mb m w0) (ab kb : Nat) (hkb : w0.heap.size ≤ kb) (K : List (List UInt8 × Told)) (W : World) (hW : Below w0.heap.size w0 W)
    (hA : AskAt S (R.map Prod.fst) (fun p => mlook p m) v ab tb kb W K) (i : Nat) (hi : i < R.length) (p : List UInt8)
    (hp : wantV (R.map Prod.fst) (fun p => mlook p m) p = toldOf R[i].1 (R[i].1.ins.map (wantV (R.map Prod.fst) (fun p => mlook p m))))
    (hI : ∀ s ∈ R[i].1.ins, ∀ W' K', Below w0.heap.size w0 W' → AskAt S (R.map Prod.fst) (fun p => mlook p m) v ab tb kb W' K' → Calls Tryz.prog 140 #[.pointer (some ⟨ab, 0, none⟩), str s] W' (AskPost S (R.map Prod.fst) (fun p => mlook p m) v ab tb kb s W')) :
    Calls Tryz.prog 198 #[.pointer (some ⟨ab, 0, none⟩), rvAgg R[i]] W (AskPost S (R.map Prod.fst) (fun p => mlook p m) v ab tb kb p W) := by
  have hsh := C.short _ (List.getElem_mem hi)
  have hrd := (C.rules.2 _ (List.getElem_mem hi)).1
  have hro := (C.rules.2 _ (List.getElem_mem hi)).2
  generalize hx : R[i] = x at *
  obtain ⟨⟨x0, x1, x2, ins⟩, x3⟩ := x
  simp only at hsh hrd hro hp hI
  clear hx
  obtain ⟨au, cu, hu, -, -⟩ := id hrd
  rw [List.length_map] at hu
  subst hu
  have hlt := hA.lt
  have hne := hA.ne
  obtain ⟨W1, hW1⟩ : ∃ X, (W.alloc (.cells #[str x0, str x1, str x2, .slice au ins.length cu] 35)).alloc (.cells #[.string ⟨#[]⟩, .nilIface] 210) = X := ⟨_, rfl⟩
  have hA1 : Below W.heap.size W W1 := hW1 ▸ ((Below.refl _ W).alloc (Nat.le_refl _) _).alloc (by simp) _
  have hz1 : W1.heap.size = W.heap.size + 2 := by rw [← hW1]; simp
  have hgp : W1.heap[W.heap.size]? = some (.cells #[str x0, str x1, str x2, .slice au ins.length cu] 35 (0, 0)) := by
    rw [← hW1]
    exact Kf.heap_alloc_old (Kf.heap_alloc_here W _) _
  have hgr : W1.heap[W.heap.size + 1]? = some (.cells #[.string ⟨#[]⟩, .nilIface] 210 (0, 0)) := by
    rw [← hW1]
    have := heap_alloc_here (W.alloc (.cells #[str x0, str x1, str x2, .slice au ins.length cu] 35)) (.cells #[.string ⟨#[]⟩, .nilIface] 210)
    simpa using this
  have HKB := Hd (show kb ≠ W.heap.size ∧ kb ≠ W.heap.size + 1 ∧ kb < W.heap.size by omega)
  have HPG := Hd (fun wl (hf : Fr W1.heap.size (fun q => q = kb) W1 wl) => ((fun k => cell_of_heap ((hf.block W.heap.size (by omega) (fun e => HKB.out.1 e.symm)).trans hgp) k) : ∀ k, wl.cell? ⟨W.heap.size, k, none⟩ = (#[str x0, str x1, str x2, .slice au ins.length cu] : Array Value)[k]?))
  have HRB := Hd (fun wl (hf : Fr W1.heap.size (fun q => q = kb) W1 wl) => ((hf.block (W.heap.size + 1) (by omega) (fun e => HKB.out.2.1 e.symm)).trans hgr))
  have hW01 := hW.trans (hA1.mono hW.size)
  have HW := Hd (fun wl (hf : Fr W1.heap.size (fun q => q = kb) W1 wl) => (hW01.trans ((hf.mono (S' := fun q => q = kb) hW01.size (fun _ _ h => h)).below (fun k hk e => by omega)) : Below w0.heap.size w0 wl))
  have HC := Hd C
  have HI := Hd hI
  have HA1 := Hd hA1
  have HAA := Hd (hA.below hA1)
  have HRD := Hd (fun wl (hb : Below w0.heap.size w0 wl) => hrd.below0 hb)
  have HP := Hd hp
  have HTO := Hd (fun s => toldOk_want (l := R.map Prod.fst) (T := fun p => mlook p m) C.files s)
  obtain ⟨G, hG⟩ : ∃ G : List UInt8 → Told, wantV (R.map Prod.fst) (fun p => mlook p m) = G := ⟨_, rfl⟩
  have HGE := Hd hG
  rw [hG] at HP HTO
  have hc3 := (cell_of_heap hgp 3).trans (show _ = some (Value.slice au ins.length cu) from rfl)
  clear C hA hW hI hrd hp hA1 hgp hgr hW01 hne hG
  go_enter Tryz.func198, Tryz.ntmps198
  go_wp2_with fail
  go_loopw [5, 14] (fun ov iv wl => ∃ (j : Nat) (K' : List (List UInt8 × Told)), j ≤ ins.length ∧ iv = .int .i64 j ∧ (∀ s ∈ ins.take j, (G s).1 = 0) ∧ wl.ownsRow (W.heap.size + 2) 9 1 ov (ins.take j).length ((ins.take j).map (fun s => str (G s).2)) ∧ AskAt S (R.map Prod.fst) (fun p => mlook p m) v ab tb kb wl K' ∧ Fr W1.heap.size (fun q => q = kb) W1 wl) (fun _ iv _ => ins.length - (intOf iv).toNat)
  case atStart => exact ⟨0, K, by omega, rfl, fun s hs => by simp at hs, World.ownsRow_nil _ _ _ _, HAA.out, Fr.refl _ _ _⟩
  case round =>
    obtain ⟨j, K', hj, rfl, hok, hown, hask, hfr⟩ := hrel
    have HOK := Hd hok
    have HOW := Hd hown
    have HAK := Hd hask
    have HFR := Hd hfr
    have hzr := hfr.size
    by_cases hlj : j < ins.length
    · have hlc : ((j : Int) < (ins.length : Int)) = True := eq_true (by omega)
      obtain ⟨b, o, hix, hce⟩ := (HRD.out _ (HW.out _ hfr)).at (P := Tryz.prog) Tryz.underlying33 (by kernel_rfl) j (by simpa using hlj)
      simp only [List.getElem_map] at hce
      have KI := Hd (HI.out ins[j] (List.getElem_mem hlj) wr K' (HW.out _ hfr) hask)
      have HTK : Hid (ins.take (j + 1) = ins.take j ++ [ins[j]]) := Hd (by rw [List.take_succ_eq_append_getElem hlj])
      have HBAD : Hid ((G ins[j]).1 ≠ 0 → G p = G ins[j]) := Hd (fun hb => by
        rw [HP.out]
        have h := toldOf_bad (r := ⟨x0, x1, x2, ins⟩) (xs := ins.map G) (i := j) (by simpa using hlj) (by simpa using hb) (fun q hq hqj => by
          simp only [List.getElem_map]
          exact HOK.out _ (List.mem_iff_getElem.2 ⟨q, by rw [List.length_take]; simp at hq; omega, by rw [List.getElem_take]⟩))
        simpa using h)
      generalize ins[j] = s at *
      clear hok hown hask hfr
      obtain ⟨xc, xb, hx⟩ : ∃ xc xb, G s = (xc, xb) := ⟨_, _, rfl⟩
      have HEQ : Hid (toldV S (wantV (R.map Prod.fst) (fun p => mlook p m) s) = .agg #[str xb, errN S xc]) := Hd (by rw [HGE.out, hx]; rfl)
      have HXW := Hd hx
      have hxl : xb.length ≤ 2000 := by have := (HTO.out s).len; rw [hx] at this; exact this
      clear hx
      cases xc with
      | succ ec =>
        have HEQ2 : Hid (toldV S (wantV (R.map Prod.fst) (fun p => mlook p m) s) = .agg #[str xb, errI (S ec)]) := Hd HEQ.out
        have HPG2 : Hid (toldV S (wantV (R.map Prod.fst) (fun p => mlook p m) p) = .agg #[str xb, errI (S ec)]) := Hd (by
          rw [HGE.out, HBAD.out (by rw [HXW.out]; exact Nat.succ_ne_zero _), HXW.out]
          rfl)
        clear HEQ
        go_wp2_with fail
        refine KI.out.mono ?_
        rintro e w4 ⟨K4, rfl, hA4, hF4⟩
        rw [HEQ2.out]
        have hf4 : Fr W1.heap.size (fun q => q = kb) W1 w4 := HFR.out.trans (hF4.mono hzr (fun _ _ h => h))
        have hr4 := HRB.out w4 hf4
        have hz4 := hf4.size
        have HR5 : Hid (∀ ob, (w4.alloc ob).heap[W.heap.size + 1]? = some (.cells #[.string ⟨#[]⟩, .nilIface] 210 (0, 0))) := Hd (fun ob => Kf.heap_alloc_old hr4 ob)
        have h5 : ∀ ob, (∀ k, (w4.alloc ob).cell? ⟨W.heap.size + 1, k, none⟩ = (#[.string ⟨#[]⟩, .nilIface] : Array Value)[k]?) ∧ (w4.alloc ob).frozen? ⟨W.heap.size + 1, 0, none⟩ = false ∧ (w4.alloc ob).frozen? ⟨W.heap.size + 1, 1, none⟩ = false := fun ob => two_free (HR5.out ob)
        have h50 := fun ob => (h5 ob).1
        have h51 := fun ob => (h5 ob).2.1
        have h52 := fun ob => (h5 ob).2.2
        have HA5 : Hid (∀ ob, AskAt S (R.map Prod.fst) (fun p => mlook p m) v ab tb kb (w4.alloc ob) K4) := Hd (fun ob => hA4.below ((Below.refl _ w4).alloc (Nat.le_refl _) ob))
        have HF5 : Hid (∀ ob, Fr W.heap.size (fun q => q = kb) W (w4.alloc ob)) := Hd (fun ob => ((Fr.of_below HA1.out).trans (hf4.mono HA1.out.size (fun _ _ h => h))).alloc (by have := HA1.out.size; omega) ob)
        clear hA4 hF4 hf4 hr4 h5
        go_wp2
        refine bodyPost_ret (told_ret rfl _ _ (W.heap.size + 1) _ _ rfl (two_put (HR5.out _) _ _)) rfl ?_
        exact ⟨_, by rw [HPG2.out], ask_put (HA5.out _) (by omega) _ _, fr_put (HF5.out _) (by omega) _ _⟩
      | zero =>
        have HEQ2 : Hid (toldV S (wantV (R.map Prod.fst) (fun p => mlook p m) s) = .agg #[str xb, .nilIface]) := Hd HEQ.out
        have HOK2 : Hid (∀ t ∈ ins.take (j + 1), (G t).1 = 0) := Hd (fun t ht => by
          rw [HTK.out] at ht
          rcases List.mem_append.1 ht with ht | ht
          · exact HOK.out t ht
          · rw [List.mem_singleton.1 ht, HXW.out])
        clear HEQ
        go_wp2_with fail
        refine KI.out.mono ?_
        rintro e w4 ⟨K4, rfl, hA4, hF4⟩
        rw [HEQ2.out]
        have HO4 := Hd (ownsRow_fr HOW.out hF4 (fun k hk => ⟨(HOW.out.lt k hk).2, by have := (HOW.out.lt k hk).1; have := HKB.out.2.2; omega⟩))
        have hf4 : Fr W1.heap.size (fun q => q = kb) W1 w4 := HFR.out.trans (hF4.mono hzr (fun _ _ h => h))
        have hz4 := hf4.size
        have HA4 := Hd hA4
        have HF4 := Hd hf4
        clear hA4 hF4 hf4 HOW HAK HFR
        have hnl : (ins.take j).length = j := by rw [List.length_take]; omega
        go_wp2_with (first
          | (at_builtin
             refine wpList_app _ rfl _ _ 33 rfl tyStrsA (W.heap.size + 2) u5 _ _ rfl ((HO4.out.alloc _).alloc _) ⟨w4.heap.size + 1, 0, none⟩ 1 1 [str xb] rfl rfl (news_one ?_) ?_ (by decide) ?_ ?_ ?_
             · have h := heap_alloc_here (w4.alloc (.cells #[str xb, .nilIface] 210)) (.cells #[str xb] 9)
               rw [show (w4.alloc (.cells #[str xb, .nilIface] 210)).heap.size = w4.heap.size + 1 by simp] at h
               exact (cell_of_heap h 0).trans rfl
             · intro u hu; simp at hu; subst hu; rfl
             · omega
             · simp; omega
             intro v6 w6 ho6 hg6 hloc6
             have HO6 : Hid (w6.ownsRow (W.heap.size + 2) 9 1 v6 (ins.take (j + 1)).length ((ins.take (j + 1)).map (fun s => str (G s).2))) := Hd (by
               rw [HTK.out, List.length_append, List.map_append, List.map_cons, List.map_nil, HXW.out]
               exact ho6)
             have HB6 : Hid (Below W1.heap.size w4 w6) := Hd ((((Below.refl W1.heap.size w4).alloc hz4 _).alloc (by simp; omega) _).grown hg6 (by simp; omega) (fun q hq => by have := (HO4.out.lt q hq).1; omega))
             clear ho6 hg6 hloc6))
        go_wp2
        go_roundw
        case rel => exact ⟨j + 1, K4, by omega, by go_num, HOK2.out, HO6.out, HA4.out.fr (Fr.of_below (S := fun _ => False) HB6.out) (by omega) id id, HF4.out.trans ((Fr.of_below HB6.out))⟩
        case measure => simp [intOf]; omega
    · obtain rfl : j = ins.length := by omega
      have hlc : ((ins.length : Int) < (ins.length : Int)) = False := eq_false (by omega)
      rw [List.take_length] at hok hown
      have HKA := Hd (arun_any x1 x2 u5 (ins.map fun s => (G s).2) wr S (by have h := ownsRow_reads hown; rw [List.map_map]; exact h) (ownsRow_roomy hown) (HC.out.below (HW.out _ hfr)).ml (HC.out.below (HW.out _ hfr)).err.a (HC.out.below (HW.out _ hfr)).num (HC.out.below (HW.out _ hfr)).tab hsh.2.1 (fun b hb => by
        obtain ⟨s, hs, rfl⟩ := List.mem_map.1 hb
        exact Nat.le_trans (HTO.out s).len (by omega)))
      have HPE : Hid (G p = actOf x1 x2 (ins.map fun s => (G s).2)) := Hd (by
        rw [HP.out, toldOf_good (by intro x hx; obtain ⟨s, hs, rfl⟩ := List.mem_map.1 hx; exact hok s hs), List.map_map]
        rfl)
      generalize actOf x1 x2 (ins.map fun s => (G s).2) = y at *
      obtain ⟨xc, xb⟩ := y
      have HEQ : Hid (toldV S (wantV (R.map Prod.fst) (fun p => mlook p m) p) = .agg #[str xb, errN S xc]) := Hd (by rw [HGE.out, HPE.out]; rfl)
      have HG9 := HPG.out wr hfr
      have hg1 := (HG9 1).trans (show _ = some (str x1) from rfl)
      have hg2 := (HG9 2).trans (show _ = some (str x2) from rfl)
      clear hok hown HG9 hask hfr HOK HOW
      simp only at HKA
      rcases errN_cases S xc with he | ⟨ad, he⟩
      all_goals
        rw [he] at HKA HEQ
        clear he
        go_wp2_with fail
        refine HKA.out.mono ?_
        rintro e w2 ⟨rfl, hb2⟩
        have hf2 : Fr W1.heap.size (fun q => q = kb) W1 w2 := HFR.out.trans ((Fr.of_below hb2).mono hzr (fun _ _ h => h))
        have hr2 := HRB.out w2 hf2
        have HR2 := Hd hr2
        have HF2 := Hd hf2
        have HA2 := Hd (HAK.out.below hb2)
        obtain ⟨hcs, hf0, hf1⟩ := two_free hr2
        clear hb2 hf2 hr2
        go_wp2
        refine bodyPost_ret (told_ret rfl _ _ (W.heap.size + 1) _ _ rfl (two_put HR2.out _ _)) rfl ?_
        exact ⟨_, by rw [HEQ.out], ask_put HA2.out (by omega) _ _, fr_put ((Fr.of_below HA1.out).trans (HF2.out.mono HA1.out.size (fun _ _ h => h))) (by omega) _ _⟩
theorem order1_any (n : Nat) (out : List Nat) (B g j : Nat) (hj : j < n) (w : World) (hB : w.cell? ⟨B, 0, none⟩ = some (.slice (some ⟨g, 0, none⟩) n n)) (hg : Bits w g (bitsOf n out)) :
    Calls Tryz.prog 192 #[intE j, .pointer (some ⟨B, 0, none⟩)] w fun e w' => e = .returned (.bool (!out.contains j)) ∧ w' = w := by
  have hix := idx_at (P := Tryz.prog) (T := 156) (E := 4) Tryz.underlying156 (by kernel_rfl) g n n j hj
  have hc := hg.at (k := j) (by rw [bitsOf_len]; exact hj)
  rw [bitsOf_at] at hc
  have hjn : ((j : Int) < (n : Int)) = True := eq_true (by omega)
  generalize out.contains j = b at *
  clear hg
  go_enter Tryz.func192, Tryz.ntmps192
  go_wp2
  go_ret
  trivial
structure OSt (w : World) (B : Nat) (wl : World) (n : Nat) (out : List Nat) (ov : Value) : Prop where
  own : wl.ownsRow (w.heap.size + 2) 3 1 ov out.length ((intsB out).map (Value.int .i64))
  bits : Bits wl w.heap.size (bitsOf n out)
  box : wl.cell? ⟨B, 0, none⟩ = some (.slice (some ⟨w.heap.size, 0, none⟩) n n)
  below : Below w.heap.size w wl
  size : w.heap.size + 2 ≤ wl.heap.size
theorem OSt.step {w wl w5 : World} {B n k q : Nat} {out : List Nat} {ov v5 : Value} (h : OSt w B wl n out ov) (hB : B = w.heap.size + 1)
    (ho : w5.ownsRow (w.heap.size + 2) 3 1 v5 (out.length + 1) ((intsB out).map (Value.int .i64) ++ [intE k]))
    (hg : (((wl.drewN q).setCell ⟨w.heap.size, k, none⟩ (.bool true)).alloc (.cells #[intE k] 3)).grownBy w5 ov.ownBlock) : OSt w B w5 n (out ++ [k]) v5 := by
  have h0 : Bits ((wl.drewN q).setCell ⟨w.heap.size, k, none⟩ (.bool true)) w.heap.size (bitsOf n (out ++ [k])) := by
    rw [← bitsOf_set]
    exact Bits.put (w := wl.drewN q) h.bits k true
  have h1 := VRow.below0 h0 ((Below.refl _ _).alloc (Nat.le_refl _) (.cells #[intE k] 3))
  have hl : ∀ b, ov.ownBlock = some b → w.heap.size + 2 ≤ b := fun b hb => (h.own.lt b hb).1
  refine ⟨?_, h1.fr (Fr.of_grown hg) h1.lt (fun e => by have := hl _ e; omega), ?_, ?_, ?_⟩
  · simpa [intsB] using ho
  · refine ((Fr.of_grown hg).cell (p := ⟨B, 0, none⟩) ?_ (fun e => by have h3 : w.heap.size + 2 ≤ B := hl _ e; omega)).trans ?_
    · have := h.size
      simp
      omega
    · rw [World.cell?_of_block (w := wl) (a := ⟨B, 0, none⟩)]
      · exact h.box
      · rw [Below.heap_alloc _ _ _ (by have := h.size; show B < _; simp; omega), Below.heap_setCell _ _ _ _ (by show B ≠ _; simp; omega)]
        rfl
  · refine Below.grown ?_ hg ?_ (fun b hb => Nat.le_trans (by omega) (hl b hb))
    · exact (((below_drewN h.below q).setCell (p := ⟨w.heap.size, k, none⟩) (Nat.le_refl _) _).alloc (by have := h.size; simp; omega) _)
    · have := h.size; simp; omega
  · have := h.size
    have h2 := (Fr.of_grown hg).size
    simp at h2
    omega
set_option maxHeartbeats 4000000 in
theorem order_any (v : Value) (n : Nat) (E : Nat → List Nat) (isB : Nat → Bool) (f : Nat) (L : Array Value) (w : World) (hv : EdgesV w v n E) (hE : ∀ i, ∀ k ∈ E i, k < n) (hp : PredI isB f L (List.range n) w) (hn : n ≤ 1000) :
    Calls Tryz.prog 135 #[v, .func (.func f) #[] L] w fun e w' =>
      ((∃ o u, orderB E isB n = some o ∧ e = .returned (.tuple #[u, .bool true]) ∧ w'.ownsRow w.heap.size 3 1 u o.length ((intsB o).map (Value.int .i64))) ∨
       (orderB E isB n = none ∧ e = .returned (.tuple #[.slice none 0 0, .bool false]))) ∧ Below w.heap.size w w' := by
  obtain ⟨vs, hrv, hvl, -⟩ := id hv
  obtain ⟨a, c, hv0, hle, -⟩ := id hrv
  subst hv0
  rw [hvl] at *
  have eg := hp.1
  have HP := Hd hp.2
  have HV := Hd hv
  have HE := Hd hE
  have hmk := make_bools n (by omega) w
  obtain ⟨W1, hW1⟩ : ∃ W, w.alloc (.cells ((List.replicate n false).map Value.bool).toArray 4) = W := ⟨_, rfl⟩
  have hA : Below w.heap.size w W1 := hW1 ▸ (Below.refl _ w).alloc (Nat.le_refl _) _
  have hb0 : Bits W1 w.heap.size (bitsOf n []) := by
    rw [bitsOf_nil, ← hW1]
    exact heap_alloc_here w _
  have hz1 : W1.heap.size = w.heap.size + 1 := by rw [← hW1]; simp
  rw [hW1] at hmk
  obtain ⟨W2, hW2⟩ : ∃ W, W1.alloc (.cells #[.slice (some ⟨w.heap.size, 0, none⟩) n n] 156) = W := ⟨_, rfl⟩
  have hA2 : Below w.heap.size w W2 := hW2 ▸ hA.alloc (by omega) _
  have hb2 : Bits W2 w.heap.size (bitsOf n []) := hW2 ▸ (hb0.below0 ((Below.refl _ W1).alloc (Nat.le_refl _) _))
  have hq2 : W2.cell? ⟨w.heap.size + 1, 0, none⟩ = some (.slice (some ⟨w.heap.size, 0, none⟩) n n) := by rw [← hz1, ← hW2, cell_of_heap (heap_alloc_here W1 _)]; rfl
  have hz2 : W2.heap.size = w.heap.size + 2 := by rw [← hW2]; simp [hz1]
  have HA := Hd hA2
  have HB := Hd hb2
  have HQ := Hd hq2
  clear hv hE hp hrv hA hb0 hA2 hb2 hq2 hvl
  go_enter Tryz.func135, Tryz.ntmps135
  go_wp2_with fail
  go_loopw [8, 17] (fun mv iv wl => ∃ i : Nat, i ≤ n ∧ iv = .int .i64 i ∧ mv = .int .i64 (manyB isB i : Nat) ∧ ∃ q, wl = W2.drewN q) (fun _ iv _ => n - (intOf iv).toNat)
  case atStart => exact ⟨0, by omega, rfl, rfl, 0, rfl⟩
  case round =>
    obtain ⟨i, hi, rfl, rfl, q, rfl⟩ := hrel
    have hbi := below_drewN HA.out q
    by_cases hlt : i < n
    · have hlc : ((i : Int) < (n : Int)) = True := eq_true (by omega)
      have hms := manyB_succ isB i
      have hml := manyB_le isB i
      have K := Hd (HP.out (W2.drewN q) i (List.mem_range.2 hlt) hbi)
      cases hb : isB i with
      | true =>
        rw [hb] at K hms
        simp only [if_true] at hms
        generalize manyB isB i = m at *
        go_wp2_with fail
        refine K.out.mono ?_
        rintro e w3 ⟨rfl, q2, rfl⟩
        go_wp2
        go_roundw
        case rel => exact ⟨i + 1, by omega, by go_num, by rw [hms]; go_num, q + q2, rfl⟩
        case measure => simp [intOf]; omega
      | false =>
        rw [hb] at K hms
        simp only [Bool.false_eq_true, if_false, Nat.add_zero] at hms
        generalize manyB isB i = m at *
        go_wp2_with fail
        refine K.out.mono ?_
        rintro e w3 ⟨rfl, q2, rfl⟩
        go_wp2
        go_roundw
        case rel => exact ⟨i + 1, by omega, by go_num, by rw [hms], q + q2, rfl⟩
        case measure => simp [intOf]; omega
    · obtain rfl : n = i := by omega
      have hlc : ((n : Int) < (n : Int)) = False := eq_false (by omega)
      have hml := manyB_le isB n
      have HOB : Hid (orderB E isB n = orderGo E isB n (manyB isB n) []) := Hd rfl
      generalize hm : manyB isB n = m at *
      clear hm hlt hi
      have HBI := Hd hbi
      clear hbi
      go_wp2_with fail
      go_loopw [7] (fun ov wl => ∃ out : List Nat, out.length ≤ m ∧ OSt w (w.heap.size + 1) wl n out ov ∧ orderB E isB n = orderGo E isB n (m - out.length) out) (fun ov _ => m - lenV ov)
      case atStart => exact ⟨[], by simp, ⟨World.ownsRow_nil _ _ _ _, HB.out, HQ.out, HBI.out, by simp [hz2]⟩, by rw [HOB.out]; rfl⟩
      case round =>
        obtain ⟨out, hol, hst, hgo⟩ := hrel
        obtain ⟨ao, co, hov⟩ : ∃ ao co, u7 = .slice ao out.length co := by
          rcases hst.own.2 with ⟨e, h0⟩ | ⟨g, cap, _, e, -⟩
          · exact ⟨none, 0, by rw [e, h0]⟩
          · exact ⟨_, _, e⟩
        subst hov
        have HST := Hd hst
        have HGO := Hd hgo
        have hcq := hst.box
        have hfz : ∀ i, wr.frozen? ⟨w.heap.size, i, none⟩ = false := hst.bits.frozen
        by_cases hlm : out.length < m
        · have hlc2 : ((out.length : Int) < (m : Int)) = True := eq_true (by omega)
          have HEV := Hd (HV.out.below0 hst.below)
          have HBT : Hid (∀ i, i < n → wr.cell? ⟨w.heap.size, i, none⟩ = some (.bool (out.contains i))) := Hd (fun i hi => by
            have := hst.bits.at (k := i) (by rw [bitsOf_len]; exact hi)
            rw [bitsOf_at] at this
            exact this)
          have HPD : Hid (∀ i, i < n → ∀ q, PredI (fun j => !out.contains j) 192 #[.pointer (some ⟨w.heap.size + 1, 0, none⟩)] (E i) (wr.drewN q)) := Hd (fun i hi q => ⟨fun _ _ => rfl, fun W x hx hb => fnGives_drew (order1_any n out (w.heap.size + 1) w.heap.size x (HE.out i x hx) W
            ((hb.cell (p := ⟨w.heap.size + 1, 0, none⟩) (by have := hst.size; simp; omega)).trans hst.box) (VRow.below0 (w := wr.drewN q) hst.bits hb))⟩)
          have HBL : Hid (∀ q, Below w.heap.size w (wr.drewN q)) := Hd (fun q => below_drewN hst.below q)
          have HKA : Hid (∀ i, i < n → ∀ ue, Reads wr ue ((E i).map intE) → Hid (∀ q', Calls Tryz.prog 191 #[ue, .func (.func 192) #[] #[.pointer (some ⟨w.heap.size + 1, 0, none⟩)]] (wr.drewN q') fun e w' => e = .returned (.bool ((E i).any fun j => !out.contains j)) ∧ ∃ q, w' = (wr.drewN q').drewN q)) := Hd (fun i hi ue hre => Hd (fun q' =>
            anyInt_any _ _ _ _ (E i) _ (hre.below0 (below_drewN (Below.refl _ _) q')) (HPD.out i hi q')))
          clear hst hgo
          go_wp2_with fail
          go_loopw [10, 32] (fun kv iv wl => ∃ i : Nat, i ≤ n ∧ iv = .int .i64 i ∧ kv = .int .i64 (-1) ∧ (∀ j, j < i → candB E isB out j = false) ∧ ∃ q, wl = wr.drewN q) (fun _ iv _ => n - (intOf iv).toNat)
          case atStart => exact ⟨0, by omega, rfl, rfl, fun j h => by omega, 0, rfl⟩
          case round =>
            obtain ⟨i, hi, rfl, rfl, hno, q, rfl⟩ := hrel
            have HNO := Hd hno
            clear hno
            by_cases hlt : i < n
            · have hlc3 : ((i : Int) < (n : Int)) = True := eq_true (by omega)
              have K := Hd (HP.out _ i (List.mem_range.2 hlt) (HBL.out q))
              have hnn : ∀ h : candB E isB out i = false, ∀ j, j < i + 1 → candB E isB out j = false := fun h j hj => by
                by_cases hji : j = i
                · exact hji ▸ h
                · exact HNO.out j (by omega)
              have HNN := Hd hnn
              clear hnn
              cases hb : isB i with
              | false =>
                rw [hb] at K
                have HC : Hid (candB E isB out i = false) := Hd (by simp [candB, hb])
                clear hb
                go_wp2_with fail
                refine K.out.mono ?_
                rintro e w3 ⟨rfl, q2, rfl⟩
                go_wp2
                go_roundw
                case rel => exact ⟨i + 1, by omega, by go_num, rfl, HNN.out HC.out, q + q2, rfl⟩
                case measure => simp [intOf]; omega
              | true =>
                rw [hb] at K
                have hcb := HBT.out i hlt
                have hixb := idx_at (P := Tryz.prog) (T := 156) (E := 4) Tryz.underlying156 (by kernel_rfl) w.heap.size n n i hlt
                cases hdn : out.contains i with
                | true =>
                  rw [hdn] at hcb
                  have HC : Hid (candB E isB out i = false) := Hd (by simp [candB]; intro _ h; rw [List.contains_iff_mem] at hdn; exact absurd hdn h)
                  clear hb hdn
                  go_wp2_with fail
                  refine K.out.mono ?_
                  rintro e w3 ⟨rfl, q2, rfl⟩
                  go_wp2
                  go_roundw
                  case rel => exact ⟨i + 1, by omega, by go_num, rfl, HNN.out HC.out, q + q2, rfl⟩
                  case measure => simp [intOf]; omega
                | false =>
                  rw [hdn] at hcb
                  obtain ⟨-, -, be, oe, ue, hixe, hce, hre⟩ := HEV.out.at hlt
                  have KA := HKA.out i hlt ue hre
                  clear hre
                  cases hany : (E i).any fun j => !out.contains j with
                  | true =>
                    rw [hany] at KA
                    have HC : Hid (candB E isB out i = false) := Hd (by simp only [candB, hany]; simp)
                    clear hb hdn hany
                    go_wp2_with fail
                    refine K.out.mono ?_
                    rintro e w3 ⟨rfl, q2, rfl⟩
                    go_wp2_with fail
                    refine (KA.out (q + q2)).mono ?_
                    rintro e w4 ⟨rfl, q4, rfl⟩
                    go_wp2
                    go_roundw
                    case rel => exact ⟨i + 1, by omega, by go_num, rfl, HNN.out HC.out, q + q2 + q4, rfl⟩
                    case measure => simp [intOf]; omega
                  | false =>
                    rw [hany] at KA
                    have hcd : candB E isB out i = true := by simp only [candB, hb, hdn, hany]; rfl
                    have HNX : Hid (orderB E isB n = orderGo E isB n (m - (out.length + 1)) (out ++ [i])) := Hd (by
                      rw [HGO.out, show m - out.length = (m - (out.length + 1)) + 1 by omega]
                      exact orderGo_some (nextB_hit hlt hcd HNO.out))
                    have HO5 : Hid (∀ Q, ((wr.drewN Q).setCell ⟨w.heap.size, i, none⟩ (.bool true)).ownsRow (w.heap.size + 2) 3 1 (.slice ao out.length co) out.length ((intsB out).map (Value.int .i64))) := Hd (fun Q =>
                      ownsRow_fr HST.out.own (Fr.setCell (S := fun k => k = w.heap.size) (p := ⟨w.heap.size, i, none⟩) ((Fr.refl wr.heap.size _ wr).drewN Q) (fun _ => rfl) _) (fun k hk => ⟨(HST.out.own.lt k hk).2, fun e => by have := (HST.out.own.lt k hk).1; omega⟩))
                    have hzr := HST.out.size
                    clear hb hdn hany hcd
                    have hi0 : ((i : Int) < 0) = False := eq_false (by omega)
                    go_wp2_with fail
                    refine K.out.mono ?_
                    rintro e w3 ⟨rfl, q2, rfl⟩
                    go_wp2_with fail
                    refine (KA.out (q + q2)).mono ?_
                    rintro e w4 ⟨rfl, q4, rfl⟩
                    go_wp2_with (first
                      | (at_builtin
                         refine wpList_app _ rfl _ _ 53 rfl tyInts (w.heap.size + 2) _ _ _ rfl ((HO5.out (q + q2 + q4)).alloc _) ⟨wr.heap.size, 0, none⟩ 1 1 [intE i] rfl rfl (news_one ?_) ?_ (by decide) ?_ ?_ ?_
                         · have e := heap_alloc_here ((wr.drewN (q + q2 + q4)).setCell ⟨w.heap.size, i, none⟩ (.bool true)) (.cells #[intE i] 3)
                           rw [show ((wr.drewN (q + q2 + q4)).setCell ⟨w.heap.size, i, none⟩ (.bool true)).heap.size = wr.heap.size by simp] at e
                           rw [cell_of_heap e]; rfl
                         · intro u hu; simp at hu; subst hu; rfl
                         · omega
                         · simp; omega
                         intro v6 w6 ho6 hg6 hloc6
                         have HST6 := Hd (HST.out.step rfl (k := i) (q := q + q2 + q4) ho6 hg6)
                         obtain ⟨g6, cap6, rfl⟩ := ownsRow_some ho6 (by omega)
                         clear ho6 hg6 hloc6))
                    go_wp2
                    go_roundw
                    case rel => exact ⟨out ++ [i], by simp; omega, HST6.out, by rw [List.length_append, List.length_singleton]; exact HNX.out⟩
                    case measure => show m - (out.length + 1) < m - out.length; omega
            · obtain rfl : n = i := by omega
              have hlc3 : ((n : Int) < (n : Int)) = False := eq_false (by omega)
              have HF : Hid (orderB E isB n = none) := Hd (by
                rw [HGO.out, show m - out.length = (m - out.length - 1) + 1 by omega]
                exact orderGo_none (nextB_miss HNO.out))
              have HBq := Hd (HBL.out q)
              go_wp2
              go_ret2
              exact ⟨Or.inr ⟨HF.out, rfl⟩, HBq.out⟩
        · have hlc2 : ((out.length : Int) < (m : Int)) = False := eq_false (by omega)
          have HF : Hid (orderB E isB n = some out) := Hd (by
            rw [hgo, show m - out.length = 0 by omega]; rfl)
          clear hst hgo hcq hfz
          go_wp2
          go_ret2
          exact ⟨Or.inl ⟨out, _, HF.out, rfl, ownsRow_base HST.out.own (by omega)⟩, HST.out.below⟩
theorem gpart1_any (N : List Nat) (vs : Value) (B j : Nat) (w : World) (hB : w.cell? ⟨B, 0, none⟩ = some vs) (hr : Reads w vs (N.map intE)) :
    Calls Tryz.prog 151 #[intE j, .pointer (some ⟨B, 0, none⟩)] w fun e w' => e = .returned (.bool (N.contains j)) ∧ w' = w := by
  have K := Hd (containsInt_any j vs N w hr)
  clear hr
  go_enter Tryz.func151, Tryz.ntmps151
  go_wp2_with fail
  refine K.out.mono ?_
  rintro e w' ⟨rfl, rfl⟩
  go_wp2
  go_ret
  exact ⟨by simp, rfl⟩
def PartAns (S : Nat → Addr) (l : List RuleL) (N : List Nat) (B : Nat) (e : Ending) (w' : World) : Prop :=
  (∃ o u, orderB (edgesB l) (fun i => N.contains i) l.length = some o ∧ e = .returned (.tuple #[u, .nilIface]) ∧ w'.ownsRow B 3 1 u o.length ((intsB o).map (Value.int .i64))) ∨
  (orderB (edgesB l) (fun i => N.contains i) l.length = none ∧ e = .returned (.tuple #[.slice none 0 0, errI (S 8)]))
set_option maxHeartbeats 4000000 in
theorem gpart_any (R : List RV) (v : Value) (N : List Nat) (vs : Value) (w : World) (S : Nat → Addr) (hR : RulesAt w v R) (hri : Right (R.map Prod.fst)) (hs : Reads w vs (N.map intE)) (hE : KErr w S) (hb : ∀ x ∈ R, x.1.ins.length ≤ 1000) (hn : R.length ≤ 1000) :
    Calls Tryz.prog 84 #[v, vs] w fun e w' => PartAns S (R.map Prod.fst) N w.heap.size e w' ∧ Below w.heap.size w w' := by
  obtain ⟨a, c, hv, -, -⟩ := id hR.1
  rw [List.length_map] at hv
  subst hv
  obtain ⟨aw, cw, hvs, -, -⟩ := id hs
  rw [List.length_map] at hvs
  subst hvs
  obtain ⟨W0, hW0⟩ : ∃ W, w.alloc (.cells #[.slice aw N.length cw] 53) = W := ⟨_, rfl⟩
  have hA0 : Below w.heap.size w W0 := hW0 ▸ (Below.refl _ w).alloc (Nat.le_refl _) _
  have hz0 : w.heap.size < W0.heap.size := by rw [← hW0]; simp
  have hg0 : W0.heap[w.heap.size]? = some (.cells #[.slice aw N.length cw] 53 (0, 0)) := hW0 ▸ heap_alloc_here w _
  have HBX := Hd (fun wl (hb : Below W0.heap.size W0 wl) => ((cell_of_heap ((hb.block _ hz0).trans hg0) 0).trans rfl : wl.cell? ⟨w.heap.size, 0, none⟩ = some (.slice aw N.length cw)))
  have HSR := Hd (fun wl (hb : Below W0.heap.size W0 wl) => (hs.below0 hA0).below0 hb)
  have KE := Hd (edges_any R (.slice a R.length c) W0 (hR.below0 hA0) hri (by omega) hb)
  have HE := Hd (hE.below hA0 (Nat.le_refl _))
  have HA := Hd hA0
  have hml : (R.map Prod.fst).length = R.length := List.length_map _
  have HML := Hd hml
  clear hR hri hs hE hb hml hA0 hg0
  go_enter Tryz.func84, Tryz.ntmps84
  go_wp2_with fail
  refine KE.out.mono ?_
  rintro e w2 ⟨ev, rfl, hea, hb2⟩
  have hev : EdgesV w2 ev R.length (edgesB (R.map Prod.fst)) := by
    have := hea.view (by rw [HML.out]; omega)
    rw [HML.out] at this
    exact this
  have HB2 := Hd hb2
  have KO := Hd (order_any ev R.length (edgesB (R.map Prod.fst)) (fun i => N.contains i) 151 #[.pointer (some ⟨w.heap.size, 0, none⟩)] w2 hev (fun i k hk => by have h := edges_lt _ i k hk; rw [HML.out] at h; exact h)
    ⟨fun _ _ => rfl, fun W x _ hW => fnGives_drew (gpart1_any N _ w.heap.size x W (HBX.out W (hb2.trans (hW.mono hb2.size))) (HSR.out W (hb2.trans (hW.mono hb2.size))))⟩ (by omega))
  clear hea hb2 hev KE
  go_wp2_with fail
  refine KO.out.mono ?_
  rintro e w3 ⟨⟨o, u, ho, rfl, how⟩ | ⟨ho, rfl⟩, hb3⟩
  · have HO := Hd ho
    have HOW := Hd how
    have hz2 := HB2.out.size
    have HB3 := Hd (HA.out.trans ((HB2.out.trans (hb3.mono HB2.out.size)).mono HA.out.size))
    clear ho how hb3 KO
    go_wp2
    go_ret2
    exact ⟨Or.inl ⟨o, u, by rw [HML.out]; exact HO.out, rfl, ownsRow_base HOW.out (by omega)⟩, HB3.out⟩
  · have HO := Hd ho
    have hb03 := HB2.out.trans (hb3.mono HB2.out.size)
    have HB3 := Hd (HA.out.trans (hb03.mono HA.out.size))
    have hcy := (HE.out.below hb03 (Nat.le_refl _)).cycle
    clear ho hb3 KO hb03
    go_wp2_with fail
    go_quiet (fail)
    go_wp2
    go_ret2
    exact ⟨Or.inr ⟨by rw [HML.out]; exact HO.out, rfl⟩, by first | exact HB3.out | exact HB3.out.drew | exact below_drewN HB3.out _⟩
end Go.Proofs.YtgjialbmlhbngaaGreatDoor
