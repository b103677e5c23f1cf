/-
  Package pick: size, Run. The laws' picked, in plain Lean: two rules that write, the second one first; one level. The laws' picked: two rules, the second one first.
-/
import Derived.Test.YtgoeoekdlcbmpaaGreatDoorBdH
import Derived.Test.YtgoeoekdlcbmpaaGreatDoorBdA
import Derived.Test.YtgoeoekdlcbmpaaGreatDoorBdJ
import Derived.Test.YtgoeoekdlcbmpaaGreatDoorBdE

namespace Go.Proofs.YtgoeoekdlcbmpaaGreatDoor
open Go Go.RowKit Go.Kf Go.Sort Go.Proofs

/-- The size of a pick. -/
def sizeZ (z : Int) : Int := if z = -9223372036854775808 then 0 else if z < 0 then -z else z
def I64 (z : Int) : Prop := -9223372036854775808 ≤ z ∧ z ≤ 9223372036854775807
theorem sizeZ_at {z : Int} (h : I64 z) : 0 ≤ sizeZ z ∧ sizeZ z ≤ 9223372036854775807 := by
  unfold sizeZ
  unfold I64 at h
  split
  · omega
  · split <;> omega
def pickIx (z : Int) (n : Nat) : Nat := (sizeZ z).toNat % n
theorem pickIx_lt {z : Int} {n : Nat} (h : 0 < n) : pickIx z n < n := Nat.mod_lt _ h
theorem pickIx_mod {z : Int} {n : Nat} (h : I64 z) : (sizeZ z) % (n : Int) = (pickIx z n : Int) := by
  have h1 := (sizeZ_at h).1
  unfold pickIx
  generalize sizeZ z = q at *
  obtain ⟨k, rfl⟩ : ∃ k : Nat, q = k := ⟨q.toNat, by omega⟩
  rw [Int.toNat_natCast]
  exact (Int.natCast_emod k n).symm
/-- By picks. -/
inductive PickRel (l : List RuleL) (P : List Nat) (T : Look) : Option CS → (Nat → St) → List Int → List Nat → Option CS → (Nat → St) → Prop
  | nil {c : Option CS} {st : Nat → St} : PickRel l P T c st [] [] c st
  | skip {c c1 : Option CS} {st st1 : Nat → St} {ps : List Int} {ks : List Nat} {p : Int} : PickRel l P T c st ps ks c1 st1 → readyL l P st1 = [] → PickRel l P T c st (ps ++ [p]) ks c1 st1
  | go {c c1 c' : Option CS} {st st1 st' : Nat → St} {ps : List Int} {ks : List Nat} {p : Int} {k : Nat} {hit : Bool} : PickRel l P T c st ps ks c1 st1 → (readyL l P st1)[pickIx p (readyL l P st1).length]? = some k → GoRel l P T c1 st1 k hit c' st' → PickRel l P T c st (ps ++ [p]) (ks ++ [k]) c' st'
theorem PickRel.len {l : List RuleL} {P : List Nat} {T : Look} {c c' : Option CS} {st st' : Nat → St} {ps : List Int} {ks : List Nat} (h : PickRel l P T c st ps ks c' st') : ks.length ≤ ps.length := by
  induction h with
  | nil => exact Nat.le_refl _
  | skip _ _ ih => rw [List.length_append]; omega
  | go _ _ _ ih => rw [List.length_append, List.length_append]; simp; omega
theorem ready_mem {l : List RuleL} {P : List Nat} {st : Nat → St} {k : Nat} (h : k ∈ readyL l P st) : k ∈ P ∧ ReadyP l st k :=
  ⟨(List.mem_filter.1 h).1, readyB_iff.1 (List.mem_filter.1 h).2⟩
theorem PickRel.stepsL {l : List RuleL} {P : List Nat} {T : Look} {c c' : Option CS} {st st' : Nat → St} {ps : List Int} {ks : List Nat} (h : PickRel l P T c st ps ks c' st') : StepsL l P T c st ks c' st' := by
  induction h with
  | nil => exact .nil
  | skip _ _ ih => exact ih
  | go _ h2 h3 ih =>
    have := ready_mem (List.mem_of_getElem? h2)
    exact .snoc ih this.1 this.2 h3
/-- A rule that is ready, and has run. -/
theorem run_ready {l : List RuleL} {P : List Nat} {T : Look} {c c' : Option CS} {st st' : Nat → St} {k : Nat} {hit : Bool} {code : Nat} (h : RunRel l P T c st (k : Int) hit code c' st') (hk : k ∈ P ∧ ReadyP l st k) : GoRel l P T c st k hit c' st' := by
  generalize hz : ((k : Nat) : Int) = z at h
  cases h with
  | none h => exact absurd hz.symm (h k hk.1)
  | done h1 h2 =>
    obtain rfl : k = _ := by exact_mod_cast hz
    exact absurd hk.2.1 h2
  | turn h1 h2 h3 =>
    obtain rfl : k = _ := by exact_mod_cast hz
    exact absurd hk.2 h3
  | go h1 h2 h3 =>
    obtain rfl : k = _ := by exact_mod_cast hz
    exact h3
theorem bwait_le {P : List Nat} (st : Nat → St) : (waitL P st).length ≤ P.length := List.length_filter_le _ _

section
variable {S : Nat → Addr} {l : List RuleL} {P : List Nat} {m : List Ent} {D : BPl} {pb mb B : Nat} {lv lv' : Value} {c c' : Option CS} {st : Nat → St} {w w' w2 : World}
theorem Turned.then_ (h : Turned D P pb mb lv c w lv' c' w') (hb : Below w.heap.size w' w2) : Turned D P pb mb lv c w lv' c' w2 := ⟨h.1.trans (Fr.of_below hb), h.2⟩
/-- None of a build's blocks holds ints. -/
theorem BO.notInt (h : BO S l P m D pb mb B lv c st w) {q : Nat} (hq : D.has P q ∨ cfoot pb mb lv c q) (hi : ∃ cs, w.heap[q]? = some (.cells cs 3 (0, 0))) : False := by
  obtain ⟨cs, hi⟩ := hi
  rcases hq with (hk | ⟨j, hj, rfl⟩) | hq
  · rcases hk with rfl | rfl | rfl | rfl | rfl | ⟨i, hip, hk⟩
    · rw [h.at_.stat.blk] at hi
      simp at hi
    · obtain ⟨es, clock, hb, -⟩ := h.at_.stat.lm
      rw [hb] at hi; cases hi
    · obtain ⟨es, clock, hb, -⟩ := h.at_.stat.bm
      rw [hb] at hi; cases hi
    · rw [h.at_.stat.tree.blk] at hi
      simp at hi
    · obtain ⟨es, clock, hb, -⟩ := h.at_.stat.tree.map
      rw [hb] at hi; cases hi
    · obtain ⟨cs2, hb⟩ := own_typed (h.at_.stat.ins i hip) hk
      rw [hb] at hi
      simp at hi
  · rw [h.at_.step j hj] at hi
    simp at hi
  · cases c with
    | none => exact hq
    | some c =>
      rcases hq with rfl | rfl | hq
      · have := h.cache.2.blk
        rw [this] at hi
        simp at hi
      · obtain ⟨es, clock, hb, -⟩ := h.cache.2.map
        rw [hb] at hi; cases hi
      · obtain ⟨cs2, hb⟩ := own_typed h.cache.2.row hq
        rw [hb] at hi
        simp at hi
/-- Ints of the call's own, behind a run. -/
theorem BO.ints (h : BO S l P m D pb mb B lv c st w) {N n : Nat} {u : Value} {xs : List Value} (ho : w.ownsRow N 3 1 u n xs) (hf : Fr w.heap.size (fun q => D.steps P q ∨ cfoot pb mb lv c q) w w') : w'.ownsRow N 3 1 u n xs :=
  ownsRow_fr ho hf (fun q hq => ⟨(ho.lt q hq).2, fun hs => h.notInt (hs.imp Or.inr id) (own_typed ho hq)⟩)
theorem BO.grown (h : BO S l P m D pb mb B lv c st w) {N n : Nat} {u : Value} {xs : List Value} (ho : w.ownsRow N 3 1 u n xs) (hf : Fr w.heap.size (fun q => u.ownBlock = some q) w w') : BO S l P m D pb mb B lv c st w' :=
  h.fr hf (fun _ hq => ⟨h.lt hq, fun hs => h.notInt hq (own_typed ho hs)⟩)
end

set_option maxRecDepth 100000 in
theorem psize_any (z : Int) (hz : I64 z) (w : World) : Calls Tryz.prog 68 #[.int .i64 z] w fun e w' => e = .returned (.int .i64 (sizeZ z)) ∧ w' = w := by
  unfold sizeZ
  unfold I64 at hz
  by_cases h1 : z = -9223372036854775808
  · subst h1
    go_enter Tryz.func68, Tryz.ntmps68
    go_wp2
    go_ret
    exact ⟨rfl, rfl⟩
  · rw [if_neg h1]
    have e1 : (z == -9223372036854775808) = false := by simpa using h1
    by_cases h2 : z < 0
    · rw [if_pos h2]
      have e2 : (z < 0) = True := eq_true h2
      go_enter Tryz.func68, Tryz.ntmps68
      go_wp2
      go_ret
      exact ⟨by go_num, rfl⟩
    · rw [if_neg h2]
      have e2 : (z < 0) = False := eq_false h2
      go_enter Tryz.func68, Tryz.ntmps68
      go_wp2
      go_ret
      exact ⟨rfl, rfl⟩

/-- What Run by picks leaves. -/
def PickAns (S : Nat → Addr) (l : List RuleL) (P : List Nat) (m : List Ent) (D : BPl) (pb mb B : Nat) (lv : Value) (c : Option CS) (st : Nat → St) (picks : List Int) (w : World) (e : Ending) (w' : World) : Prop :=
  ∃ ks js c1 st1 c' st' lv' u, e = .returned (.tuple #[u, .nilIface]) ∧ PickRel l P (fun p => mlook p m) c st picks ks c1 st1 ∧ AllRel l P (fun p => mlook p m) c1 st1 js c' st' ∧ w'.ownsRow w.heap.size 3 1 u (ks ++ js).length ((intsB (ks ++ js)).map (Value.int .i64)) ∧ BO S l P m D pb mb B lv' c' st' w' ∧ Turned D P pb mb lv c w lv' c' w'

set_option maxRecDepth 100000 in
set_option maxHeartbeats 4000000 in
theorem pickRun_any {S : Nat → Addr} {l : List RuleL} {P : List Nat} {m : List Ent} {D : BPl} {pb mb B : Nat} {lv : Value} {c : Option CS} {st : Nat → St} {o : List Nat} (w : World) (h : BO S l P m D pb mb B lv c st w) (ho : Ord l P o) (w0 : World) (hB : w0.heap.size = B) (hV : BEnv S l m w0) (hb0 : Below w0.heap.size w0 w) (v : Value) (picks : List Int) (hp : ∀ wl, Fr w.heap.size (fun q => D.steps P q ∨ cfoot pb mb lv c q) w wl → Reads wl v (picks.map (Value.int .i64))) (hcap : Roomy v) (hn : picks.length ≤ 3000) (hz : ∀ z ∈ picks, I64 z) :
    Calls Tryz.prog 27 #[ptrV D.b, v] w (PickAns S l P m D pb mb B lv c st picks w) := by
  obtain ⟨a, cp, hv, -, -⟩ := hp w (Fr.refl _ _ _)
  rw [List.length_map] at hv
  subst hv
  have hcp : picks.length ≤ cp := hcap _ _ _ rfl
  have hmin : min (picks.length : Int) 3000 = (picks.length : Int) := by omega
  have HPR := Lib.hid hp
  have HZ := Lib.hid hz
  have HV := Lib.hid hV
  have HO := Lib.hid ho
  have HBE := Lib.hid hB
  have H := Lib.hid h
  have HB0 := Lib.hid hb0
  have HWL : Hid (∀ (lv1 : Value) (c1 : Option CS) (wl : World), Turned D P pb mb lv c w lv1 c1 wl → Below w0.heap.size w0 wl) := Lib.hid (fun lv1 c1 wl ht => h.base hB hb0 ht)
  have h40 := ho.ok.many
  clear h hp hz hV ho hb0 hcap
  go_enter Tryz.func27, Tryz.ntmps27
  go_wp2_with fail
  go_loopw [6, 21] (fun uv iv wl => ∃ (j : Nat) (ks : List Nat) (c1 : Option CS) (st1 : Nat → St) (lv1 : Value), j ≤ picks.length ∧ iv = .int .i64 j ∧ PickRel l P (fun p => mlook p m) c st (picks.take j) ks c1 st1 ∧ BO S l P m D pb mb B lv1 c1 st1 wl ∧ Turned D P pb mb lv c w lv1 c1 wl ∧ wl.ownsRow w.heap.size 3 1 uv ks.length ((intsB ks).map (Value.int .i64))) (fun _ iv _ => picks.length - (intOf iv).toNat)
  case atStart => exact ⟨0, [], c, st, lv, by omega, rfl, .nil, H.out, Turned.refl _ _ _ _ _ _ _, World.ownsRow_nil _ _ _ _⟩
  case round =>
    obtain ⟨j, ks, c1, st1, lv1, hj, rfl, hpr, hbo, htu, hown⟩ := hrel
    have HPK := Lib.hid hpr
    have HBO := Lib.hid hbo
    have HTU := Lib.hid htu
    have HOW := Lib.hid hown
    have hkl : ks.length ≤ 3000 := by
      have h1 := hpr.len
      rw [List.length_take] at h1
      omega
    have HFT := Lib.hid htu.1
    have KR := Lib.hid (bReady_any wr hbo.at_ HO.out.ok HV.out.lens)
    by_cases hlt : j < picks.length
    · have hlc : ((j : Int) < (picks.length : Int)) = True := eq_true (by omega)
      obtain ⟨b, of, hix, hce⟩ := (HPR.out wr HFT.out).at (P := Tryz.prog) Tryz.underlying24 (by kernel_rfl) j (by simpa using hlt)
      simp only [List.getElem_map] at hce
      have HTK : Hid (picks.take (j + 1) = picks.take j ++ [picks[j]]) := Lib.hid (List.take_succ_eq_append_getElem hlt)
      have hzj := HZ.out _ (List.getElem_mem hlt)
      generalize picks[j] = z at *
      have HZJ := Lib.hid hzj
      clear hpr hbo htu hown hzj
      go_wp2_with fail
      refine KR.out.mono ?_
      rintro e w1 ⟨u, rfl, hr1, hb1⟩
      have HRU := Lib.hid (reads_ints hr1)
      have hru := reads_ints hr1
      have HBO1 := Lib.hid (HBO.out.below hb1)
      have HTU1 := Lib.hid (HTU.out.trans (Turned.of_below hb1))
      have HOW1 := Lib.hid (ownsRow_fr (S := fun _ => False) HOW.out (Fr.of_below hb1) (fun q hq => ⟨(HOW.out.lt q hq).2, id⟩))
      obtain ⟨au, cu, hu, hrl, -⟩ := id hru
      rw [List.length_map] at hu hrl
      subst hu
      clear hr1 hb1 KR
      cases hr : readyL l P st1 with
      | nil =>
        have HR0 := Lib.hid hr
        rw [hr] at hru hrl
        have hn0 : ((0 : Int) < (([] : List Nat).length : Int)) = False := eq_false (by simp)
        clear hr hru
        go_wp2
        go_roundw
        case rel => exact ⟨j + 1, ks, c1, st1, lv1, by omega, by go_num, by rw [HTK.out]; exact .skip HPK.out HR0.out, HBO1.out, HTU1.out, HOW1.out⟩
        case measure => simp [intOf]; omega
      | cons k0 r0 =>
        rw [← hr]
        have hpos : 0 < (readyL l P st1).length := by rw [hr]; simp
        obtain ⟨rd, hrd⟩ : ∃ rd, readyL l P st1 = rd := ⟨_, rfl⟩
        have HRDE := Lib.hid hrd
        rw [hrd] at hru hrl hpos ⊢
        have hn1 : ((0 : Int) < (rd.length : Int)) = True := eq_true (by omega)
        have hne : ((rd.length : Int) == 0) = false := by simpa using (by omega : ¬ (rd.length : Int) = 0)
        have hpl := pickIx_lt (z := z) hpos
        have hmod := pickIx_mod (n := rd.length) HZJ.out
        have hs0 := (sizeZ_at HZJ.out).1
        have hs1 := (sizeZ_at HZJ.out).2
        have KZ := Lib.hid (psize_any z HZJ.out w1)
        obtain ⟨b2, o2, hix2, hce2⟩ := hru.at (P := Tryz.prog) Tryz.underlying24 (by kernel_rfl) (pickIx z rd.length) (by simpa using hpl)
        simp only [List.getElem_map] at hce2 hix2
        have hkm : rd[pickIx z rd.length]? = some rd[pickIx z rd.length] := List.getElem?_eq_getElem hpl
        have HKM := Lib.hid hkm
        have hrun := ready_mem (l := l) (P := P) (st := st1) (k := rd[pickIx z rd.length]) (by rw [HRDE.out]; exact List.getElem_mem hpl)
        have HRUN := Lib.hid hrun
        generalize hk : rd[pickIx z rd.length] = k at *
        have HIX : Hid (rd[pickIx z rd.length]? = some k) := Lib.hid HKM.out
        obtain ⟨ix, hixe⟩ : ∃ ix, pickIx z rd.length = ix := ⟨_, rfl⟩
        have HIXE := Lib.hid hixe
        rw [hixe] at hmod hix2 hpl
        simp only [hixe] at hce2 HIX
        clear hixe
        generalize sizeZ z = sz at *
        have hmod2 : sz.tmod (rd.length : Int) = (ix : Int) := by rw [Int.tmod_eq_emod_of_nonneg hs0]; exact hmod
        have KRU := Lib.hid (fun wl (hw : wl = w1) => hw ▸ brun_any w1 HBO1.out HO.out w0 HBE.out HV.out (HWL.out _ _ _ HTU1.out) (k : Int))
        clear hr hrd hru hrun hk hkm
        go_wp2_with fail
        refine KZ.out.mono ?_
        rintro e w2 ⟨rfl, rfl⟩
        go_wp2_with fail
        refine (KRU.out _ rfl).mono ?_
        rintro e w3 ⟨hit, code, c2, st2, lv2, rfl, hrel, hbo2, htu2⟩
        have HGO := Lib.hid (run_ready hrel HRUN.out)
        have HBO2 := Lib.hid hbo2
        have HTU2 := Lib.hid (HTU1.out.trans htu2)
        have HOW2 := Lib.hid (HBO1.out.ints HOW1.out htu2.1)
        have hz3 := htu2.1.size
        have hzw := HTU.out.1.size
        have hz2 := HTU1.out.1.size
        clear hrel hbo2 htu2 KRU KZ
        go_wp2_with (first
          | (at_builtin
             refine wpList_app _ rfl _ _ 24 rfl tyInts w.heap.size _ _ _ rfl (HOW2.out.alloc _) ⟨w3.heap.size, 0, none⟩ 1 1 [intE k] rfl rfl (news_one ?_) ?_ (by decide) ?_ ?_ ?_
             · rw [cell_of_heap (heap_alloc_here w3 _)]; rfl
             · intro u hu; simp at hu; subst hu; rfl
             · omega
             · simp; omega
             intro v6 w6 ho6 hg6 hloc6
             have HO6 : Hid (w6.ownsRow w.heap.size 3 1 v6 (ks ++ [k]).length ((intsB (ks ++ [k])).map (Value.int .i64))) := Lib.hid (by simpa [intsB, Nat.add_assoc] using ho6)
             have HF6 := Lib.hid (((Fr.refl w3.heap.size (fun q => u6.ownBlock = some q) w3).alloc (Nat.le_refl _) _).grown hg6 (by simp) (fun q hq hlt => hq))
             have HB6 := Lib.hid (HBO2.out.grown HOW2.out HF6.out)
             have HT6 := Lib.hid (HTU2.out.then_ ((HF6.out.mono (S' := fun q => u6.ownBlock = some q) (B' := w.heap.size) (by omega) (fun _ _ h => h)).below (fun q hq hs => by have := (HOW2.out.lt q hs).1; omega)))
             clear ho6 hg6 hloc6))
        go_wp2
        go_roundw
        case rel => exact ⟨j + 1, ks ++ [k], c2, st2, lv2, by omega, by go_num, by rw [HTK.out]; exact .go HPK.out (by rw [HRDE.out, HIXE.out]; exact HIX.out) HGO.out, HB6.out, HT6.out, HO6.out⟩
        case measure => simp [intOf]; omega
    · obtain rfl : j = picks.length := by omega
      have hlc : ((picks.length : Int) < (picks.length : Int)) = False := eq_false (by omega)
      rw [List.take_length] at HPK
      clear hpr hbo htu hown
      go_wp2_with fail
      refine KR.out.mono ?_
      rintro e w1 ⟨u, rfl, hr1, hb1⟩
      have HRU := Lib.hid (ownsRow_base hr1 HTU.out.1.size)
      have HBO1 := Lib.hid (HBO.out.below hb1)
      have HTU1 := Lib.hid (HTU.out.trans (Turned.of_below hb1))
      have HOW1 := Lib.hid (ownsRow_fr (S := fun _ => False) HOW.out (Fr.of_below hb1) (fun q hq => ⟨(HOW.out.lt q hq).2, id⟩))
      clear hr1 hb1 KR
      go_wp2_with fail
      go_loopw [6, 11] (fun uv rv wl => ∃ (js : List Nat) (c2 : Option CS) (st2 : Nat → St) (lv2 : Value), wl.ownsRow w.heap.size 3 1 rv (readyL l P st2).length ((intsB (readyL l P st2)).map (Value.int .i64)) ∧ BO S l P m D pb mb B lv2 c2 st2 wl ∧ Turned D P pb mb lv c w lv2 c2 wl ∧ wl.ownsRow w.heap.size 3 1 uv (ks ++ js).length ((intsB (ks ++ js)).map (Value.int .i64)) ∧ js.length + (waitL P st2).length ≤ P.length ∧
        ∀ js' c' st', AllRel l P (fun p => mlook p m) c2 st2 js' c' st' → AllRel l P (fun p => mlook p m) c1 st1 (js ++ js') c' st') (fun _ _ wl => waitW D P wl)
      case atStart => exact ⟨[], c1, st1, lv1, HRU.out, HBO1.out, HTU1.out, by rw [List.append_nil]; exact HOW1.out, by have := bwait_le (P := P) st1; simpa using this, fun js' c' st' h => h⟩
      case round =>
        obtain ⟨js, c2, st2, lv2, hrdo, hbo, htu, hown, hjs, hall⟩ := hrel
        have HRDO := Lib.hid hrdo
        have hrd := reads_ints hrdo
        clear hrdo
        have HBO2 := Lib.hid hbo
        have HTU2 := Lib.hid htu
        have HOW2 := Lib.hid hown
        have HALL := Lib.hid hall
        have HJS := Lib.hid hjs
        obtain ⟨au, cu, hu, hrl, -⟩ := id hrd
        rw [List.length_map] at hu hrl
        subst hu
        cases hr : readyL l P st2 with
        | nil =>
          have HR0 := Lib.hid hr
          rw [hr] at hrl hrd
          have hn0 : ((0 : Int) < (([] : List Nat).length : Int)) = False := eq_false (by simp)
          clear hrd hbo htu hown hall hr hjs
          go_wp2
          go_ret2
          exact ⟨ks, js, c1, st1, c2, st2, lv2, _, rfl, HPK.out, by have := HALL.out [] c2 st2 (.stop HR0.out); rwa [List.append_nil] at this, HOW2.out, HBO2.out, HTU2.out⟩
        | cons k r =>
          rw [hr] at hrl hrd
          have hn1 : ((0 : Int) < ((k :: r).length : Int)) = True := eq_true (by rw [List.length_cons]; omega)
          obtain ⟨b, of, hix, hce⟩ := hrd.at (P := Tryz.prog) Tryz.underlying24 (by kernel_rfl) 0 (by simp)
          simp only [List.map_cons, List.getElem_cons_zero, List.length_cons] at hce hix
          replace hix : ∀ w', (Instr.indexAt 24 (.slice au (r.length + 1) cu) (.int .i64 0)).run Tryz.prog w' = .ok (.pointer (some ⟨b, of, none⟩)) w' := hix
          have HR0 := Lib.hid hr
          have hkr := ready_head hr
          have HKR := Lib.hid hkr
          have HRD := Lib.hid hrd
          have KRU := Lib.hid (brun_any wr hbo HO.out w0 HBE.out HV.out (HWL.out _ _ _ htu) (k : Int))
          have HMS := Lib.hid (waitW_is hbo.at_)
          have HNI : Hid (∀ w2, Fr wr.heap.size (fun q => D.steps P q ∨ cfoot pb mb lv2 c2 q) wr w2 → ∃ b o, (∀ w', (Instr.indexAt 24 (.slice au (r.length + 1) cu) (.int .i64 0)).run Tryz.prog w' = .ok (.pointer (some ⟨b, o, none⟩)) w') ∧ w2.cell? ⟨b, o, none⟩ = some (intE k)) := Lib.hid (fun w2 hf => by
            have h1 := reads_ints (HBO2.out.ints HRDO.out hf)
            rw [hr] at h1
            obtain ⟨b, o, h2, h3⟩ := h1.at (P := Tryz.prog) Tryz.underlying24 (by kernel_rfl) 0 (by simp)
            simp only [List.map_cons, List.getElem_cons_zero, List.length_cons] at h2 h3
            exact ⟨b, o, h2, h3⟩)
          have hzr := htu.1.size
          clear hrd hbo htu hown hall hr hjs hkr
          simp only [List.length_cons] at *
          go_wp2_with fail
          refine KRU.out.mono ?_
          rintro e w3 ⟨hit, code, c3, st3, lv3, rfl, hrel, hbo3, htu3⟩
          have hgo := run_ready hrel HKR.out
          have HGO := Lib.hid hgo
          have HBO3 := Lib.hid hbo3
          have HTU3 := Lib.hid (HTU2.out.trans htu3)
          have HOW3 := Lib.hid (HBO2.out.ints HOW2.out htu3.1)
          obtain ⟨b3, o3, hix3, hce3⟩ := HNI.out _ htu3.1
          have hz3 := htu3.1.size
          have hless : (waitL P st3).length < (waitL P st2).length := by
            have hl := hgo.less
            exact wait_less HKR.out.1 HKR.out.2.1 hl.1 hl.2
          have HLESS := Lib.hid hless
          have hjl : js.length ≤ 40 := by have := HJS.out; omega
          clear hrel hbo3 htu3 hgo KRU hless hce hix
          go_wp2_with (first
            | (at_builtin
               refine wpList_app _ rfl _ _ 24 rfl tyInts w.heap.size _ _ _ rfl (HOW3.out.alloc _) ⟨w3.heap.size, 0, none⟩ 1 1 [intE k] rfl rfl (news_one ?_) ?_ (by decide) ?_ ?_ ?_
               · rw [cell_of_heap (heap_alloc_here w3 _)]; rfl
               · intro u hu; simp at hu; subst hu; rfl
               · simp; omega
               · simp; omega
               intro v6 w6 ho6 hg6 hloc6
               have HO6 : Hid (w6.ownsRow w.heap.size 3 1 v6 (ks ++ (js ++ [k])).length ((intsB (ks ++ (js ++ [k]))).map (Value.int .i64))) := Lib.hid (by simpa [intsB, Nat.add_assoc] using ho6)
               have HF6 := Lib.hid (((Fr.refl w3.heap.size (fun q => u6.ownBlock = some q) w3).alloc (Nat.le_refl _) _).grown hg6 (by simp) (fun q hq hlt => hq))
               have HB6 := Lib.hid (HBO3.out.grown HOW3.out HF6.out)
               have HT6 := Lib.hid (HTU3.out.then_ ((HF6.out.mono (S' := fun q => u6.ownBlock = some q) (B' := w.heap.size) (by omega) (fun _ _ h => h)).below (fun q hq hs => by have := (HOW3.out.lt q hs).1; omega)))
               clear ho6 hg6 hloc6))
          have KR7 := Lib.hid (bReady_any w6 HB6.out.at_ HO.out.ok HV.out.lens)
          go_wp2_with fail
          refine KR7.out.mono ?_
          rintro e w7 ⟨u7, rfl, hr7, hb7⟩
          have HRU7 := Lib.hid (ownsRow_base hr7 HT6.out.1.size)
          have HBO7 := Lib.hid (HB6.out.below hb7)
          have HTU7 := Lib.hid (HT6.out.trans (Turned.of_below hb7))
          have HOW7 := Lib.hid (ownsRow_fr (S := fun _ => False) HO6.out (Fr.of_below hb7) (fun q hq => ⟨(HO6.out.lt q hq).2, id⟩))
          clear hr7 hb7 KR7
          go_wp2
          go_roundw
          case rel => exact ⟨js ++ [k], c3, st3, lv3, HRU7.out, HBO7.out, HTU7.out, HOW7.out, by have h1 := HJS.out; have h2 := HLESS.out; rw [List.length_append, List.length_singleton]; omega, fun js' c' st' h => by
            rw [List.append_assoc]
            exact HALL.out _ _ _ (.more HR0.out HGO.out h)⟩
          case measure => rw [waitW_is HBO7.out.at_, HMS.out]; exact HLESS.out
end Go.Proofs.YtgoeoekdlcbmpaaGreatDoor

namespace Go.Proofs.YtgoeoekdlcbmpaaGreatDoor
open Go Go.RowKit Go.Kf Go.Sort Go.Proofs

def twoL : List RuleL := [⟨[97], [119, 114, 105, 116, 101], [120], []⟩, ⟨[98], [119, 114, 105, 116, 101], [121], []⟩]
def twoR : List RV := [(⟨[97], [119, 114, 105, 116, 101], [120], []⟩, .slice none 0 0), (⟨[98], [119, 114, 105, 116, 101], [121], []⟩, .slice none 0 0)]
theorem twoL_right : RightS twoL := by
  have h0 : errAt twoL 0 ⟨[97], [119, 114, 105, 116, 101], [120], []⟩ = 0 := by decide +kernel
  have h1 : errAt twoL 1 ⟨[98], [119, 114, 105, 116, 101], [121], []⟩ = 0 := by decide +kernel
  refine ⟨by decide, fun i r h => ?_⟩
  match i, h with
  | 0, h => cases h; exact h0
  | 1, h => cases h; exact h1
  | n + 2, h => cases h
theorem twoR_short : ∀ x ∈ twoR, x.1.out.length ≤ 1000000 ∧ x.1.word.length ≤ 100000 ∧ (∀ s ∈ x.1.ins, s.length ≤ 1000000) ∧ x.1.ins.length ≤ 1000 := by
  intro x hx
  simp only [twoR, List.mem_cons, List.not_mem_nil, or_false] at hx
  rcases hx with rfl | rfl
  · exact ⟨by simp, by simp, fun s hs => (by cases hs), by simp⟩
  · exact ⟨by simp, by simp, fun s hs => (by cases hs), by simp⟩
theorem two_order : orderB (edgesB twoL) (fun _ => true) twoL.length = some [0, 1] := by decide +kernel
theorem two_part : orderB (edgesB twoL) (fun i => (List.range twoL.length).contains i) twoL.length = some [0, 1] := by decide +kernel
theorem two_levels : (levX twoL [0, 1]).length = 1 := by
  unfold levX
  rw [List.length_map]
  decide +kernel
theorem actA : actOf [119, 114, 105, 116, 101] [120] [] = (0, [120]) := by decide +kernel
theorem actB : actOf [119, 114, 105, 116, 101] [121] [] = (0, [121]) := by decide +kernel
/-- What New of the two rules answers. -/
theorem new_two {S : Nat → Addr} {m : List Ent} {cv : Value} {B : Nat} {e : Ending} {w' : World} (h : BNewAns S twoL [[97], [98]] m cv B e w') : ∃ o D, e = .returned (.tuple #[ptrV D.b, .nilIface]) ∧ Ord twoL [0, 1] o ∧ D.cv = cv ∧ BAt S twoL [0, 1] m D w' (fun _ => st0) ∧ ∀ k, D.has [0, 1] k → B ≤ k := by
  rcases h with ⟨T, x, -, hbad | ⟨-, i, g, hi, -, hno, -⟩ | ⟨-, ks, N, hpl, hN, ho, -⟩⟩ | ⟨ks, N, o, D, hpl, hN, -, hord, rfl, hcv, hat, hB⟩
  · exact absurd twoL_right hbad.wrong
  · exfalso
    match i, hi, hno with
    | 0, _, hno => exact hno (show [97] ∈ twoL.map RuleL.out by decide)
    | 1, _, hno => exact hno (show [98] ∈ twoL.map RuleL.out by decide)
    | n + 2, hi, _ => simp at hi; omega
  · exfalso
    have e := all_needed (l := twoL) twoL_right hpl hN
    rw [e, two_part] at ho
    cases ho
  · have e := all_needed (l := twoL) twoL_right hpl hN
    rw [e] at hord hat hB
    exact ⟨o, D, rfl, hord, hcv, hat, hB⟩
theorem two_go {T : Look} {c' : Option CS} {st st' : Nat → St} {k : Nat} {hit : Bool} (hk : k = 0 ∨ k = 1) (h : GoRel twoL [0, 1] T none st k hit c' st') : c' = none ∧ ∃ b, st' = setSt st k ⟨2, false, b, 0⟩ := by
  have hin : (twoL.getD k noR).ins = [] := by rcases hk with rfl | rfl <;> rfl
  have hact : ∀ c e, actOf (twoL.getD k noR).kind (twoL.getD k noR).word [] ≠ (c + 1, e) := by
    intro c e
    rcases hk with rfl | rfl
    · show actOf [119, 114, 105, 116, 101] [120] [] ≠ _
      rw [actA]; intro h; cases h
    · show actOf [119, 114, 105, 116, 101] [121] [] ≠ _
      rw [actB]; intro h; cases h
  generalize hn : (none : Option CS) = o at h
  cases h with
  | gone h1 h2 =>
    obtain ⟨s, hs, -⟩ := h1
    rw [hin] at hs
    cases hs
  | hit h1 h2 => cases hn
  | run h1 h2 h3 =>
    subst hn
    exact ⟨rfl, _, rfl⟩
  | bad h1 h2 h3 h4 =>
    exfalso
    rw [hin] at h1
    have : _ = [] := List.map_eq_nil_iff.1 h1.symm
    rw [this] at h3
    exact hact _ _ h3
theorem two_ready0 : readyL twoL [0, 1] (fun _ => st0) = [0, 1] := by decide +kernel
theorem two_ready1 (b : List UInt8) : readyL twoL [0, 1] (setSt (fun _ => st0) 1 ⟨2, false, b, 0⟩) = [0] := by
  have e0 : edgesB twoL 0 = [] := by decide +kernel
  have e1 : edgesB twoL 1 = [] := by decide +kernel
  simp [readyL, readyB, setSt, e0, e1, st0]
theorem two_ready2 (a b : List UInt8) : readyL twoL [0, 1] (setSt (setSt (fun _ => st0) 1 ⟨2, false, b, 0⟩) 0 ⟨2, false, a, 0⟩) = [] := by
  simp [readyL, readyB, setSt]
theorem pick_nil {l : List RuleL} {P : List Nat} {T : Look} {c c' : Option CS} {st st' : Nat → St} {ks : List Nat} (h : PickRel l P T c st [] ks c' st') : ks = [] ∧ c' = c ∧ st' = st := by
  generalize hp : ([] : List Int) = ps at h
  cases h with
  | nil => exact ⟨rfl, rfl, rfl⟩
  | skip h1 h2 => simp at hp
  | go h1 h2 h3 => simp at hp
theorem two_pick {T : Look} {c1 c' : Option CS} {st1 st' : Nat → St} {ks js : List Nat} (h : PickRel twoL [0, 1] T none (fun _ => st0) [1] ks c1 st1) (h2 : AllRel twoL [0, 1] T c1 st1 js c' st') : ks ++ js = [1, 0] := by
  have hk : ks = [1] ∧ c1 = none ∧ ∃ b, st1 = setSt (fun _ => st0) 1 ⟨2, false, b, 0⟩ := by
    generalize hp : ([1] : List Int) = ps at h
    cases h with
    | nil => cases hp
    | skip h1 h2 =>
      rename_i ps p
      have h3 : ps = [] ∧ p = 1 := by
        match ps, hp with
        | [], hp => exact ⟨rfl, (List.head_eq_of_cons_eq hp).symm⟩
        | _ :: _, hp => simp at hp
      obtain ⟨rfl, rfl⟩ := h3
      obtain ⟨-, -, rfl⟩ := pick_nil h1
      rw [two_ready0] at h2
      cases h2
    | go h1 h2 h3 =>
      rename_i c2 st2 ps ks p k hit
      have h4 : ps = [] ∧ p = 1 := by
        match ps, hp with
        | [], hp => exact ⟨rfl, (List.head_eq_of_cons_eq hp).symm⟩
        | _ :: _, hp => simp at hp
      obtain ⟨rfl, rfl⟩ := h4
      obtain ⟨rfl, rfl, rfl⟩ := pick_nil h1
      rw [two_ready0] at h2
      have h5 : k = 1 := by
        have : ([0, 1] : List Nat)[pickIx 1 2]? = some 1 := by decide +kernel
        have h6 : ([0, 1] : List Nat)[pickIx 1 2]? = some k := h2
        rw [this] at h6
        exact (Option.some.inj h6).symm
      subst h5
      obtain ⟨rfl, b, rfl⟩ := two_go (Or.inr rfl) h3
      exact ⟨rfl, rfl, b, rfl⟩
  obtain ⟨rfl, rfl, b, rfl⟩ := hk
  have hj : js = [0] := by
    generalize hs : setSt (fun _ => st0) 1 ⟨2, false, b, 0⟩ = s at h2
    generalize hn : (none : Option CS) = o at h2
    cases h2 with
    | stop h => rw [← hs, two_ready1] at h; cases h
    | more h1 h2 h3 =>
      rw [← hs, two_ready1] at h1
      cases h1
      subst hs
      subst hn
      obtain ⟨rfl, a, rfl⟩ := two_go (Or.inl rfl) h2
      generalize hs2 : setSt (setSt (fun _ => st0) 1 ⟨2, false, b, 0⟩) 0 ⟨2, false, a, 0⟩ = s at h3
      cases h3 with
      | stop h => rfl
      | more h4 h5 h6 => rw [← hs2, two_ready2] at h4; cases h4
  rw [hj]
  rfl
end Go.Proofs.YtgoeoekdlcbmpaaGreatDoor

namespace Go.Proofs.YtgoeoekdlcbmpaaGreatDoor
open Go Go.RowKit Go.Kf Go.Sort Go.Proofs

theorem env_two {w : World} {S : Nat → Addr} (hm : Ml w) (hE : BErr w S) (hN : NErr w) (ht : Tab w) : BEnv S twoL [] w :=
  ⟨hm, hE, hN, ht, fun r hr => by
    simp only [twoL, List.mem_cons, List.not_mem_nil, or_false] at hr
    rcases hr with rfl | rfl
    · exact ⟨by simp, by simp, by simp, fun s hs => (by cases hs), by simp⟩
    · exact ⟨by simp, by simp, by simp, fun s hs => (by cases hs), by simp⟩,
    fun p b hp => by cases hp⟩
theorem twoR_at {w W1 : World} (h1 : w.alloc (.cells #[.string ⟨#[97]⟩, .string ⟨#[119, 114, 105, 116, 101]⟩, .string ⟨#[120]⟩, .slice none 0 0, .string ⟨#[98]⟩, .string ⟨#[119, 114, 105, 116, 101]⟩, .string ⟨#[121]⟩, .slice none 0 0] 34) = W1) :
    RulesAt W1 (.slice (some ⟨w.heap.size, 0, none⟩) 2 2) twoR := by
  have hc : ∀ j, W1.cell? ⟨w.heap.size, j, none⟩ = (#[Value.string ⟨#[97]⟩, .string ⟨#[119, 114, 105, 116, 101]⟩, .string ⟨#[120]⟩, .slice none 0 0, .string ⟨#[98]⟩, .string ⟨#[119, 114, 105, 116, 101]⟩, .string ⟨#[121]⟩, .slice none 0 0] : Array Value)[j]? := fun j => by
    rw [← h1, cell_of_heap (heap_alloc_here w _)]
  refine ⟨⟨some ⟨w.heap.size, 0, none⟩, 2, rfl, by simp [twoR], fun i row hi => ⟨_, _, rfl, fun j u hj => ?_⟩⟩, fun x hx => ?_⟩
  · rw [hc]
    match i, hi with
    | 0, hi =>
      cases hi
      match j, hj with
      | 0, hj => cases hj; rfl
      | 1, hj => cases hj; rfl
      | 2, hj => cases hj; rfl
      | 3, hj => cases hj; rfl
      | n + 4, hj => cases hj
    | 1, hi =>
      cases hi
      match j, hj with
      | 0, hj => cases hj; rfl
      | 1, hj => cases hj; rfl
      | 2, hj => cases hj; rfl
      | 3, hj => cases hj; rfl
      | n + 4, hj => cases hj
    | n + 2, hi => cases hi
  · simp only [twoR, List.mem_cons, List.not_mem_nil, or_false] at hx
    rcases hx with rfl | rfl
    · exact ⟨⟨none, 0, rfl, by simp, fun i u hi => by cases hi⟩, fun a n c h => by cases h; exact Nat.le_refl _⟩
    · exact ⟨⟨none, 0, rfl, by simp, fun i u hi => by cases hi⟩, fun a n c h => by cases h; exact Nat.le_refl _⟩

set_option maxRecDepth 100000 in
set_option maxHeartbeats 4000000 in
theorem picked_any (w : World) (S : Nat → Addr) (hm : Ml w) (hE : BErr w S) (hN : NErr w) (ht : Tab w) :
    Calls Tryz.prog 24 #[] w fun e w' => e = .returned (.bool true) ∧ Below w.heap.size w w' := by
  have HV := Lib.hid (fun wl (hb : Below w.heap.size w wl) => (env_two hm hE hN ht).below hb)
  have HV0 := Lib.hid (env_two hm hE hN ht)
  have KT := Lib.hid (new_tree w)
  clear hm hE hN ht
  go_enter Tryz.func24, Tryz.ntmps24
  go_wp2_with fail
  refine KT.out.mono ?_
  rintro e w1 ⟨tb, mb, rfl, htb, hmb, hT1, hb1⟩
  obtain ⟨W2, hW2⟩ : ∃ W, w1.alloc (.cells #[.string ⟨#[97]⟩, .string ⟨#[119, 114, 105, 116, 101]⟩, .string ⟨#[120]⟩, .slice none 0 0, .string ⟨#[98]⟩, .string ⟨#[119, 114, 105, 116, 101]⟩, .string ⟨#[121]⟩, .slice none 0 0] 34) = W := ⟨_, rfl⟩
  obtain ⟨W3, hW3⟩ : ∃ W, W2.alloc (.cells #[.string ⟨#[97]⟩, .string ⟨#[98]⟩] 9) = W := ⟨_, rfl⟩
  have hz1 := hb1.size
  have hz2 : W2.heap.size = w1.heap.size + 1 := by rw [← hW2]; simp
  have hz3 : W3.heap.size = w1.heap.size + 1 + 1 := by rw [← hW3, ← hz2]; simp
  have hA2 : Below w1.heap.size w1 W2 := hW2 ▸ (Below.refl _ w1).alloc (Nat.le_refl _) _
  have hA3 : Below W2.heap.size W2 W3 := hW3 ▸ (Below.refl _ W2).alloc (Nat.le_refl _) _
  have hra := twoR_at hW2
  have HRA := Lib.hid (fun wl (hb : Below W2.heap.size W2 wl) => hra.below0 hb)
  have hb13 : Below w1.heap.size w1 W3 := hA2.trans (hA3.mono (by omega))
  have hb3 := hb1.trans (hb13.mono hz1)
  have hvo : Reads W3 (.slice (some ⟨W2.heap.size, 0, none⟩) 2 2) ([[97], [98]].map str) :=
    ⟨_, _, rfl, by simp, fun i u hi => ⟨_, _, rfl, by
      rw [Nat.zero_add, ← hW3, cell_of_heap (heap_alloc_here W2 _)]
      match i, hi with
      | 0, hi => cases hi; rfl
      | 1, hi => cases hi; rfl
      | n + 2, hi => cases hi⟩⟩
  rw [hz2] at hvo
  have hv3 := HV.out W3 hb3
  have KN := Lib.hid (bnew_any (S := S) W3 [[97], [98]] _ none (HRA.out W3 hA3) (fun a n c h => by cases h; exact Nat.le_refl _) (hT1.below hb13) hvo (by simp) hv3.ml hv3.err.k hv3.err.l hv3.num hv3.tab twoR_short (by simp [twoR]))
  have HB3 := Lib.hid hb3
  have HA3 := Lib.hid hA3
  clear hT1 hb1 hvo hv3 hra hA2 hb13 hb3 hA3
  go_wp2_with fail
  refine KN.out.mono ?_
  rintro e w4 ⟨ha, hb4⟩
  have hol : twoR.map Prod.fst = twoL := rfl
  rw [hol] at ha
  obtain ⟨o, D, rfl, hord, hcv, hat, hD⟩ := new_two ha
  have hz4 := hb4.size
  have hb40 := HB3.out.trans (hb4.mono HB3.out.size)
  obtain ⟨W5, hW5⟩ : ∃ W, w4.alloc (.cells #[.int .i64 1] 3) = W := ⟨_, rfl⟩
  have hA5 : Below w4.heap.size w4 W5 := hW5 ▸ (Below.refl _ w4).alloc (Nat.le_refl _) _
  have hz5 : W5.heap.size = w4.heap.size + 1 := by rw [← hW5]; simp
  have hg5 : W5.heap[w4.heap.size]? = some (.cells #[.int .i64 1] 3 (0, 0)) := hW5 ▸ heap_alloc_here w4 _
  have hbo : BO S twoL [0, 1] [] D 0 0 w.heap.size (.slice none 0 0) none (fun _ => st0) W5 := BO.made (hat.below hA5) (fun q hq => by have := hD q hq; have := HB3.out.size; omega) hcv (fun q hq => hq.elim) (fun q _ hf => hf) (fun c h => by cases h)
  have hb5 : Below w.heap.size w W5 := hb40.trans (hA5.mono hb40.size)
  have HBO := Lib.hid hbo
  have KP := Lib.hid (pickRun_any W5 hbo hord w rfl HV0.out hb5 (.slice (some ⟨w4.heap.size, 0, none⟩) 1 1) [1] (fun wl hf => by
    have hg := (hf.block _ (lt_of_heap hg5) (fun hs => hbo.notInt (hs.imp Or.inr id) ⟨_, hg5⟩)).trans hg5
    exact ⟨_, _, rfl, by simp, fun i u hi => ⟨_, _, rfl, by
      rw [Nat.zero_add, cell_of_heap hg]
      match i, hi with
      | 0, hi => cases hi; rfl
      | n + 1, hi => cases hi⟩⟩) (fun a n c h => by cases h; exact Nat.le_refl _) (by simp) (fun z hz => by obtain rfl := List.mem_singleton.1 hz; unfold I64; omega))
  have HB5 := Lib.hid hb5
  have HD := Lib.hid hD
  have HB25 := Lib.hid (HA3.out.trans ((hb4.trans (hA5.mono hz4)).mono HA3.out.size))
  clear ha hb4 hat hD hA5 hg5 hbo hb5 KN hol hb40
  go_wp2_with fail
  refine KP.out.mono ?_
  rintro e w6 ⟨ks, js, c1, st1, c', st', lv', u, rfl, hpr, har, hown, hbo6, htu⟩
  have hks := two_pick hpr har
  rw [hks] at hown
  have hb6 := HBO.out.base rfl HB5.out htu
  have hb26 : Below W2.heap.size W2 w6 := HB25.out.trans ((htu.1.mono (S' := fun q => D.steps [0, 1] q ∨ cfoot 0 0 (.slice none 0 0) none q) HB25.out.size (fun _ _ h => h)).below (fun q hq hs => by
    rcases hs with h1 | h1
    · have := HD.out q (Or.inr h1); omega
    · exact h1))
  have HB6 := Lib.hid hb6
  have hv6 := HV.out w6 hb6
  have KD := Lib.hid (deep_any twoR _ w6 S (HRA.out w6 hb26) (fun a n c h => by cases h; exact Nat.le_refl _) hv6.ml hv6.err.k hv6.num hv6.tab twoR_short (by simp [twoR]))
  have HOW := Lib.hid hown
  clear hpr har hown hbo6 htu hks hb6 hb26 hv6 KP
  go_wp2_with fail
  refine KD.out.mono ?_
  rintro e w7 ⟨hd, hb7⟩
  have hol : twoR.map Prod.fst = twoL := rfl
  rw [hol] at hd
  rcases hd with ⟨-, ⟨o2, ho2, rfl⟩ | ⟨ho2, -⟩⟩ | ⟨T, x, -, hbad⟩
  case inl.inr => rw [two_order] at ho2; cases ho2
  case inr => exact absurd twoL_right hbad.wrong
  rw [two_order] at ho2
  cases ho2
  rw [two_levels]
  obtain ⟨W8, hW8⟩ : ∃ W, w7.alloc (.cells #[.int .i64 1, .int .i64 0] 3) = W := ⟨_, rfl⟩
  have hA8 : Below w7.heap.size w7 W8 := hW8 ▸ (Below.refl _ w7).alloc (Nat.le_refl _) _
  have hz8 : W8.heap.size = w7.heap.size + 1 := by rw [← hW8]; simp
  have hlit : Reads W8 (.slice (some ⟨w7.heap.size, 0, none⟩) 2 2) (([1, 0] : List Int).map num) :=
    ⟨_, _, rfl, by simp, fun i u hi => ⟨_, _, rfl, by
      rw [Nat.zero_add, ← hW8, cell_of_heap (heap_alloc_here w7 _)]
      match i, hi with
      | 0, hi => cases hi; rfl
      | 1, hi => cases hi; rfl
      | n + 2, hi => cases hi⟩⟩
  have hru : Reads W8 u (([1, 0] : List Int).map num) := (ownsRow_reads HOW.out).below0 (hb7.trans (hA8.mono hb7.size))
  have hs7 := hb7.size
  have hul : ∀ k, u.ownBlock = some k → k < W8.heap.size := fun k hk => by have := (HOW.out.lt k hk).2; omega
  have KS := Lib.hid (sameInts u _ _ _ W8 hru hlit hul (fun k hk => by cases hk; show w7.heap.size < W8.heap.size; omega))
  have HB8 := Lib.hid (HB6.out.trans ((hb7.trans (hA8.mono hb7.size)).mono HB6.out.size))
  clear hb7 hA8 hlit hru hul KD
  go_wp2_with fail
  refine KS.out.mono ?_
  rintro e w9 ⟨rfl, hb9⟩
  have HB9 := Lib.hid (HB8.out.trans (hb9.mono HB8.out.size))
  clear hb9 KS
  go_wp2
  go_ret
  exact ⟨rfl, HB9.out⟩
end Go.Proofs.YtgoeoekdlcbmpaaGreatDoor
