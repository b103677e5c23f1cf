/-
  Levels of rules in plain words; rows of slices of ints, each of the call's own. Package pick: Levels and Deep at any rules. The laws' built, in plain Lean: one rule, one file: it runs, and is had again. The laws' built: a rule runs, and is had again. BuildOnce, in plain Lean: all rules are made; each runs once. Package kilnfieldlaw3: longFiles and fileTree at any files. Package pick: size, Run. The laws' picked, in plain Lean: two rules that write, the second one first; one level. PickSame, in plain Lean: whatever the picks, the same rules run, and all is the same in the end. The reference's BuildFault at any rules and outs. The reference's WantFault at any rules and out; CopyTree. The reference's CopyTree. A drawn region of which five operations make memory: in whatever order they come. The reference's build: what it holds; NewBuild. The reference's build: IsReady, Ready. The reference's build: fail. The reference's build: fail, the walk. The reference's KeyOf, of longer texts. The reference's build: Run, with no cache. The reference's build: All, with no cache. The reference: PickOf, with no cache. Rules that came in as an argument. Files as an argument. A table that stands anywhere on a row's list. Numbers as an argument. Builds with no cache: what runs make of them is one thing; New's error and the reference's fault. OwnTexts: what it gives is roomy. A slice that is nil, or has an address, as an argument. BuildSame, in plain Lean: in whatever order rules run, with a cache or none, results are what is wanted; none of it is made twice. The walks of the model cache (kilnfieldref2.Cache): Find, Keys. The walks of the model cache (kilnfieldref2.Cache): Put, Get. The plain law of CacheActs: the cache and the model's list of entries stay twins under Put and Get. The walk of the model cache's Get. The reference's build: Run, with a cache or with none. The reference's build: All, with a cache or with none. The walk of the law WantTells, at any files, rules and out.   Steps: wanted, longFiles, LongRules, len(out); fileTree; OwnRules, want.Of; WantFault; (faulted | WantOf, coded); OwnRules, want.All; SheetFault, (AllOf, OrderOf, Bare); (faulted); CopyTree, loop (WantOf, Put); Text, Text, Text, Text. The walk of the law BuildOnce.   Steps: built, longFiles, LongRules, len(runs); fileTree; loop (append the outs); OwnRules, build.New; make; loop (Ready, loop (State, loop (NeedsRule, State)), Run, store); loop (State, loop (NeedsRule, State)); Over. The reference's build: Many; Why of the program's build. New's error and the reference's fault: number and place. A build beside the reference's, with one cache each: what runs make of them is one thing.
-/
import Derived.Test.YtgjialbmlhbngaaGreatDoorPkG
import Derived.Test.YtgjialbmlhbngaaGreatDoorBdA
import Derived.Test.YtgjialbmlhbngaaGreatDoorPkR
import Derived.Test.YtgjialbmlhbngaaGreatDoorPkI
import Derived.Test.YtgjialbmlhbngaaGreatDoorBdB
import Derived.Test.YtgjialbmlhbngaaGreatDoorPkO
import Derived.Test.YtgjialbmlhbngaaGreatDoorBdD
import Derived.Test.YtgjialbmlhbngaaGreatDoorPkH
import Derived.Test.YtgjialbmlhbngaaGreatDoorPkQ
import Derived.Deep.RegionHeld3
import Derived.Test.YtgjialbmlhbngaaGreatDoorBdH
import Derived.Test.YtgjialbmlhbngaaGreatDoorPkM
import Derived.Laws.CopyOwn
import Derived.Test.YtgjialbmlhbngaaGreatDoorPkF
import Derived.Deep.RegionLaw
import Derived.Laws.AppendOwnNone
import Derived.Test.YtgjialbmlhbngaaGreatDoorBdC
import Derived.Test.YtgjialbmlhbngaaGreatDoorPkZ
import Derived.Test.YtgjialbmlhbngaaGreatDoorPkS
import Derived.Test.YtgjialbmlhbngaaGreatDoorPkB
import Derived.ProofKit
import Derived.Test.YtgjialbmlhbngaaGreatDoorPkP
import Derived.Lib.LaidTab
import Derived.LaidMore
import Derived.ChangeSlices
import Derived.Test.YtgjialbmlhbngaaGreatDoorPkE
import Derived.Test.YtgjialbmlhbngaaGreatDoorPkC

namespace Go.Proofs.YtgjialbmlhbngaaGreatDoor
open Go Go.RowKit Go.Kf Go.Sort Go.Proofs
section
variable {B : Nat} {w w' w1 : World} {v v' : Value} {vs : List Value} {X : List (List Int)}
theorem own_put {e : TypeId} {n g cap : Nat} {xs : List Value} (h : w.ownsRow B e 1 (.slice (some ⟨g, 0, none⟩) n cap) n xs) (i : Nat) (u : Value) : (w.setCell ⟨g, i, none⟩ u).ownsRow B e 1 (.slice (some ⟨g, 0, none⟩) n cap) n (xs.set i u) := by
  refine ⟨by rw [List.length_set]; exact h.1, ?_⟩
  rcases h.2 with ⟨h0, -⟩ | ⟨g', cap', cur, h0, hg, hh, hn, hcap, hsz, htake⟩
  · cases h0
  · cases h0
    refine Or.inr ⟨g, cap, cur.setIfInBounds i u, rfl, hg, Kf.heap_setCell_same hh u, hn, hcap, by simpa using hsz, ?_⟩
    rw [← htake, Array.toList_setIfInBounds, List.take_set]
end
theorem one_edges : edgesB oneL 0 = [] := by decide +kernel
theorem one_ready : ReadyP oneL (fun _ => st0) 0 := ⟨rfl, fun k hk => by rw [one_edges] at hk; cases hk⟩
def rSt (P : List Nat) (st : Nat → St) (k : Nat) : List UInt8 := if P.contains k then stName (st k).state else []
theorem rSt_at {P : List Nat} {st : Nat → St} {i n : Nat} (hn : 1 ≤ n ∧ n ≤ 4) (hs : i ∈ P → 1 ≤ (st i).state ∧ (st i).state ≤ 4) : rSt P st i = stName n ↔ i ∈ P ∧ (st i).state = n := by
  unfold rSt
  by_cases hP : i ∈ P
  · have h := hs hP
    simp only [List.contains_iff_mem, hP, if_true, true_and]
    generalize (st i).state = q at h
    obtain rfl | rfl | rfl | rfl : q = 1 ∨ q = 2 ∨ q = 3 ∨ q = 4 := by omega
    all_goals
      obtain rfl | rfl | rfl | rfl : n = 1 ∨ n = 2 ∨ n = 3 ∨ n = 4 := by omega
      all_goals decide
  · simp only [List.contains_iff_mem, hP, if_false, false_and, iff_false]
    obtain rfl | rfl | rfl | rfl : n = 1 ∨ n = 2 ∨ n = 3 ∨ n = 4 := by omega
    all_goals decide
theorem row_below {w w' : World} {base : Nat} {e : TypeId} {z : Nat} {v : Value} {n : Nat} {xs : List Value} (h : w.ownsRow base e z v n xs) (hb : Below w.heap.size w w') : w'.ownsRow base e z v n xs :=
  ownsRow_fr h (Fr.of_below (S := fun _ => False) hb) (fun k hk => ⟨(h.lt k hk).2, id⟩)
end Go.Proofs.YtgjialbmlhbngaaGreatDoor

namespace Go.Proofs.YtgjialbmlhbngaaGreatDoor
open Go Go.RowKit Go.Kf
open Go.Sort Go.Proofs
def lenR : Value → Nat
  | .slice _ n _ => n
  | _ => 0
end Go.Proofs.YtgjialbmlhbngaaGreatDoor

namespace Go.Proofs.YtgjialbmlhbngaaGreatDoor
open Go Go.ChangeShapes Go.WideShapes Go.ChangeAt Go.RowKit Go.Kf
theorem four_of {α : Type} (l : List α) (h : l.length = 4) : ∃ a b c d, l = [a, b, c, d] := by
  match l, h with
  | [a, b, c, d], _ => exact ⟨a, b, c, d, rfl⟩
theorem nil_or {H : Type} {enc : TypeId × Value → H} {w : World} {v : Value} {fuel : Nat} {x : DataW H × List MemPlace} (h : DataW.trod enc Tryz.prog w 0 (fun _ => true) true fuel 33 [v] = some x) : NilOr v := by
  rcases Deep.open_slice Tryz.underlying33 h with ⟨h0, -⟩ | ⟨a, len, cap, m, n, D, Pl, h0, -⟩
  · simp only [List.cons.injEq, and_true] at h0
    exact Or.inl h0
  · simp only [List.cons.injEq, and_true] at h0
    exact Or.inr ⟨_, _, _, h0⟩
abbrev InR (W : World) : Type := {x : RV // Reads W x.2 (x.1.ins.map str) ∧ NilOr x.2}
instance (W : World) : Inhabited (InR W) := ⟨⟨(⟨[], [], [], []⟩, .slice none 0 0), ⟨none, 0, rfl, by simp, fun i u hi => (by cases hi)⟩, Or.inl rfl⟩⟩
theorem trod_struct4 {H : Type} {enc : TypeId × Value → H} {P : Program} {w : World} {t : TypeId} {f0 f1 f2 f3 : Field} {fuel : Nat} {cs : List Value} {x : DataW H × List MemPlace} (ht : P.underlying t = some (.struct #[f0, f1, f2, f3])) (h : DataW.trod enc P w 0 (fun _ => true) true fuel t cs = some x) :
    ∃ y0 y1 y2 y3 n, cs.length = P.cellsOf t ∧ DataW.trod enc P w 0 (fun _ => true) true n f0.type ((cs.drop f0.offset).take (P.cellsOf f0.type)) = some y0 ∧ DataW.trod enc P w 0 (fun _ => true) true n f1.type ((cs.drop f1.offset).take (P.cellsOf f1.type)) = some y1 ∧
      DataW.trod enc P w 0 (fun _ => true) true n f2.type ((cs.drop f2.offset).take (P.cellsOf f2.type)) = some y2 ∧ DataW.trod enc P w 0 (fun _ => true) true n f3.type ((cs.drop f3.offset).take (P.cellsOf f3.type)) = some y3 := by
  obtain ⟨xs, n, _, rfl, hl, hlen, hf⟩ := DataW.trod_struct ht h
  match xs, hlen with
  | [y0, y1, y2, y3], _ => exact ⟨y0, y1, y2, y3, n, hl, by simpa using hf 0 f0 rfl, by simpa using hf 1 f1 rfl, by simpa using hf 2 f2 rfl, by simpa using hf 3 f3 rfl⟩
theorem ruleOpen {H : Type} (enc : TypeId × Value → H) (W : World) (m : Nat) (cs : List Value) (y : DataW H × List MemPlace) (h : DataW.trod enc Tryz.prog W 0 (fun _ => true) true m 35 cs = some y) : ∃ z : InR W, cs = rvRow z.1 := by
  obtain ⟨y0, y1, y2, y3, n, hl, h0, h1, h2, h3⟩ := trod_struct4 Tryz.underlying35 h
  rw [show Tryz.prog.cellsOf 35 = 4 by kernel_rfl] at hl
  obtain ⟨c0, c1, c2, c3, rfl⟩ := four_of cs hl
  obtain ⟨o, e0, -⟩ := DataW.trod_string Tryz.underlying9 h0
  obtain ⟨k, e1, -⟩ := DataW.trod_string Tryz.underlying9 h1
  obtain ⟨s, e2, -⟩ := DataW.trod_string Tryz.underlying9 h2
  rw [show Tryz.prog.cellsOf 9 = 1 by kernel_rfl] at e0 e1 e2
  simp at e0 e1 e2
  have h3' : DataW.trod enc Tryz.prog W 0 (fun _ => true) true n 33 [c3] = some y3 := by
    have e : ([c0, c1, c2, c3].drop 3).take (Tryz.prog.cellsOf 33) = [c3] := by
      rw [show Tryz.prog.cellsOf 33 = 1 by kernel_rfl]
      rfl
    rw [e] at h3
    exact h3
  obtain ⟨l, hrd⟩ := reads_open Tryz.underlying33 Tryz.underlying9 (by kernel_rfl) h3'
  exact ⟨⟨(⟨o.data.toList, k.data.toList, s.data.toList, l⟩, c3), hrd, nil_or h3'⟩, by simp [rvRow, e0, e1, e2]⟩
end Go.Proofs.YtgjialbmlhbngaaGreatDoor

namespace Go.Kf
open Go Go.Lib
theorem tabIs_of_vars {P : Program} {W : World} {name : String} {k : IntKind} {zs : List Int} {g : Nat} {t e : TypeId} {n : Nat}
    (hg : P.globalNamed name = some g) (hty : (P.globals[g]?).map (·.type) = some t) (ht : P.underlying t = some (.array n e)) (he : P.underlying e = some (.int k)) (hce : P.cellsOf e = 1) (hct : P.cellsOf t = n) :
    ∀ (l : List (String × DataW Unit)) (ps : List MemPlace), DataW.LaidVars P W l ps → ∀ i : Nat, l[i]? = some (name, tabData k zs) → TabIs P W name k zs
  | [], _, _, i, hi => by simp at hi
  | x :: l, ps, h, i, hi => by
    obtain ⟨x1, x2⟩ := x
    obtain ⟨g', t', cs, fuel, p, q, hg', ht', hvar, hd, hr, rfl⟩ := h
    cases i with
    | zero =>
      simp only [List.getElem?_cons_zero, Option.some.injEq, Prod.mk.injEq] at hi
      obtain ⟨rfl, rfl⟩ := hi
      obtain rfl := Option.some.inj (hg.symm.trans hg')
      obtain rfl := Option.some.inj (hty.symm.trans ht')
      unfold TabIs
      rw [hvar, ← cells_of_tab ht he hce hct hd]
    | succ i => exact tabIs_of_vars hg hty ht he hce hct l q hr i (by simpa using hi)
theorem tabIs_of_laid {P : Program} {W : World} {name : String} {k : IntKind} {zs : List Int} {g : Nat} {t e : TypeId} {n : Nat}
    (hg : P.globalNamed name = some g) (hty : (P.globals[g]?).map (·.type) = some t) (ht : P.underlying t = some (.array n e)) (he : P.underlying e = some (.int k)) (hce : P.cellsOf e = 1) (hct : P.cellsOf t = n)
    {l : List (String × DataW Unit)} (h : laidMet P l W) (i : Nat) (hi : l[i]? = some (name, tabData k zs)) : TabIs P W name k zs := by
  obtain ⟨ps, hv, -⟩ := h
  exact tabIs_of_vars hg hty ht he hce hct l ps hv i hi
end Go.Kf

namespace Go.Proofs.YtgjialbmlhbngaaGreatDoor
open Go Go.ChangeShapes Go.WideShapes Go.ChangeAt Go.RowKit Go.Kf
end Go.Proofs.YtgjialbmlhbngaaGreatDoor

namespace Go.Proofs.YtgjialbmlhbngaaGreatDoor
open Go Go.RowKit Go.Kf Go.Sort Go.Proofs
theorem map_some_inj {a b : List (List UInt8)} (h : a.map some = b.map some) : a = b := by
  induction a generalizing b with
  | nil => cases b with
    | nil => rfl
    | cons y b => simp at h
  | cons x a ih => cases b with
    | nil => simp at h
    | cons y b =>
      simp only [List.map_cons, List.cons.injEq, Option.some.injEq] at h
      rw [h.1, ih h.2]
theorem gone_not {l : List RuleL} {P : List Nat} {T : Look} {st : Nat → St} {k : Nat} {ins : List (List UInt8)} (h : ∃ s ∈ (l.getD k noR).ins, inP l P T st s = none) (h2 : (l.getD k noR).ins.map (inP l P T st) = ins.map some) : False := by
  obtain ⟨s, hs, h3⟩ := h
  have : none ∈ ins.map some := by
    rw [← h2, ← h3]
    exact List.mem_map.2 ⟨s, hs, rfl⟩
  obtain ⟨b, -, hb⟩ := List.mem_map.1 this
  cases hb
section
variable {S : Nat → Addr} {l : List RuleL} {P : List Nat} {m : List Ent} {D : BPl} {w : World} {st : Nat → St}
theorem bstR_any (h : BAt S l P m D w st) (hi : BInv l P (fun p => mlook p m) st) (i : Nat) :
    Calls Tryz.prog 73 #[ptrV D.b, .int .i64 (i : Int)] w fun e w' => e = .returned (str (rSt P st i)) ∧ Below w.heap.size w w' := by
  by_cases hP : i ∈ P
  · have h1 := bState_any w h hP (hi.one i hP)
    rwa [show rSt P st i = stName (st i).state by simp [rSt, hP]]
  · have h1 := bStateNo_any w h (i := (i : Int)) (fun k hk e => hP (by
      have : i = k := by omega
      exact this ▸ hk))
    rwa [show rSt P st i = [] by simp [rSt, hP]]
end
end Go.Proofs.YtgjialbmlhbngaaGreatDoor

namespace Go.Proofs.YtgjialbmlhbngaaGreatDoor
open Go Go.ChangeShapes Go.WideShapes Go.ChangeAt Go.RowKit Go.Kf
end Go.Proofs.YtgjialbmlhbngaaGreatDoor

namespace Go.Proofs.YtgjialbmlhbngaaGreatDoor
open Go Go.RowKit Go.Kf Go.Sort Go.Proofs
theorem of_out {S : Nat → Addr} {l : List RuleL} {T : Look} {B : Nat} {e : Ending} {w' : World} {o : List Nat} (ho : Ord l (List.range l.length) o) {i : Nat} (hi : i < l.length) (h : WOfAns S l T (l.getD i noR).out B e w') : e = .returned (.tuple #[str (wantV l T (l.getD i noR).out).2, errN S (wantV l T (l.getD i noR).out).1]) := by
  rcases h with ⟨hr, ⟨k, N, hpl, hN, ⟨o2, ho2, rfl⟩ | ⟨hno, -⟩⟩ | ⟨hno, -⟩⟩ | ⟨T', x, -, hbad⟩
  · rfl
  · exfalso
    obtain ⟨r, hrk⟩ := ho.ok.rank
    have hlt : ∀ q ∈ N, q < l.length := fun q hq => ((hN q).1 hq).lt (fun a b hb => edges_lt _ a b hb) (fun q hq => (hpl.1 q hq))
    have hm : ∀ q, q ∈ needL l.length N ↔ q ∈ N := fun q => mem_needL hlt
    obtain ⟨o2, ho2⟩ := orderB_of_rank (E := edgesB l) (isB := fun q => (needL l.length N).contains q) (n := l.length) r (fun q hq hB j hj => ⟨edges_lt _ q j hj, List.contains_iff_mem.2 ((hm j).2 ((hN j).2 (.step ((hN q).1 ((hm q).1 (List.contains_iff_mem.1 hB))) hj))), hrk q (List.mem_range.2 hq) j hj⟩)
    rw [ho2] at hno
    cases hno
  · exfalso
    rw [getD_at hi] at hno
    exact hno (List.mem_map.2 ⟨_, List.getElem_mem hi, rfl⟩)
  · exact absurd ho.ok.right hbad.wrong
end Go.Proofs.YtgjialbmlhbngaaGreatDoor

namespace Go.Proofs.YtgjialbmlhbngaaGreatDoor
open Go Go.RowKit Go.Kf
open Go.Sort Go.Proofs
theorem GoRel.one {l : List RuleL} {P : List Nat} {T : Look} {c c1 c2 : Option CS} {st a b : Nat → St} {k : Nat} {x y : Bool} (hP : PartOk l P) (h1 : GoRel l P T c st k x c1 a) (h2 : GoRel l P T c st k y c2 b) : a = b ∧ c1 = c2 ∧ x = y := by
  cases h1 with
  | gone g1 f1 => cases h2 with
    | gone g2 f2 => exact ⟨f1.same hP f2, rfl, rfl⟩
    | hit i2 m2 => exact (gone_not g1 i2).elim
    | run i2 m2 r2 => exact (gone_not g1 i2).elim
    | bad i2 m2 r2 f2 => exact (gone_not g1 i2).elim
  | hit i1 m1 => cases h2 with
    | gone g2 f2 => exact (gone_not g2 i1).elim
    | hit i2 m2 =>
      obtain rfl := map_some_inj (i1.symm.trans i2)
      rw [m1] at m2
      cases m2
      exact ⟨rfl, rfl, rfl⟩
    | run i2 m2 r2 =>
      obtain rfl := map_some_inj (i1.symm.trans i2)
      rw [m2 _ rfl] at m1
      cases m1
    | bad i2 m2 r2 f2 =>
      obtain rfl := map_some_inj (i1.symm.trans i2)
      rw [m2 _ rfl] at m1
      cases m1
  | run i1 m1 r1 => cases h2 with
    | gone g2 f2 => exact (gone_not g2 i1).elim
    | hit i2 m2 =>
      obtain rfl := map_some_inj (i1.symm.trans i2)
      rw [m1 _ rfl] at m2
      cases m2
    | run i2 m2 r2 =>
      obtain rfl := map_some_inj (i1.symm.trans i2)
      rw [r1] at r2
      cases r2
      exact ⟨rfl, rfl, rfl⟩
    | bad i2 m2 r2 f2 =>
      obtain rfl := map_some_inj (i1.symm.trans i2)
      rw [r1] at r2
      cases r2
  | bad i1 m1 r1 f1 => cases h2 with
    | gone g2 f2 => exact (gone_not g2 i1).elim
    | hit i2 m2 =>
      obtain rfl := map_some_inj (i1.symm.trans i2)
      rw [m1 _ rfl] at m2
      cases m2
    | run i2 m2 r2 =>
      obtain rfl := map_some_inj (i1.symm.trans i2)
      rw [r1] at r2
      cases r2
    | bad i2 m2 r2 f2 =>
      obtain rfl := map_some_inj (i1.symm.trans i2)
      rw [r1] at r2
      cases r2
      exact ⟨f1.same hP f2, rfl, rfl⟩
theorem AllRel.one {l : List RuleL} {P : List Nat} {T : Look} (hP : PartOk l P) {c : Option CS} {st : Nat → St} {js : List Nat} {c1 : Option CS} {a : Nat → St} (h1 : AllRel l P T c st js c1 a) : ∀ {ks : List Nat} {c2 : Option CS} {b : Nat → St}, AllRel l P T c st ks c2 b → js = ks ∧ a = b ∧ c1 = c2 := by
  induction h1 with
  | stop r1 =>
    intro ks c2 b h2
    cases h2 with
    | stop r2 => exact ⟨rfl, rfl, rfl⟩
    | more r2 g2 a2 => rw [r1] at r2; cases r2
  | more r1 g1 a1 ih =>
    intro ks c2 b h2
    cases h2 with
    | stop r2 => rw [r2] at r1; cases r1
    | more r2 g2 a2 =>
      rw [r1] at r2
      cases r2
      obtain ⟨rfl, rfl, -⟩ := g1.one hP g2
      obtain ⟨rfl, rfl, rfl⟩ := ih a2
      exact ⟨rfl, rfl, rfl⟩
end Go.Proofs.YtgjialbmlhbngaaGreatDoor
