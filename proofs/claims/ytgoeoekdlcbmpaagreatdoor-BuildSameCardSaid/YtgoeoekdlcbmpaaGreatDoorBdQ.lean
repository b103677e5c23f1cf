/-
  BuildSame, in plain Lean: in whatever order rules run, with a cache or none, results are what is wanted; none of it is made twice.
-/
import Derived.Test.YtgoeoekdlcbmpaaGreatDoorBdE
import Derived.Test.YtgoeoekdlcbmpaaGreatDoorPkO

namespace Go.Proofs.YtgoeoekdlcbmpaaGreatDoor
open Go Go.RowKit Go.Kf Go.Sort Go.Proofs

/-- Three builds, two of them with one cache. -/
structure SameB (l : List RuleL) (P : List Nat) (T : Look) (many : Nat) (sa sb sd : Nat → St) : Prop where
  x : cntP P sa isRan + cntP P sa isHit + cntP P sa isFailed + cntP P sa isLeft = P.length
  y : cntP P sb isRan + cntP P sb isFailed + cntP P sb isLeft = P.length
  y0 : cntP P sb isHit = 0
  z : cntP P sd isRan + cntP P sd isHit + cntP P sd isFailed + cntP P sd isLeft = P.length
  full : P.length ≤ many → cntP P sd isRan = 0 ∧ cntP P sd isHit = cntP P sa isRan + cntP P sa isHit
  rb : ∀ i ∈ P, resOf (sb i) = resOf (sa i)
  rd : ∀ i ∈ P, resOf (sd i) = resOf (sa i)
  want : ∀ i ∈ P, (wantV l T (l.getD i noR).out).2 = (resOf (sa i)).1 ∧ ((wantV l T (l.getD i noR).out).1 = 0 ↔ (resOf (sa i)).2 = true)
  oa : overB P sa = true
  ob : overB P sb = true
  od : overB P sd = true
theorem resOf_same {s t : St} (h1 : s.state = t.state) (h2 : s.out = t.out) : resOf s = resOf t := by
  unfold resOf
  rw [h1, h2]
theorem same_builds {l : List RuleL} {P o : List Nat} {T : Look} {many : Nat} {c1 c2 c3 cb : Option CS} {s1 sa sb sd : Nat → St} (ho : Ord l P o) (hT : ∀ p b, T p = some b → b.length ≤ 2000) (hm1 : 1 ≤ many) (hm2 : many ≤ 100)
    (h1 : Steps l P T (some ⟨many, [], []⟩) (fun _ => st0) c1 s1) (h2 : Steps l P T c1 s1 c2 sa) (ea : readyL l P sa = []) (hb : Steps l P T none (fun _ => st0) cb sb) (eb : readyL l P sb = []) (hd : Steps l P T c2 (fun _ => st0) c3 sd) (ed : readyL l P sd = []) : SameB l P T many sa sb sd := by
  have hc0 : COk (some ⟨many, [], []⟩) := fun c h => by
    cases h
    exact ⟨CSt.zero hm1 hm2, CInv.zero _⟩
  have hn0 : COk none := fun c h => by cases h
  have ha := h1.trans h2
  obtain ⟨ia, ka, oa⟩ := ha.inv ho (BInv.zero _ _ _) hc0
  have ib := (hb.inv ho (BInv.zero _ _ _) hn0).1
  have id_ := (hd.inv ho (BInv.zero _ _ _) ka).1
  have wa := over_all ho.ok ia ea
  have wb := over_all ho.ok ib eb
  have wd := over_all ho.ok id_ ed
  have sb_ := fun i (hi : i ∈ P) => final_same ho ib ia wb wa hi
  have sd_ := fun i (hi : i ∈ P) => final_same ho id_ ia wd wa hi
  have nb := (hb.nohit rfl (fun _ _ => rfl)).2
  have hb0 : cntP P sb isHit = 0 := cnt_none (fun i hi => by simp only [isHit, nb i hi, Bool.and_false])
  have sx := cnt_sum (end_states ia wa)
  have sy := cnt_sum (end_states ib wb)
  have sz := cnt_sum (end_states id_ wd)
  refine ⟨sx, by omega, hb0, sz, fun hfull => ?_, fun i hi => resOf_same (sb_ i hi).1 (sb_ i hi).2.1, fun i hi => resOf_same (sd_ i hi).1 (sd_ i hi).2.1, fun i hi => ?_, over_true wa, over_true wb, over_true wd⟩
  · obtain ⟨c, rfl, hr, hs, hi⟩ := Room.steps ha ho ⟨many, [], []⟩ rfl (BInv.zero _ _ _) (CSt.zero hm1 hm2) (CInv.zero _) (Room.zero hfull)
    have hfu := hr.full ho ia wa
    have hit := (Full.steps hd ho c rfl (BInv.zero _ _ _) hs hi hfu (fun i _ h => absurd h (by decide))).2
    have h0 : cntP P sd isRan = 0 := cnt_none (fun i hi => by
      unfold isRan
      by_cases e : (sd i).state = 2
      · rw [hit i hi e]; simp
      · simp [e])
    refine ⟨h0, ?_⟩
    have d1 := cnt_done P sd
    have d2 := cnt_done P sa
    have d3 : cntP P sd (fun s => decide (s.state = 2)) = cntP P sa (fun s => decide (s.state = 2)) := cnt_congr (fun i hi => by rw [(sd_ i hi).1])
    omega
  · have hf := ia.final ho.ok ho.outs ho.all wa hi
    unfold resOf
    by_cases e : (sa i).state = 2
    · rw [if_pos e, hf.2 e]
      simp
    · rw [if_neg e]
      have hne : (wantV l T (l.getD i noR).out).1 ≠ 0 := fun h => e (hf.1.2 h)
      exact ⟨(toldOk_want hT _).err hne, fun h => absurd h hne, fun h => by cases h⟩
/-- What Of answers of an out, where there is an order. -/
theorem of_out {S : Nat → Addr} {l : List RuleL} {T : Look} {B : Nat} {e : Ending} {w' : World} {o : List Nat} (ho : Ord l (List.range l.length) o) {i : Nat} (hi : i < l.length) (h : WOfAns S l T (l.getD i noR).out B e w') : e = .returned (.tuple #[str (wantV l T (l.getD i noR).out).2, errN S (wantV l T (l.getD i noR).out).1]) := by
  rcases h with ⟨hr, ⟨k, N, hpl, hN, ⟨o2, ho2, rfl⟩ | ⟨hno, -⟩⟩ | ⟨hno, -⟩⟩ | ⟨T', x, -, hbad⟩
  · rfl
  · exfalso
    obtain ⟨r, hrk⟩ := ho.ok.rank
    have hlt : ∀ q ∈ N, q < l.length := fun q hq => ((hN q).1 hq).lt (fun a b hb => edges_lt _ a b hb) (fun q hq => (hpl.1 q hq))
    have hm : ∀ q, q ∈ needL l.length N ↔ q ∈ N := fun q => mem_needL hlt
    obtain ⟨o2, ho2⟩ := orderB_of_rank (E := edgesB l) (isB := fun q => (needL l.length N).contains q) (n := l.length) r (fun q hq hB j hj => ⟨edges_lt _ q j hj, List.contains_iff_mem.2 ((hm j).2 ((hN j).2 (.step ((hN q).1 ((hm q).1 (List.contains_iff_mem.1 hB))) hj))), hrk q (List.mem_range.2 hq) j hj⟩)
    rw [ho2] at hno
    cases hno
  · exfalso
    rw [getD_at hi] at hno
    exact hno (List.mem_map.2 ⟨_, List.getElem_mem hi, rfl⟩)
  · exact absurd ho.ok.right hbad.wrong
end Go.Proofs.YtgoeoekdlcbmpaaGreatDoor
