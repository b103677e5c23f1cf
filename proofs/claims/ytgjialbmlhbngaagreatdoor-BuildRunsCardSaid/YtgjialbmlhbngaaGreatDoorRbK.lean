/-
  The reference's build: Many; Why of the program's build. New's error and the reference's fault: number and place. A build beside the reference's, with one cache each: what runs make of them is one thing.
-/
import Derived.Test.YtgjialbmlhbngaaGreatDoorRbB
import Derived.Test.YtgjialbmlhbngaaGreatDoorBdC
import Derived.Test.YtgjialbmlhbngaaGreatDoorRbE
import Derived.Test.YtgjialbmlhbngaaGreatDoorPkO
import Derived.Test.YtgjialbmlhbngaaGreatDoorRbJ
import Derived.Test.YtgjialbmlhbngaaGreatDoorBdH

set_option maxRecDepth 100000
namespace Go.Proofs.YtgjialbmlhbngaaGreatDoor
open Go Go.RowKit Go.Kf Go.Sort Go.Proofs
def manyL (n : Nat) (P : List Nat) (st : Nat → St) (s : List UInt8) (b : Bool) : Nat := ((List.range n).filter fun i => (rSt P st i == s) && ((st i).hit == b)).length
theorem manyL_succ (i : Nat) (P : List Nat) (st : Nat → St) (s : List UInt8) (b : Bool) : manyL (i + 1) P st s b = manyL i P st s b + if ((rSt P st i == s) && ((st i).hit == b)) = true then 1 else 0 := by
  unfold manyL
  rw [List.range_succ, List.filter_append, List.length_append]
  congr 1
  by_cases h : ((rSt P st i == s) && ((st i).hit == b)) = true
  · simp [h]
  · simp [h]
theorem manyL_le (i : Nat) (P : List Nat) (st : Nat → St) (s : List UInt8) (b : Bool) : manyL i P st s b ≤ i := by
  have := List.length_filter_le (fun i => (rSt P st i == s) && ((st i).hit == b)) (List.range i)
  simpa [manyL] using this
theorem many_cnt {l : List RuleL} {P : List Nat} {st : Nat → St} (h : PartOk l P) {s : List UInt8} {b : Bool} {p : St → Bool} (hs : s ≠ []) (hp : ∀ i ∈ P, ((rSt P st i == s) && ((st i).hit == b)) = p (st i)) : manyL l.length P st s b = cntP P st p := by
  unfold manyL cntP
  have h1 : (List.range l.length).filter (fun i => (rSt P st i == s) && ((st i).hit == b)) = ((List.range l.length).filter P.contains).filter (fun i => p (st i)) := by
    rw [List.filter_filter]
    refine List.filter_congr (fun i _ => ?_)
    by_cases hi : i ∈ P
    · have hc : P.contains i = true := List.contains_iff_mem.2 hi
      rw [hp i hi, hc, Bool.and_true]
    · have hc : P.contains i = false := by rw [Bool.eq_false_iff]; exact fun e => hi (List.contains_iff_mem.1 e)
      have h2 : (rSt P st i == s) = false := by
        unfold rSt
        rw [hc]
        simpa using fun e => hs e
      rw [hc, h2, Bool.and_false, Bool.false_and]
  rw [h1, range_part h.rise h.lt]
theorem name_inj {a b : Nat} (ha : 1 ≤ a ∧ a ≤ 4) (hb : 1 ≤ b ∧ b ≤ 4) : (stName a == stName b) = decide (a = b) := by
  obtain rfl | rfl | rfl | rfl : a = 1 ∨ a = 2 ∨ a = 3 ∨ a = 4 := by omega
  all_goals
    obtain rfl | rfl | rfl | rfl : b = 1 ∨ b = 2 ∨ b = 3 ∨ b = 4 := by omega
    all_goals decide
theorem rSt_in {P : List Nat} {st : Nat → St} {i : Nat} (h : i ∈ P) : rSt P st i = stName (st i).state := by simp [rSt, h]
section
variable {l : List RuleL} {P : List Nat} {T : Look} {st : Nat → St}
theorem many_ran (h : PartOk l P) (hi : BInv l P T st) : manyL l.length P st (stName 2) false = cntP P st isRan := many_cnt h (by decide) (fun i hiP => by
  rw [rSt_in hiP, name_inj (hi.one i hiP) (by omega)]
  unfold isRan
  cases (st i).hit <;> rfl)
theorem many_hit (h : PartOk l P) (hi : BInv l P T st) : manyL l.length P st (stName 2) true = cntP P st isHit := many_cnt h (by decide) (fun i hiP => by
  rw [rSt_in hiP, name_inj (hi.one i hiP) (by omega)]
  unfold isHit
  cases (st i).hit <;> rfl)
theorem many_failed (h : PartOk l P) (hi : BInv l P T st) : manyL l.length P st (stName 3) false = cntP P st isFailed := many_cnt h (by decide) (fun i hiP => by
  rw [rSt_in hiP, name_inj (hi.one i hiP) (by omega)]
  unfold isFailed
  by_cases h3 : (st i).state = 3
  · rw [(hi.fail i hiP h3).2.2.2.1]; simp
  · simp [h3])
theorem many_left (h : PartOk l P) (hi : BInv l P T st) : manyL l.length P st (stName 4) false = cntP P st isLeft := many_cnt h (by decide) (fun i hiP => by
  rw [rSt_in hiP, name_inj (hi.one i hiP) (by omega)]
  unfold isLeft
  by_cases h4 : (st i).state = 4
  · rw [(hi.left i hiP h4).2.1]; simp
  · simp [h4])
end
set_option maxHeartbeats 1000000 in
theorem rmany_any (X : RBx) (n : Nat) (v lv : Value) (L : List Ent) (P : List Nat) (cv : Value) (base : Nat) (w : World) (st : Nat → St) (h : RBAt X n v lv L P cv base w st) (hv : ∃ a c, v = .slice a n c) (hn : n ≤ 1000) (s : List UInt8) (b : Bool) :
    Calls Tryz.prog 110 #[ptrV X.b, str s, .bool b] w fun e w' => e = .returned (intE (manyL n P st s b)) ∧ w' = w := by
  obtain ⟨a, c, rfl⟩ := hv
  have hc1 : w.cell? ⟨X.b, 1, none⟩ = some (.slice a n c) := h.box.cell rfl
  have hc2 : w.cell? ⟨X.b, 2, none⟩ = some (slN X.s n) := h.box.cell rfl
  have hc4 : w.cell? ⟨X.b, 4, none⟩ = some (slN X.h n) := h.box.cell rfl
  have HIX := Hd (fun k (hk : k < n) => idx_at (P := Tryz.prog) (T := 33) (E := 9) Tryz.underlying33 (by kernel_rfl) X.s n n k hk)
  have HIH := Hd (fun k (hk : k < n) => idx_at (P := Tryz.prog) (T := 156) (E := 4) Tryz.underlying156 (by kernel_rfl) X.h n n k hk)
  have HCS := Hd (fun k (hk : k < n) => h.state.cell (k := k) (v := str (rSt P st k)) (by rw [List.getElem?_map, List.getElem?_range hk]; rfl))
  have HCH := Hd (fun k (hk : k < n) => h.hit.cell (k := k) (v := .bool (st k).hit) (by rw [List.getElem?_map, List.getElem?_range hk]; rfl))
  clear h
  go_enter Tryz.func110, Tryz.ntmps110
  go_wp2_with fail
  go_loop [7, 8] (fun nv iv => ∃ i : Nat, i ≤ n ∧ iv = .int .i64 i ∧ nv = intE (manyL i P st s b)) (fun _ iv => n - (intOf iv).toNat)
  case atStart => exact ⟨0, by omega, rfl, rfl⟩
  case round =>
    obtain ⟨i, hi, rfl, rfl⟩ := hrel
    have hml := manyL_le i P st s b
    have HS : Hid (manyL (i + 1) P st s b = manyL i P st s b + if ((rSt P st i == s) && ((st i).hit == b)) = true then 1 else 0) := Hd (manyL_succ i P st s b)
    by_cases hlt : i < n
    · have hlc : ((i : Int) < (n : Int)) = True := eq_true (by omega)
      have hix := HIX.out i hlt
      have hih := HIH.out i hlt
      have hcs := HCS.out i hlt
      have hch := HCH.out i hlt
      generalize rSt P st i = x at *
      generalize (st i).hit = y at *
      generalize manyL i P st s b = q at *
      cases he : x == s with
      | false =>
        have hbf := beqF he
        rw [he] at HS
        have HS2 := Hd HS.out
        clear HS
        go_wp2
        go_round
        case rel => exact ⟨i + 1, by omega, by go_num, by rw [HS2.out]; simp⟩
        case measure => simp [intOf]; omega
      | true =>
        have hbt := beqT he
        rw [he] at HS
        have HS2 := Hd HS.out
        clear HS
        cases y <;> cases b
        all_goals
          go_wp2
          go_round
          case rel => exact ⟨i + 1, by omega, by go_num, by rw [HS2.out]; simp⟩
          case measure => simp [intOf]; omega
    · obtain rfl : i = n := by omega
      have hlc : ((i : Int) < (i : Int)) = False := eq_false (by omega)
      go_wp2
      go_ret
      exact ⟨rfl, rfl⟩
section
variable {S : Nat → Addr} {l : List RuleL} {P : List Nat} {m : List Ent} {D : BPl} {w : World} {st : Nat → St}
theorem bWhy_any (w : World) (h : BAt S l P m D w st) {k : Nat} (hk : k ∈ P) :
    Calls Tryz.prog 108 #[ptrV D.b, intE k] w fun e w' => e = .returned (errN S (st k).why) ∧ Below w.heap.size w w' := by
  obtain ⟨-, hc1, -, -⟩ := h.cells
  have hlk := step_some h hk
  have h7 := (h.at_ hk 7).trans (show (stRow S (l.getD k noR) (D.iv k) (st k))[7]? = some (errN S (st k).why) from rfl)
  generalize errN S (st k).why = z at *
  clear h
  go_enter Tryz.func108, Tryz.ntmps108
  go_wp2
  go_ret
  exact ⟨rfl, Below.refl _ w⟩
theorem bWhyNo_any (w : World) (h : BAt S l P m D w st) {i : Int} (hi : ∀ (k : Nat), k ∈ P → i ≠ (k : Int)) :
    Calls Tryz.prog 108 #[ptrV D.b, .int .i64 i] w fun e w' => e = .returned .nilIface ∧ Below w.heap.size w w' := by
  obtain ⟨-, hc1, -, -⟩ := h.cells
  have hlk := step_none h hi
  clear h
  go_enter Tryz.func108, Tryz.ntmps108
  go_wp2
  go_ret
  exact ⟨rfl, Below.refl _ w⟩
end
theorem new_code {S : Nat → Addr} {l : List RuleL} {outs : List (List UInt8)} {m : List Ent} {cv : Value} {B : Nat} {T : TypeId} {x : Value} {w' : World} {c : Nat} {p : Int} (h : BNewAns S l outs m cv B (.returned (.tuple #[.pointer none, .iface T x])) w') (hf : BFaultIs l outs c p) :
    0 < c ∧ ∀ w1, Below w'.heap.size w' w1 → ErrW w1 S → Calls Tryz.prog 86 #[.iface T x] w1 fun e w2 => e = .returned (.tuple #[.int .i64 (c : Int), .int .i64 p]) ∧ Below w1.heap.size w1 w2 := by
  have key : ∀ {ks N ks' N' : List Nat}, RightS l → PlacesAt l outs ks → (∀ k, k ∈ N ↔ Reach (edgesB l) ks k) → PlacesAt l outs ks' → (∀ k, k ∈ N' ↔ Reach (edgesB l) ks' k) → orderB (edgesB l) (fun k => N'.contains k) l.length = orderB (edgesB l) (fun i => (needL l.length N).contains i) l.length := by
    intro ks N ks' N' hr h1 h2 h3 h4
    congr 1
    funext k
    have hlt : ∀ k ∈ N', k < l.length := fun k hk => ((h4 k).1 hk).lt (fun a b hb => edges_lt _ a b hb) h3.1
    rw [same_needs hr.2 h1 h3 h2 h4, Bool.eq_iff_iff, List.contains_iff_mem, List.contains_iff_mem, mem_needL hlt]
  have hc : 0 < c := by
    rcases new_fault h hf with ⟨h1, -⟩ | ⟨-, -, P, o, D, ks, -, -, -, h1, -⟩
    · exact h1
    · simp at h1
  refine ⟨hc, fun w1 hb hE => ?_⟩
  rcases h with ⟨T', x', he, hbad⟩ | ⟨ks, N, o, D, -, -, -, -, he, -⟩
  case' inr => exact absurd he (by simp)
  simp only [Ending.returned.injEq, Value.tuple.injEq, Array.mk.injEq, List.cons.injEq, Value.iface.injEq, true_and, and_true] at he
  obtain ⟨rfl, rfl⟩ := he
  rcases hbad with hbad | ⟨hr, i, g, hi, hal, hno, hv, hg⟩ | ⟨hr, ks, N, h1, h2, hon, hv⟩
  · rcases hf with ⟨-, -, hf⟩ | ⟨hr, -⟩ | ⟨hr, -⟩
    · exact (bad_code (hbad.below hb) hf hE).2
    · exact absurd hr hbad.wrong
    · exact absurd hr hbad.wrong
  · rcases hf with ⟨hf, -⟩ | ⟨-, i', hi', hal', hno', rfl, rfl⟩ | ⟨-, ks', N', h3, -⟩
    · exact absurd hr hf
    · have hii : i = i' := by
        rcases Nat.lt_trichotomy i i' with h | h | h
        · exact absurd (hal' i hi h) hno
        · exact h
        · exact absurd (hal i' hi' h) hno'
      subst hii
      rw [hv]
      have hg1 := (hb.block g (lt_of_heap hg)).trans hg
      refine (code_fault w1 S hE g 5 (i : Int) (by decide) ((cell_of_heap hg1 0).trans rfl) ((cell_of_heap hg1 1).trans rfl)).mono ?_
      rintro e w2 ⟨rfl, hb2⟩
      exact ⟨by rfl, hb2⟩
    · exact absurd (places_made h3 _ (List.getElem_mem hi)) hno
  · rcases hf with ⟨hf, -⟩ | ⟨-, i, hi, -, hno, -⟩ | ⟨-, ks', N', h3, h4, ⟨-, rfl, rfl⟩ | ⟨o, h5, -⟩⟩
    · exact absurd hr hf
    · exact absurd (places_made h1 _ (List.getElem_mem hi)) hno
    · rw [hv]
      exact code_at w1 S hE 8 (by decide)
    · rw [key hr h1 h2 h3 h4, hon] at h5
      cases h5
theorem GoRel.one {l : List RuleL} {P : List Nat} {T : Look} {c c1 c2 : Option CS} {st a b : Nat → St} {k : Nat} {x y : Bool} (hP : PartOk l P) (h1 : GoRel l P T c st k x c1 a) (h2 : GoRel l P T c st k y c2 b) : a = b ∧ c1 = c2 ∧ x = y := by
  cases h1 with
  | gone g1 f1 => cases h2 with
    | gone g2 f2 => exact ⟨f1.same hP f2, rfl, rfl⟩
    | hit i2 m2 => exact (gone_not g1 i2).elim
    | run i2 m2 r2 => exact (gone_not g1 i2).elim
    | bad i2 m2 r2 f2 => exact (gone_not g1 i2).elim
  | hit i1 m1 => cases h2 with
    | gone g2 f2 => exact (gone_not g2 i1).elim
    | hit i2 m2 =>
      obtain rfl := map_some_inj (i1.symm.trans i2)
      rw [m1] at m2
      cases m2
      exact ⟨rfl, rfl, rfl⟩
    | run i2 m2 r2 =>
      obtain rfl := map_some_inj (i1.symm.trans i2)
      rw [m2 _ rfl] at m1
      cases m1
    | bad i2 m2 r2 f2 =>
      obtain rfl := map_some_inj (i1.symm.trans i2)
      rw [m2 _ rfl] at m1
      cases m1
  | run i1 m1 r1 => cases h2 with
    | gone g2 f2 => exact (gone_not g2 i1).elim
    | hit i2 m2 =>
      obtain rfl := map_some_inj (i1.symm.trans i2)
      rw [m1 _ rfl] at m2
      cases m2
    | run i2 m2 r2 =>
      obtain rfl := map_some_inj (i1.symm.trans i2)
      rw [r1] at r2
      cases r2
      exact ⟨rfl, rfl, rfl⟩
    | bad i2 m2 r2 f2 =>
      obtain rfl := map_some_inj (i1.symm.trans i2)
      rw [r1] at r2
      cases r2
  | bad i1 m1 r1 f1 => cases h2 with
    | gone g2 f2 => exact (gone_not g2 i1).elim
    | hit i2 m2 =>
      obtain rfl := map_some_inj (i1.symm.trans i2)
      rw [m1 _ rfl] at m2
      cases m2
    | run i2 m2 r2 =>
      obtain rfl := map_some_inj (i1.symm.trans i2)
      rw [r1] at r2
      cases r2
    | bad i2 m2 r2 f2 =>
      obtain rfl := map_some_inj (i1.symm.trans i2)
      rw [r1] at r2
      cases r2
      exact ⟨f1.same hP f2, rfl, rfl⟩
theorem RunRel.parts {l : List RuleL} {P : List Nat} {T : Look} {c c' : Option CS} {st st' : Nat → St} {i : Int} {hit : Bool} {code : Nat} (h : RunRel l P T c st i hit code c' st') :
    ((∀ (k : Nat), k ∈ P → i ≠ (k : Int)) ∧ hit = false ∧ code = 6 ∧ c' = c ∧ st' = st) ∨ (∃ k : Nat, i = (k : Int) ∧ k ∈ P ∧ (st k).state ≠ 1 ∧ hit = false ∧ code = 12 ∧ c' = c ∧ st' = st) ∨
    (∃ k : Nat, i = (k : Int) ∧ k ∈ P ∧ (st k).state = 1 ∧ ¬ ReadyP l st k ∧ hit = false ∧ code = 11 ∧ c' = c ∧ st' = st) ∨ (∃ k : Nat, i = (k : Int) ∧ k ∈ P ∧ ReadyP l st k ∧ code = 0 ∧ GoRel l P T c st k hit c' st') := by
  cases h with
  | none h1 => exact Or.inl ⟨h1, rfl, rfl, rfl, rfl⟩
  | done h1 h2 => exact Or.inr (Or.inl ⟨_, rfl, h1, h2, rfl, rfl, rfl, rfl⟩)
  | turn h1 h2 h3 => exact Or.inr (Or.inr (Or.inl ⟨_, rfl, h1, h2, h3, rfl, rfl, rfl, rfl⟩))
  | go h1 h2 h3 => exact Or.inr (Or.inr (Or.inr ⟨_, rfl, h1, h2, rfl, h3⟩))
theorem RunRel.one {l : List RuleL} {P : List Nat} {T : Look} {c c1 c2 : Option CS} {st a b : Nat → St} {i : Int} {x y : Bool} {n k : Nat} (hP : PartOk l P) (h1 : RunRel l P T c st i x n c1 a) (h2 : RunRel l P T c st i y k c2 b) : a = b ∧ c1 = c2 ∧ x = y ∧ n = k := by
  rcases h1.parts with ⟨g1, rfl, rfl, rfl, rfl⟩ | ⟨q, rfl, g1, s1, rfl, rfl, rfl, rfl⟩ | ⟨q, rfl, g1, s1, r1, rfl, rfl, rfl, rfl⟩ | ⟨q, rfl, g1, r1, rfl, go1⟩ <;>
    rcases h2.parts with ⟨g2, rfl, rfl, rfl, rfl⟩ | ⟨q', e, g2, s2, rfl, rfl, rfl, rfl⟩ | ⟨q', e, g2, s2, r2, rfl, rfl, rfl, rfl⟩ | ⟨q', e, g2, r2, rfl, go2⟩
  · exact ⟨rfl, rfl, rfl, rfl⟩
  · exact absurd e (g1 _ g2)
  · exact absurd e (g1 _ g2)
  · exact absurd e (g1 _ g2)
  · exact absurd rfl (g2 _ g1)
  · exact ⟨rfl, rfl, rfl, rfl⟩
  · obtain rfl : q = q' := by omega
    exact absurd s2 s1
  · obtain rfl : q = q' := by omega
    exact absurd r2.1 s1
  · exact absurd rfl (g2 _ g1)
  · obtain rfl : q = q' := by omega
    exact absurd s1 s2
  · exact ⟨rfl, rfl, rfl, rfl⟩
  · obtain rfl : q = q' := by omega
    exact absurd r2 r1
  · exact absurd rfl (g2 _ g1)
  · obtain rfl : q = q' := by omega
    exact absurd r1.1 s2
  · obtain rfl : q = q' := by omega
    exact absurd r1 r2
  · obtain rfl : q = q' := by omega
    obtain ⟨h3, h4, h5⟩ := go1.one hP go2
    exact ⟨h3, h4, h5, rfl⟩
theorem AllRel.one {l : List RuleL} {P : List Nat} {T : Look} (hP : PartOk l P) {c : Option CS} {st : Nat → St} {js : List Nat} {c1 : Option CS} {a : Nat → St} (h1 : AllRel l P T c st js c1 a) : ∀ {ks : List Nat} {c2 : Option CS} {b : Nat → St}, AllRel l P T c st ks c2 b → js = ks ∧ a = b ∧ c1 = c2 := by
  induction h1 with
  | stop r1 =>
    intro ks c2 b h2
    cases h2 with
    | stop r2 => exact ⟨rfl, rfl, rfl⟩
    | more r2 g2 a2 => rw [r1] at r2; cases r2
  | more r1 g1 a1 ih =>
    intro ks c2 b h2
    cases h2 with
    | stop r2 => rw [r2] at r1; cases r1
    | more r2 g2 a2 =>
      rw [r1] at r2
      cases r2
      obtain ⟨rfl, rfl, -⟩ := g1.one hP g2
      obtain ⟨rfl, rfl, rfl⟩ := ih a2
      exact ⟨rfl, rfl, rfl⟩
def rhas (X : RBx) (lvR : Value) (cb : Nat) (lvc : Value) (b : Bool) (q : Nat) : Prop := rfoot X cb b q ∨ q = X.b ∨ q = X.t ∨ lvR.ownBlock = some q ∨ (b = true ∧ lvc.ownBlock = some q)
structure Two (S : Nat → Addr) (R : List RV) (v lvR : Value) (m L : List Ent) (P : List Nat) (D : BPl) (pb mb : Nat) (lv : Value) (X : RBx) (cv : Value) (cb : Nat) (lvc : Value) (base : Nat) (w0 : World) (c : Option CS) (st : Nat → St) (c2 : Option CS) (st2 : Nat → St) (w : World) : Prop where
  bo : BO S (R.map Prod.fst) P m D pb mb w0.heap.size lv c st w
  ro : ROC X R v lvR m L P cv cb lvc base w0 c2 st2 w
  apart : ∀ q, D.has P q ∨ cfoot pb mb lv c q → ¬ rhas X lvR cb lvc c2.isSome q
section
variable {S : Nat → Addr} {R : List RV} {v lvR : Value} {m L : List Ent} {P : List Nat} {D : BPl} {pb mb : Nat} {lv lv' : Value} {X : RBx} {cv : Value} {cb : Nat} {lvc lvc' : Value} {base : Nat} {w0 w w' : World} {c c' c2 c2' : Option CS} {st st' st2 st2' : Nat → St}
theorem ROC.lt (h : ROC X R v lvR m L P cv cb lvc base w0 c st w) {q : Nat} (hq : rhas X lvR cb lvc c.isSome q) : q < w.heap.size := by
  rcases hq with hq | hq | hq | hq | ⟨h1, hq⟩
  · exact h.parts q (Or.inl hq)
  · exact h.parts q (Or.inr (Or.inl hq))
  · exact h.parts q (Or.inr (Or.inr (Or.inl hq)))
  · exact h.parts q (Or.inr (Or.inr (Or.inr hq)))
  · exact (h.own_at h1 hq).2
theorem Two.below (h : Two S R v lvR m L P D pb mb lv X cv cb lvc base w0 c st c2 st2 w) (hb : Below w.heap.size w w') : Two S R v lvR m L P D pb mb lv X cv cb lvc base w0 c st c2 st2 w' := ⟨h.bo.below hb, h.ro.below hb, h.apart⟩
theorem Two.left (h : Two S R v lvR m L P D pb mb lv X cv cb lvc base w0 c st c2 st2 w) (hb : BO S (R.map Prod.fst) P m D pb mb w0.heap.size lv' c' st' w') (ht : Turned D P pb mb lv c w lv' c' w') : Two S R v lvR m L P D pb mb lv' X cv cb lvc base w0 c' st' c2 st2 w' := by
  refine ⟨hb, h.ro.fr ht.1 (fun q hq hs => ?_), fun q hq hr => ?_⟩
  · have h1 := h.apart q (hs.elim (fun h => Or.inl (Or.inr h)) Or.inr)
    unfold rhas at h1
    exact ⟨h.bo.low q hs, fun e => h1 (Or.inr (Or.inl e)), fun e => h1 (Or.inr (Or.inr (Or.inl e))), fun e => h1 (Or.inr (Or.inr (Or.inr (Or.inl e)))), fun e => h1 (Or.inl e), fun h2 e => h1 (Or.inr (Or.inr (Or.inr (Or.inr ⟨h2, e⟩))))⟩
  · have h2 := h.ro.lt hr
    rcases hq with hq | hq
    · exact h.apart q (Or.inl hq) hr
    · rcases ht.2 q hq with h3 | h3
      · exact h.apart q (Or.inr h3) hr
      · omega
theorem Two.right (h : Two S R v lvR m L P D pb mb lv X cv cb lvc base w0 c st c2 st2 w) (hr : ROC X R v lvR m L P cv cb lvc' base w0 c2' st2' w') (hf : Fr w.heap.size (rfoot X cb c2.isSome) w w') (hl : ∀ k, lvc'.ownBlock = some k → lvc.ownBlock = some k ∨ w.heap.size ≤ k) (hs : c2'.isSome = c2.isSome) : Two S R v lvR m L P D pb mb lv X cv cb lvc' base w0 c st c2' st2' w' := by
  refine ⟨h.bo.fr hf (fun q hq => ⟨h.bo.lt hq, fun h1 => h.apart q hq (Or.inl h1)⟩), hr, fun q hq h1 => ?_⟩
  rw [hs] at h1
  rcases h1 with h1 | h1 | h1 | h1 | ⟨h1, h2⟩
  · exact h.apart q hq (Or.inl h1)
  · exact h.apart q hq (Or.inr (Or.inl h1))
  · exact h.apart q hq (Or.inr (Or.inr (Or.inl h1)))
  · exact h.apart q hq (Or.inr (Or.inr (Or.inr (Or.inl h1))))
  · rcases hl q h2 with h3 | h3
    · exact h.apart q hq (Or.inr (Or.inr (Or.inr (Or.inr ⟨h1, h3⟩))))
    · have := h.bo.lt hq
      omega
end
end Go.Proofs.YtgjialbmlhbngaaGreatDoor
