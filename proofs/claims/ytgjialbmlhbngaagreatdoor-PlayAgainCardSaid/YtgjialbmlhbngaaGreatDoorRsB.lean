/-
  Plays in plain Lean: what Make of some outs makes of a yard, and what each number of a script makes of it; each makes one thing alone. Plays: the program's walks. Plays: one number of a script. Plays: a script, a new yard, a yard's sum: the program's walks. Plays: a new yard, and the sum of a yard. The closed fact of plays; the walk of the law PlayAgain. The walk of the law PlayAgain.
-/
import Derived.Test.YtgjialbmlhbngaaGreatDoorRsA
import Derived.Test.YtgjialbmlhbngaaGreatDoorYdC
import Derived.Test.YtgjialbmlhbngaaGreatDoorRbK
import Derived.Test.YtgjialbmlhbngaaGreatDoorPkI
import Derived.Test.YtgjialbmlhbngaaGreatDoorPkK
import Derived.Test.YtgjialbmlhbngaaGreatDoorPkO
import Derived.Test.YtgjialbmlhbngaaGreatDoorRbE

namespace Go.Proofs.YtgjialbmlhbngaaGreatDoor
open Go Go.RowKit Go.Kf Go.Sort Go.Proofs

/-- A cache keeps its room. -/
theorem GoRel.many {l : List RuleL} {P : List Nat} {T : Look} {c c' : Option CS} {st st' : Nat → St} {i : Nat} {hit : Bool} (h : GoRel l P T c st i hit c' st') : c'.map CS.many = c.map CS.many := by
  cases h with
  | gone a b => rfl
  | hit a b => rfl
  | run a b d => cases c <;> rfl
  | bad a b d f => rfl
theorem Steps.many {l : List RuleL} {P : List Nat} {T : Look} {c c' : Option CS} {st st' : Nat → St} (h : Steps l P T c st c' st') : c'.map CS.many = c.map CS.many := by
  induction h with
  | refl => rfl
  | go h1 h2 h3 h4 ih => exact h4.many.trans ih
/-- One rule's result in the out tree: outs alone, still. -/
theorem OutsIn.lay {l : List RuleL} {P : List Nat} {st : Nat → St} {mo : List Ent} (h : OutsIn l mo) {i : Nat} (hi : i < l.length) : OutsIn l (layOne l P st mo i) := by
  unfold layOne
  split
  · unfold putM
    split
    · exact h.upd hi _
    · exact h
  · split
    · exact h.del _
    · exact h
theorem OutsIn.layAll {l : List RuleL} {P : List Nat} {st : Nat → St} : ∀ (o : List Nat) (mo : List Ent), (∀ k ∈ o, k < l.length) → OutsIn l mo → OutsIn l (List.foldl (layOne l P st) mo o)
  | [], _, _, h => h
  | k :: o, _, ho, h => OutsIn.layAll o _ (fun j hj => ho j (List.mem_cons_of_mem _ hj)) (h.lay (ho k List.mem_cons_self))
/-- What Make of some outs makes of the out tree and the cache. -/
def MakeRel (l : List RuleL) (outs : List (List UInt8)) (T : Look) (mo : List Ent) (c : CS) (n : Nat → Nat) (mo' : List Ent) (c' : CS) : Prop :=
  ∃ P o ks js ord st', PlacesAt l (outsOf l outs) ks ∧ (∀ k, k ∈ P ↔ Reach (edgesB l) ks k) ∧ Ord l P o ∧ AllRel l P T (some c) (fun _ => st0) js (some c') st' ∧ orderB (edgesB l) (fun _ => true) l.length = some ord ∧ mo' = ord.foldl (layOne l P st') mo ∧
    n 0 = cntP P st' isRan ∧ n 1 = cntP P st' isHit ∧ n 2 = cntP P st' isFailed ∧ n 3 = cntP P st' isLeft
theorem sorted_one {a b : List Nat} (ha : a.Pairwise (· < ·)) (hb : b.Pairwise (· < ·)) (h : ∀ k, k ∈ a ↔ k ∈ b) : a = b :=
  List.Perm.eq_of_pairwise (le := fun a b => a < b) (fun _ _ _ _ h1 h2 => absurd h1 (Nat.lt_asymm h2)) ha hb (perm_nodup (ha.imp (fun h => Nat.ne_of_lt h)) (hb.imp (fun h => Nat.ne_of_lt h)) h)
theorem MakeRel.one {l : List RuleL} {outs : List (List UInt8)} {T : Look} {mo : List Ent} {c : CS} {n n2 : Nat → Nat} {a b : List Ent} {c1 c2 : CS} (h1 : MakeRel l outs T mo c n a c1) (h2 : MakeRel l outs T mo c n2 b c2) : a = b ∧ c1 = c2 ∧ n 0 = n2 0 ∧ n 1 = n2 1 ∧ n 2 = n2 2 ∧ n 3 = n2 3 := by
  obtain ⟨P, o, ks, js, ord, st1, hp, hn, ho, ha, hord, rfl, e0, e1, e2, e3⟩ := h1
  obtain ⟨P2, o2, ks2, js2, ord2, st2, hp2, hn2, ho2, ha2, hord2, rfl, f0, f1, f2, f3⟩ := h2
  have hP : P = P2 := sorted_one ho.ok.rise ho2.ok.rise (fun k => by rw [hn, hn2]; exact reach_congr (places_same ho.ok.right.2 hp hp2) k)
  subst hP
  obtain ⟨-, hs, hc⟩ := ha.one ho.ok ha2
  subst hs
  rw [hord] at hord2
  cases hord2
  exact ⟨rfl, Option.some.inj hc, e0.trans f0.symm, e1.trans f1.symm, e2.trans f2.symm, e3.trans f3.symm⟩

/-- Every part of the sheet has an order. -/
theorem play_parts : ∀ a b c d e f : Bool, (∀ i, i < 6 → [a, b, c, d, e, f].getD i false = true → ∀ k ∈ edgesB playL i, [a, b, c, d, e, f].getD k false = true) → orderB (edgesB playL) (fun i => [a, b, c, d, e, f].getD i false) 6 ≠ none := by
  decide +kernel
theorem play_ord {N : List Nat} {ks : List Nat} (hN : ∀ k, k ∈ N ↔ Reach (edgesB playL) ks k) : orderB (edgesB playL) (fun i => N.contains i) playL.length ≠ none := by
  have h := play_parts (N.contains 0) (N.contains 1) (N.contains 2) (N.contains 3) (N.contains 4) (N.contains 5)
  have hg : ∀ i, i < 6 → [N.contains 0, N.contains 1, N.contains 2, N.contains 3, N.contains 4, N.contains 5].getD i false = N.contains i := by
    intro i hi
    match i, hi with
    | 0, _ => rfl
    | 1, _ => rfl
    | 2, _ => rfl
    | 3, _ => rfl
    | 4, _ => rfl
    | 5, _ => rfl
  have h2 := h (fun i hi hb k hk => by
    have hk6 : k < 6 := edges_lt _ i k hk
    rw [hg i hi] at hb
    rw [hg k hk6]
    rw [List.contains_iff_mem] at hb ⊢
    exact (hN k).2 (.step ((hN i).1 hb) hk))
  rw [orderB_congr (b := fun i => N.contains i) hg] at h2
  exact h2
/-- New of some outs of the sheet does not fail. -/
theorem play_new {S : Nat → Addr} {outs : List (List UInt8)} {m : List Ent} {cv : Value} {B : Nat} {T : TypeId} {x : Value} {w' : World} (h : BNewAns S playL outs m cv B (.returned (.tuple #[.pointer none, .iface T x])) w') (ho : ∀ s ∈ outs, s ∈ playL.map RuleL.out) : False := by
  rcases h with ⟨T', x', -, hbad | ⟨-, i, g, hi, -, hno, -⟩ | ⟨-, ks, N, hpl, hN, hnone, -⟩⟩ | ⟨ks, N, o, D, -, -, -, -, he, -⟩
  · exact hbad.wrong playL_right
  · exact hno (ho _ (List.getElem_mem hi))
  · have hlt : ∀ k ∈ N, k < playL.length := fun k hk => ((hN k).1 hk).lt (fun a b hb => edges_lt _ a b hb) hpl.1
    exact play_ord (N := needL playL.length N) (ks := ks) (fun k => by rw [mem_needL hlt]; exact hN k) hnone
  · exact absurd he (by simp)

/-- A yard's state: files, outs, cache. -/
structure PS where
  m : List Ent
  mo : List Ent
  c : CS
/-- The file that a number names; its bytes; the outs that it asks for. -/
def fileV (q : Nat) : List UInt8 := [UInt8.ofNat (97 + q % 3)]
def bitV (n i : Nat) : UInt8 := if n / 2 ^ i % 2 = 1 then 120 else 10
def lettV (n : Nat) : List UInt8 := [bitV n 4, bitV n 3, bitV n 2, bitV n 1, bitV n 0]
def outsV (k q : Nat) : List (List UInt8) := if k = 6 then [(playL.getD (q % 6) noR).out] else if k = 7 then [[104, 100], [99, 110, 116]] else []
theorem outsV_in (k q : Nat) : ∀ s ∈ outsV k q, s ∈ playL.map RuleL.out := by
  have h6 : ∀ j, j < 6 → (playL.getD j noR).out ∈ playL.map RuleL.out := by decide +kernel
  intro s hs
  unfold outsV at hs
  split at hs
  · obtain rfl := List.mem_singleton.1 hs
    exact h6 _ (Nat.mod_lt _ (by decide))
  · split at hs
    · have h2 : ∀ s ∈ ([[104, 100], [99, 110, 116]] : List (List UInt8)), s ∈ playL.map RuleL.out := by decide +kernel
      exact h2 s hs
    · cases hs
/-- What one number makes: its answer, and the yard behind it. -/
inductive PlayRel (a : PS) (v : Nat) : Nat → PS → Prop
  | rem : v % 8 = 4 → PlayRel a v (removeC (fileV (v / 8)) a.m) { a with m := mdel (fileV (v / 8)) a.m }
  | make {n : Nat → Nat} {mo' : List Ent} {c' : CS} : 5 ≤ v % 8 → MakeRel playL (outsV (v % 8) (v / 8)) (fun p => mlook p a.m) a.mo a.c n mo' c' → PlayRel a v 0 ⟨a.m, mo', c'⟩
  | put : v % 8 < 4 → PlayRel a v (putC (fileV (v / 8)) (lettV (v / 8 / 3 % 32)) a.m) { a with m := putM (fileV (v / 8)) (lettV (v / 8 / 3 % 32)) a.m }
theorem PlayRel.one {a b b2 : PS} {v x y : Nat} (h1 : PlayRel a v x b) (h2 : PlayRel a v y b2) : x = y ∧ b = b2 := by
  cases h1 with
  | rem h =>
    cases h2 with
    | rem _ => exact ⟨rfl, rfl⟩
    | make h3 _ => omega
    | put h3 => omega
  | make h hm =>
    cases h2 with
    | rem h3 => omega
    | make h3 hm2 =>
      obtain ⟨rfl, rfl, -⟩ := hm.one hm2
      exact ⟨rfl, rfl⟩
    | put h3 => omega
  | put h =>
    cases h2 with
    | rem h3 => omega
    | make h3 _ => omega
    | put _ => exact ⟨rfl, rfl⟩
/-- A script. -/
inductive PlayAll : PS → List Int → List Int → PS → Prop
  | nil {a : PS} : PlayAll a [] [] a
  | neg {a b : PS} {v : Int} {l : List Int} {r : List Int} : v < 0 → PlayAll a l r b → PlayAll a (l ++ [v]) (r ++ [-1]) b
  | pos {a b d : PS} {v x : Nat} {l : List Int} {r : List Int} : PlayAll a l r b → PlayRel b v x d → PlayAll a (l ++ [(v : Int)]) (r ++ [(x : Int)]) d
theorem snoc_inj {α : Type} {a b : List α} {x y : α} (h : a ++ [x] = b ++ [y]) : a = b ∧ x = y := by
  obtain ⟨h1, h2⟩ := List.append_inj' h rfl
  exact ⟨h1, by simpa using h2⟩
theorem PlayAll.one {a : PS} {l : List Int} {r : List Int} {b : PS} (h1 : PlayAll a l r b) : ∀ {r2 : List Int} {b2 : PS}, PlayAll a l r2 b2 → r = r2 ∧ b = b2 := by
  induction h1 with
  | nil =>
    intro r2 b2 h2
    generalize hl : ([] : List Int) = l at h2
    cases h2 with
    | nil => exact ⟨rfl, rfl⟩
    | neg _ _ => simp at hl
    | pos _ _ => simp at hl
  | @neg b v l r hv h ih =>
    intro r2 b2 h2
    generalize hl : l ++ [v] = l2 at h2
    cases h2 with
    | nil => simp at hl
    | neg hv2 h3 =>
      obtain ⟨rfl, rfl⟩ := snoc_inj hl
      obtain ⟨rfl, rfl⟩ := ih h3
      exact ⟨rfl, rfl⟩
    | pos h3 h4 =>
      obtain ⟨rfl, rfl⟩ := snoc_inj hl
      omega
  | @pos b d v x l r h hr ih =>
    intro r2 b2 h2
    generalize hl : l ++ [(v : Int)] = l2 at h2
    cases h2 with
    | nil => simp at hl
    | neg hv2 h3 =>
      obtain ⟨rfl, rfl⟩ := snoc_inj hl
      omega
    | pos h3 h4 =>
      obtain ⟨rfl, e⟩ := snoc_inj hl
      obtain rfl := Int.ofNat.inj e
      obtain ⟨rfl, rfl⟩ := ih h3
      obtain ⟨rfl, rfl⟩ := hr.one h4
      exact ⟨rfl, rfl⟩
end Go.Proofs.YtgjialbmlhbngaaGreatDoor

namespace Go.Proofs.YtgjialbmlhbngaaGreatDoor
open Go Go.RowKit Go.Kf Go.Sort Go.Proofs

/-- What a yard's turn leaves as it was. -/
def YTurn (Y : YPl) (vl : Value) (R : List RV) (lv lv' : Value) (w w' : World) : Prop := Fr w.heap.size (fun q => ∃ i, ysec Y lv vl R i q) w w' ∧ ∀ i q, ysec Y lv' vl R i q → ysec Y lv vl R i q ∨ w.heap.size ≤ q
section
variable {Y : YPl} {vl lv lv' lv2 : Value} {R : List RV} {w w' w2 : World}
theorem YTurn.of_below (h : Below w.heap.size w w') : YTurn Y vl R lv lv w w' := ⟨Fr.of_below h, fun _ _ hq => Or.inl hq⟩
theorem YTurn.trans (h : YTurn Y vl R lv lv' w w') (k : YTurn Y vl R lv' lv2 w' w2) : YTurn Y vl R lv lv2 w w2 := by
  refine ⟨h.1.trans (k.1.mono h.1.size (fun q hq e => ?_)), fun i q hq => ?_⟩
  · obtain ⟨i, e⟩ := e
    rcases h.2 i q e with e | e
    · exact ⟨i, e⟩
    · omega
  · rcases k.2 i q hq with e | e
    · exact h.2 i q e
    · exact Or.inr (Nat.le_trans h.1.size e)
theorem YTurn.tree (h : Fr w.heap.size (fun k => k = Y.mb) w w') : YTurn Y vl R lv lv w w' := ⟨h.mono (Nat.le_refl _) (fun _ _ e => ⟨1, Or.inr e⟩), fun _ _ hq => Or.inl hq⟩
theorem YTurn.foot (hf : Fr w.heap.size (fun q => q = Y.om ∨ foot Y.pb Y.cm lv q) w w') (hl : ∀ q, foot Y.pb Y.cm lv' q → foot Y.pb Y.cm lv q ∨ w.heap.size ≤ q) : YTurn Y vl R lv lv' w w' := by
  refine ⟨hf.mono (Nat.le_refl _) (fun q _ e => ?_), fun i q hq => ?_⟩
  · rcases e with e | e
    · exact ⟨2, Or.inr e⟩
    · exact ⟨3, e⟩
  · match i, hq with
    | 0, hq => exact Or.inl hq
    | 1, hq => exact Or.inl hq
    | 2, hq => exact Or.inl hq
    | 3, hq => exact hl q hq
    | 4, hq => exact Or.inl hq
    | _ + 5, hq => exact Or.inl hq
/-- A row that a yard does not hold stays. -/
theorem YTurn.row {B : Nat} {e : TypeId} {z n : Nat} {v : Value} {xs : List Value} (h : YTurn Y vl R lv lv' w w') (hr : w.ownsRow B e z v n xs) (ha : ∀ i q, ysec Y lv vl R i q → v.ownBlock ≠ some q) : w'.ownsRow B e z v n xs ∧ ∀ i q, ysec Y lv' vl R i q → v.ownBlock ≠ some q :=
  ⟨ownsRow_fr hr h.1 (fun k hk => ⟨(hr.lt k hk).2, fun ⟨i, e⟩ => ha i k e hk⟩), fun i q hq e => by
    rcases h.2 i q hq with h1 | h1
    · exact ha i q h1 e
    · have := (hr.lt q e).2; omega⟩
end
theorem YAt.weaken {B B' : Nat} {Y : YPl} {vl lv : Value} {R : List RV} {m mo : List Ent} {c : CS} {w : World} (h : YAt B Y vl lv R m mo c w) (hB : B' ≤ B) : YAt B' Y vl lv R m mo c w :=
  ⟨h.box, h.tree, h.out, own_base h.rules hB, h.cache, fun i q hq => Nat.le_trans hB (h.low i q hq), h.apart⟩
/-- Another yard's turn. -/
theorem FSt.other {w1 : World} {Y Z : YPl} {vl lv vz lz lz' : Value} {R Rz : List RV} {m mo mz moz : List Ent} {c cz : CS} {w w' : World} (h : FSt w1.heap.size w1 Y vl R m mo c lv w) (hz : FSt w1.heap.size w1 Z vz Rz mz moz cz lz w) (ha : ∀ i j q, ysec Y lv vl R i q → ysec Z lz vz Rz j q → False) (ht : YTurn Z vz Rz lz lz' w w') :
    FSt w1.heap.size w1 Y vl R m mo c lv w' ∧ ∀ i j q, ysec Y lv vl R i q → ysec Z lz' vz Rz j q → False :=
  ⟨⟨h.yard.fr ht.1 (fun i q hq ⟨j, e⟩ => ha i j q hq e), h.good, h.outs, h.cok, h.room, h.low.trans ((ht.1.mono h.low.size (fun _ _ h => h)).below (fun k hk e => by obtain ⟨j, e⟩ := e; have := hz.yard.low j k e; omega))⟩, fun i j q hi hj => by
    rcases ht.2 j q hj with e | e
    · exact ha i j q hi e
    · have := h.yard.lt i q hi; omega⟩
theorem penv {S : Nat → Addr} {m : List Ent} {w : World} (h : Ml w ∧ BErr w S ∧ NErr w ∧ Tab w) (hg : Good m) : BEnv S playL m w :=
  ⟨h.1, h.2.1, h.2.2.1, h.2.2.2, fun r hr => by
    obtain ⟨h1, h2, h3, h4, h5, h6⟩ := playL_short r hr
    exact ⟨by omega, by omega, by omega, fun s hs => by have := h5 s hs; omega, by omega⟩, hg.byt⟩
theorem pmake_any {S : Nat → Addr} {w1 w : World} {Y : YPl} {vl lv : Value} {R : List RV} {m mo : List Ent} {c : CS} (h : FSt w1.heap.size w1 Y vl R m mo c lv w) (hR : R.map Prod.fst = playL) (hE : Ml w1 ∧ BErr w1 S ∧ NErr w1 ∧ Tab w1)
    (outs : List (List UInt8)) (vo : Value) (hO : Reads w vo (outs.map str)) (hn : outs.length ≤ 1000) (ho : ∀ s ∈ outs, s ∈ playL.map RuleL.out) :
    Calls Tryz.prog 20 #[ptrV Y.yb, vo] w fun e w' => ∃ n mo' c' lv', e = .returned (.tuple #[countV (n 0 : Nat) (n 1 : Nat) (n 2 : Nat) (n 3 : Nat), .nilIface]) ∧ MakeRel playL outs (fun p => mlook p m) mo c n mo' c' ∧ FSt w1.heap.size w1 Y vl R m mo' c' lv' w' ∧ YTurn Y vl R lv lv' w w' := by
  have hMo : MoOk mo := ⟨by have := h.outs.len; rw [hR] at this; have h6 : playL.length = 6 := rfl; omega, fun y hy => by
    obtain ⟨i, hi, he⟩ := h.outs.sub y.1 (List.mem_map.2 ⟨y, hy, rfl⟩)
    rw [hR] at hi he
    rw [← he, getD_at hi]
    have := (playL_short _ (List.getElem_mem hi)).1
    omega⟩
  refine (ymake_any (S := S) w1 w rfl h.yard h.cok (by rw [hR]; exact penv hE h.good) h.low (by rw [hR]; exact playL_right) (by rw [hR]; exact playL_ord) hMo outs vo hO hn).mono ?_
  intro e w' ha
  unfold YMakeAns at ha
  rw [hR] at ha
  have hov : ∀ s ∈ outsOf playL outs, s ∈ playL.map RuleL.out := fun s hs => by
    unfold outsOf at hs
    split at hs
    · exact hs
    · exact ho s hs
  rcases ha with ⟨T, x, -, hnew, -⟩ | ⟨P, o, ks, js, ord, c', st', lv', hpl, hN, hOr, hall, hord, rfl, hY, hF, hft⟩
  · exact (play_new hnew hov).elim
  obtain ⟨hst, -⟩ := hall.steps
  have hk := hst.inv hOr (BInv.zero _ _ _) h.cok
  have hm := Option.some.inj hst.many
  obtain ⟨h1, -⟩ := order_mem hord
  refine ⟨fun i => if i = 0 then cntP P st' isRan else if i = 1 then cntP P st' isHit else if i = 2 then cntP P st' isFailed else cntP P st' isLeft, _, c', lv', rfl, ⟨P, o, ks, js, ord, st', hpl, hN, hOr, hall, hord, rfl, rfl, rfl, rfl, rfl⟩, ⟨hY, h.good, ?_, hk.2.1, by rw [hm]; exact h.room, h.low.trans ((hF.mono h.low.size (fun _ _ h => h)).below (fun q hq e => ?_))⟩, YTurn.foot hF hft⟩
  · rw [hR]
    have := h.outs
    rw [hR] at this
    exact OutsIn.layAll ord mo (fun k hk => (h1.lt k hk).1) this
  · rcases e with rfl | e
    · have := h.yard.low 2 _ (Or.inr rfl); omega
    · have := h.yard.low 3 _ e; omega

theorem tyBytesP : SliceTy Tryz.prog 136 5 (.int .u8 0) 1 := ⟨Tryz.underlying136, by kernel_rfl, rfl⟩
theorem bit_at : ∀ n : Nat, n < 32 → ∀ k, k < 5 → bits BinOp.and IntKind.i64 ((n : Int) / 2 ^ (4 - k)) 1 = ((n / 2 ^ (4 - k) % 2 : Nat) : Int) := by decide +kernel
theorem lett_take (n k : Nat) (hk : k < 5) : (lettV n).take (k + 1) = (lettV n).take k ++ [bitV n (4 - k)] := by
  match k, hk with
  | 0, _ => rfl
  | 1, _ => rfl
  | 2, _ => rfl
  | 3, _ => rfl
  | 4, _ => rfl
set_option maxRecDepth 100000 in
set_option maxHeartbeats 1000000 in
theorem letters_any (n : Nat) (w : World) (hn : n < 32) : Calls Tryz.prog 173 #[.int .i64 (n : Int)] w fun e w' => e = .returned (str (lettV n)) ∧ Below w.heap.size w w' := by
  go_enter Tryz.func173, Tryz.ntmps173
  go_wp2
  go_loopw [3, 4] (fun ov iv wl => ∃ k : Nat, k ≤ 5 ∧ iv = .int .i64 ((4 : Int) - (k : Int)) ∧ wl.ownsRow w.heap.size 5 1 ov k (((lettV n).take k).map byteV) ∧ Below w.heap.size w wl) (fun _ iv _ => (intOf iv + 1).toNat)
  case atStart => exact ⟨0, by omega, rfl, World.ownsRow_nil _ _ _ _, Below.refl _ _⟩
  case round =>
    obtain ⟨k, hk, rfl, hown, hb⟩ := hrel
    by_cases hlt : k < 5
    · have hge : (0 : Int) ≤ 4 - (k : Int) := by omega
      have hbit := bit_at n hn k hlt
      have HTK := Lib.hid (lett_take n k hlt)
      by_cases h1 : n / 2 ^ (4 - k) % 2 = 1
      · rw [h1] at hbit
        have HBV : Hid (bitV n (4 - k) = 120) := Lib.hid (by unfold bitV; rw [if_pos h1])
        have hbit1 : bits BinOp.and IntKind.i64 ((n : Int) / 2 ^ (4 - k)) 1 = 1 := hbit
        clear hbit h1
        go_wp2_with (
          at_builtin
          refine wpList_app _ rfl _ _ 136 rfl tyBytesP w.heap.size _ k (((lettV n).take k).map byteV) rfl (hown.alloc _) ⟨wr.heap.size, 0, none⟩ 1 1 [byteV 120] rfl rfl (news_one ?_) ?_ (by decide) ?_ ?_ ?_
          · rw [cell_of_heap (heap_alloc_here wr _)]; rfl
          · intro u hu; simp at hu; subst hu; rfl
          · omega
          · have := hb.size; simp; omega
          intro v5 w5 ho5 hg5 hloc5
          have b5 : Below w.heap.size w w5 := (hb.alloc hb.size _).grown hg5 (by have := hb.size; simp; omega) (fun k hk => (hown.lt k hk).1)
          have HO5 := Lib.hid ho5
          clear ho5 hg5 hloc5)
        go_roundw
        case rel => exact ⟨k + 1, by omega, by go_num, by rw [HTK.out, HBV.out, List.map_append]; exact HO5.out, b5⟩
        case measure => simp [intOf]; omega
      · have h0 : n / 2 ^ (4 - k) % 2 = 0 := by omega
        rw [h0] at hbit
        have HBV : Hid (bitV n (4 - k) = 10) := Lib.hid (by unfold bitV; rw [if_neg h1])
        have hbit1 : bits BinOp.and IntKind.i64 ((n : Int) / 2 ^ (4 - k)) 1 = 0 := hbit
        clear hbit h1 h0
        go_wp2_with (
          at_builtin
          refine wpList_app _ rfl _ _ 136 rfl tyBytesP w.heap.size _ k (((lettV n).take k).map byteV) rfl (hown.alloc _) ⟨wr.heap.size, 0, none⟩ 1 1 [byteV 10] rfl rfl (news_one ?_) ?_ (by decide) ?_ ?_ ?_
          · rw [cell_of_heap (heap_alloc_here wr _)]; rfl
          · intro u hu; simp at hu; subst hu; rfl
          · omega
          · have := hb.size; simp; omega
          intro v5 w5 ho5 hg5 hloc5
          have b5 : Below w.heap.size w w5 := (hb.alloc hb.size _).grown hg5 (by have := hb.size; simp; omega) (fun k hk => (hown.lt k hk).1)
          have HO5 := Lib.hid ho5
          clear ho5 hg5 hloc5)
        go_roundw
        case rel => exact ⟨k + 1, by omega, by go_num, by rw [HTK.out, HBV.out, List.map_append]; exact HO5.out, b5⟩
        case measure => simp [intOf]; omega
    · obtain rfl : k = 5 := by omega
      have hall : (lettV n).take 5 = lettV n := rfl
      rw [hall] at hown
      obtain ⟨g, cap, rfl⟩ := ownsRow_some hown (by omega)
      have hback := run_convert_bytes_back (P := Tryz.prog) wr 136 9 5 ⟨g, 0, none⟩ cap (lettV n) Tryz.underlying136 Tryz.underlying5 Tryz.underlying9 (fun j hj => by
        have h := hown.cellAt j (show j < 5 from hj)
        rw [List.getElem?_map, List.getElem?_eq_getElem hj] at h
        rw [addr_add rfl]
        show wr.cell? ⟨g, 0 + j, none⟩ = _
        rw [Nat.zero_add]
        exact h)
      have hback1 : (convert 136 9 (.slice (some ⟨g, 0, none⟩) 5 cap)).run Tryz.prog wr = .ok (str (lettV n)) wr := hback
      have hge : ((0 : Int) ≤ 4 - ((5 : Nat) : Int)) = False := eq_false (by omega)
      clear hback hown
      go_wp2
      go_ret
      exact ⟨rfl, hb⟩
end Go.Proofs.YtgjialbmlhbngaaGreatDoor

namespace Go.Proofs.YtgjialbmlhbngaaGreatDoor
open Go Go.RowKit Go.Kf Go.Sort Go.Proofs

set_option maxRecDepth 100000 in
set_option maxHeartbeats 4000000 in
theorem one_any {S : Nat → Addr} {w1 w : World} {Y : YPl} {vl lv : Value} {R : List RV} {a : PS} (v : Nat) (hv : v ≤ 9223372036854775807) (h : FSt w1.heap.size w1 Y vl R a.m a.mo a.c lv w) (hR : R.map Prod.fst = playL) (hE : Ml w1 ∧ BErr w1 S ∧ NErr w1 ∧ Tab w1) :
    Calls Tryz.prog 119 #[ptrV Y.yb, .int .i64 (v : Int)] w fun e w' => ∃ code b lv', e = .returned (codeV S code) ∧ code ≤ 12 ∧ PlayRel a v code b ∧ FSt w1.heap.size w1 Y vl R b.m b.mo b.c lv' w' ∧ YTurn Y vl R lv lv' w w' := by
  have hx : ∃ x : UInt8, fileV (v / 8) = [x] ∧ (∀ h, (⟨#[97, 98, 99]⟩ : ByteArray)[v / 8 % 3]'h = x) ∧ Utf8.encode (x.toNat : Int) = ⟨([x] : List UInt8).toArray⟩ := by
    have h3 : v / 8 % 3 = 0 ∨ v / 8 % 3 = 1 ∨ v / 8 % 3 = 2 := by omega
    refine ⟨UInt8.ofNat (97 + v / 8 % 3), rfl, fun h => ?_, ?_⟩
    · rcases h3 with e | e | e
      · simp only [e]; rfl
      · simp only [e]; rfl
      · simp only [e]; rfl
    · rcases h3 with e | e | e
      · rw [e]; decide +kernel
      · rw [e]; decide +kernel
      · rw [e]; decide +kernel
  obtain ⟨x, hfx, hidx, henc⟩ := hx
  have HFX := Lib.hid hfx
  have hi3 : 0 ≤ (v : Int) / 8 % 3 ∧ (v : Int) / 8 % 3 < 3 := by omega
  have HF := Lib.hid h
  have hR := Lib.hid hR
  have HE := Lib.hid hE
  have HEL := Lib.hid (fun wl (hb : Below w1.heap.size w1 wl) => (⟨hE.1.below hb (Nat.le_refl _), hE.2.1.below hb, hE.2.2.1.below hb (Nat.le_refl _), tab_below hE.2.2.2 hb (Nat.le_refl _)⟩ : Ml wl ∧ BErr wl S ∧ NErr wl ∧ Tab wl))
  clear h hE hfx
  obtain ⟨k, hk⟩ : ∃ k, v % 8 = k := ⟨_, rfl⟩
  have HK := Lib.hid hk
  have hk8 : k < 8 := by omega
  have hki : (v : Int) % 8 = (k : Int) := by omega
  clear hk
  by_cases h4 : k = 4
  · have c4 : ((v : Int) % 8 == 4) = true := by simp; omega
    have KT := Lib.hid (ytree_any w HF.out.yard)
    have KR := Lib.hid (remove_tree Y.tb Y.mb a.m [x] w S HF.out.yard.tree (HEL.out w HF.out.low).2.1.t)
    subst h4
    clear hki
    go_enter Tryz.func119, Tryz.ntmps119
    go_wp2_with fail
    refine KT.out.mono ?_
    rintro e w2 ⟨rfl, e2⟩
    have e3 := e2.symm
    subst e3
    clear e2
    go_wp2_with fail
    refine KR.out.mono ?_
    rintro e w4 ⟨rfl, hT, hf⟩
    have HN := Lib.hid (HF.out.tstep hT hf (HF.out.good.del [x]))
    have HT := Lib.hid (YTurn.tree (vl := vl) (R := R) (lv := lv) hf)
    clear hT hf
    go_wp2
    go_ret
    exact ⟨removeC [x] a.m, { a with m := mdel [x] a.m }, lv, rfl, by unfold removeC; split <;> omega, by rw [← HFX.out]; exact .rem HK.out, HN.out, HT.out⟩
  have c4 : ((v : Int) % 8 == 4) = false := by simp; omega
  by_cases h5 : k = 5
  · have c5 : ((v : Int) % 8 == 5) = true := by simp; omega
    subst h5
    clear hki
    go_enter Tryz.func119, Tryz.ntmps119
    have KM := Lib.hid (pmake_any (S := S) HF.out hR.out HE.out [] (.slice none 0 0) ⟨none, 0, rfl, by simp, fun i u h => by cases h⟩ (by simp) (fun s hs => by cases hs))
    go_wp2_with fail
    refine KM.out.mono ?_
    rintro e w8 ⟨n, mo', c', lv', rfl, hrel, hf8, ht8⟩
    obtain ⟨W9, hW9⟩ : ∃ W, w8.alloc (.cells #[.int .i64 (n 0 : Nat), .int .i64 (n 1 : Nat), .int .i64 (n 2 : Nat), .int .i64 (n 3 : Nat)] 45) = W := ⟨_, rfl⟩
    have HF9 := Lib.hid (hf8.below (hW9 ▸ (Below.refl _ w8).alloc (Nat.le_refl _) _))
    have HT9 := Lib.hid (YTurn.trans ht8 (YTurn.of_below (hW9 ▸ (Below.refl _ w8).alloc (Nat.le_refl _) _)))
    have HREL := Lib.hid hrel
    have HW9 := Lib.hid hW9
    clear hrel hf8 hW9 ht8
    go_wp2
    go_ret
    refine ⟨0, ⟨a.m, mo', c'⟩, lv', rfl, by omega, .make (by have := HK.out; omega) (by rw [HK.out]; exact HREL.out), ?_⟩
    have h9 := HF9.out
    have t9 := HT9.out
    rw [← HW9.out] at h9 t9
    exact ⟨h9, t9⟩
  have c5 : ((v : Int) % 8 == 5) = false := by simp; omega
  by_cases h6 : k = 6
  · have c6 : ((v : Int) % 8 == 6) = true := by simp; omega
    have KS := Lib.hid (psheet_any w)
    subst h6
    clear hki
    go_enter Tryz.func119, Tryz.ntmps119
    go_wp2_with fail
    refine KS.out.mono ?_
    rintro e w2 ⟨vs, Rs, rfl, hRs, hos, hb2⟩
    have hrul := hos.rules.1.1
    obtain ⟨asl, csl, hvs, -, -⟩ := id hrul
    have hRl : Rs.length = 6 := by have := congrArg List.length hRs; rw [List.length_map] at this; exact this
    rw [List.length_map, hRl] at hvs
    subst hvs
    have hq6 : v / 8 % 6 < 6 := by omega
    obtain ⟨b, o, hix, -, hce⟩ := hrul.at (P := Tryz.prog) Tryz.underlying22 (by kernel_rfl) (v / 8 % 6) (by rw [List.length_map, hRl]; exact hq6)
    simp only [List.getElem_map] at hce
    have hc0 := hce 0 _ rfl
    have hro : Rs[v / 8 % 6].1.out = (playL.getD (v / 8 % 6) noR).out := by
      rw [getD_at (show v / 8 % 6 < playL.length from hq6)]
      have h1 : (Rs.map Prod.fst)[v / 8 % 6]'(by rw [List.length_map, hRl]; exact hq6) = playL[v / 8 % 6]'(show v / 8 % 6 < playL.length from hq6) := by simp only [hRs]
      rw [List.getElem_map] at h1
      rw [h1]
    simp only [Nat.add_zero, hro] at hc0
    have HOV : Hid (outsV 6 (v / 8) = [(playL.getD (v / 8 % 6) noR).out]) := Lib.hid (by unfold outsV; rw [if_pos rfl])
    have hcast : (v : Int) / 8 % 6 = ((v / 8 % 6 : Nat) : Int) := by omega
    clear hce hro hq6
    generalize (playL.getD (v / 8 % 6) noR).out = so at *
    generalize v / 8 % 6 = j at *
    have HF2 := Lib.hid (HF.out.below hb2)
    obtain ⟨W3, hW3⟩ : ∃ W, w2.alloc (.cells #[str so] 9) = W := ⟨_, rfl⟩
    have hA3 : Below w2.heap.size w2 W3 := hW3 ▸ (Below.refl _ w2).alloc (Nat.le_refl _) _
    have HF3 := Lib.hid (HF2.out.below hA3)
    have HB3 := Lib.hid (hb2.trans (hA3.mono hb2.size))
    have HR3 : Hid (Reads W3 (.slice (some ⟨w2.heap.size, 0, none⟩) 1 1) ([so].map str)) := Lib.hid (ownsRow_reads (row_made (B := 0) (s := 1) (e := 9) (hW3 ▸ heap_alloc_here w2 _) rfl (by omega) (Nat.zero_le _)))
    have HW3 := Lib.hid hW3
    clear hRs hos hb2 hrul hA3 hW3 KS
    have KM := Lib.hid (pmake_any (S := S) HF3.out hR.out HE.out [so] (.slice (some ⟨w2.heap.size, 0, none⟩) 1 1) HR3.out (by simp) (by rw [← HOV.out]; exact outsV_in _ _))
    go_wp2_with fail
    rw [HW3.out]
    refine KM.out.mono ?_
    rintro e w8 ⟨n, mo', c', lv', rfl, hrel, hf8, ht8⟩
    obtain ⟨W9, hW9⟩ : ∃ W, w8.alloc (.cells #[.int .i64 (n 0 : Nat), .int .i64 (n 1 : Nat), .int .i64 (n 2 : Nat), .int .i64 (n 3 : Nat)] 45) = W := ⟨_, rfl⟩
    have HF9 := Lib.hid (hf8.below (hW9 ▸ (Below.refl _ w8).alloc (Nat.le_refl _) _))
    have HT9 := Lib.hid (YTurn.trans (YTurn.of_below HB3.out) (YTurn.trans ht8 (YTurn.of_below (hW9 ▸ (Below.refl _ w8).alloc (Nat.le_refl _) _))))
    have HREL := Lib.hid hrel
    have HW9 := Lib.hid hW9
    clear hrel hf8 hW9 ht8
    go_wp2
    go_ret
    refine ⟨0, ⟨a.m, mo', c'⟩, lv', rfl, by omega, .make (by have := HK.out; omega) (by rw [HK.out, HOV.out]; exact HREL.out), ?_⟩
    have h9 := HF9.out
    have t9 := HT9.out
    rw [← HW9.out] at h9 t9
    exact ⟨h9, t9⟩
  have c6 : ((v : Int) % 8 == 6) = false := by simp; omega
  by_cases h7 : k = 7
  · have c7 : ((v : Int) % 8 == 7) = true := by simp; omega
    obtain ⟨W3, hW3⟩ : ∃ W, w.alloc (.cells #[str [104, 100], str [99, 110, 116]] 9) = W := ⟨_, rfl⟩
    have hA3 : Below w.heap.size w W3 := hW3 ▸ (Below.refl _ w).alloc (Nat.le_refl _) _
    have HF3 := Lib.hid (HF.out.below hA3)
    have HB3 := Lib.hid hA3
    have HR3 : Hid (Reads W3 (.slice (some ⟨w.heap.size, 0, none⟩) 2 2) ([[104, 100], [99, 110, 116]].map str)) := Lib.hid (ownsRow_reads (row_made (B := 0) (s := 1) (e := 9) (hW3 ▸ heap_alloc_here w _) rfl (by omega) (Nat.zero_le _)))
    have HW3 := Lib.hid hW3
    subst h7
    clear hki hA3 hW3
    go_enter Tryz.func119, Tryz.ntmps119
    have KM := Lib.hid (pmake_any (S := S) HF3.out hR.out HE.out [[104, 100], [99, 110, 116]] (.slice (some ⟨w.heap.size, 0, none⟩) 2 2) HR3.out (by simp) (outsV_in 7 0))
    go_wp2_with fail
    rw [HW3.out]
    refine KM.out.mono ?_
    rintro e w8 ⟨n, mo', c', lv', rfl, hrel, hf8, ht8⟩
    obtain ⟨W9, hW9⟩ : ∃ W, w8.alloc (.cells #[.int .i64 (n 0 : Nat), .int .i64 (n 1 : Nat), .int .i64 (n 2 : Nat), .int .i64 (n 3 : Nat)] 45) = W := ⟨_, rfl⟩
    have HF9 := Lib.hid (hf8.below (hW9 ▸ (Below.refl _ w8).alloc (Nat.le_refl _) _))
    have HT9 := Lib.hid (YTurn.trans (YTurn.of_below HB3.out) (YTurn.trans ht8 (YTurn.of_below (hW9 ▸ (Below.refl _ w8).alloc (Nat.le_refl _) _))))
    have HREL := Lib.hid hrel
    have HW9 := Lib.hid hW9
    clear hrel hf8 hW9 ht8
    go_wp2
    go_ret
    refine ⟨0, ⟨a.m, mo', c'⟩, lv', rfl, by omega, .make (by have := HK.out; omega) (by rw [HK.out]; exact HREL.out), ?_⟩
    have h9 := HF9.out
    have t9 := HT9.out
    rw [← HW9.out] at h9 t9
    exact ⟨h9, t9⟩
  have c7 : ((v : Int) % 8 == 7) = false := by simp; omega
  have KT := Lib.hid (ytree_any w HF.out.yard)
  have KL := Lib.hid (letters_any (v / 8 / 3 % 32) w (Nat.mod_lt _ (by decide)))
  have hcast : (v : Int) / 8 / 3 % 32 = ((v / 8 / 3 % 32 : Nat) : Int) := by omega
  have HLT : Hid (lettV (v / 8 / 3 % 32) = lettV (v / 8 / 3 % 32)) := Lib.hid rfl
  clear hki
  generalize hlv : lettV (v / 8 / 3 % 32) = lt at *
  have HLV := Lib.hid hlv
  generalize v / 8 / 3 % 32 = nn at hcast KL
  clear hlv
  go_enter Tryz.func119, Tryz.ntmps119
  go_wp2_with fail
  refine KT.out.mono ?_
  rintro e w2 ⟨rfl, e2⟩
  have e3 := e2.symm
  subst e3
  clear e2
  go_wp2_with fail
  refine KL.out.mono ?_
  rintro e w4 ⟨rfl, hb4⟩
  have HF4 := Lib.hid (HF.out.below hb4)
  have HB4 := Lib.hid hb4
  have KP := Lib.hid (put_tree Y.tb Y.mb a.m [x] lt w4 S HF4.out.yard.tree (HEL.out w4 HF4.out.low).1 (HEL.out w4 HF4.out.low).2.1.t (by simp) (by have := HF4.out.good.len; omega) (fun y hy => by have := HF4.out.good.klen y hy; omega))
  clear hb4
  go_wp2_with fail
  refine KP.out.mono ?_
  rintro e w5 ⟨rfl, hT, hf⟩
  have HN := Lib.hid (HF4.out.tstep hT hf (HF4.out.good.put [x] lt))
  have HT := Lib.hid (YTurn.trans (YTurn.of_below (Y := Y) (vl := vl) (R := R) (lv := lv) HB4.out) (YTurn.tree hf))
  clear hT hf
  go_wp2
  go_ret
  exact ⟨putC [x] lt a.m, { a with m := putM [x] lt a.m }, lv, rfl, by unfold putC; repeat (split <;> try omega), by rw [← HFX.out, ← HLV.out]; exact .put (by have := HK.out; omega), HN.out, HT.out⟩
end Go.Proofs.YtgjialbmlhbngaaGreatDoor

namespace Go.Proofs.YtgjialbmlhbngaaGreatDoor
open Go Go.RowKit Go.Kf Go.Sort Go.Proofs

theorem pcode_any {S : Nat → Addr} (c : Nat) (hc : c ≤ 12) (w : World) (hS : ErrW w S) : Calls Tryz.prog 86 #[codeV S c] w fun e w' => e = .returned (.tuple #[.int .i64 (c : Int), .int .i64 (-1)]) ∧ Below w.heap.size w w' := by
  cases c with
  | zero => exact (code_nil w).mono fun e w' ⟨h1, h2⟩ => ⟨h1, by rw [h2]; exact Below.refl _ _⟩
  | succ c => exact code_at w S hS c (by omega)
theorem YTurn.reads {Y : YPl} {vl lv lv' : Value} {R : List RV} {w w' : World} {v : Value} {xs : List Value} (h : YTurn Y vl R lv lv' w w') (hr : Reads w v xs) (hl : ∀ k, v.ownBlock = some k → k < w.heap.size) (ha : ∀ i q, ysec Y lv vl R i q → v.ownBlock ≠ some q) :
    Reads w' v xs ∧ (∀ k, v.ownBlock = some k → k < w'.heap.size) ∧ ∀ i q, ysec Y lv' vl R i q → v.ownBlock ≠ some q :=
  ⟨hr.fr h.1 (fun k hk => ⟨hl k hk, fun ⟨i, e⟩ => ha i k e hk⟩), fun k hk => Nat.lt_of_lt_of_le (hl k hk) h.1.size, fun i q hq e => by
    rcases h.2 i q hq with h1 | h1
    · exact ha i q h1 e
    · have := hl q e; omega⟩

/-- A list that grows beside a yard. -/
theorem app_step {w1 w w4 w6 : World} {Y : YPl} {vl lv lv2 u v6 vs : Value} {R : List RV} {m mo : List Ent} {c : CS} {e : TypeId} {z n : Nat} {xs ys : List Value} {ob : Obj} (hst : FSt w1.heap.size w1 Y vl R m mo c lv2 w4) (ht : YTurn Y vl R lv lv2 w w4) (ho : w4.ownsRow w.heap.size e z u n xs) (hof : ∀ i q, ysec Y lv2 vl R i q → u.ownBlock ≠ some q) (hw1 : w1.heap.size ≤ w.heap.size)
    (hg : (w4.alloc ob).grownBy w6 u.ownBlock) (hloc : v6.ownBlock = u.ownBlock ∨ v6.ownBlock = some (w4.alloc ob).heap.size) (hv : Reads w4 vs ys) (hvl : ∀ k, vs.ownBlock = some k → k < w.heap.size) :
    FSt w1.heap.size w1 Y vl R m mo c lv2 w6 ∧ YTurn Y vl R lv lv2 w w6 ∧ (∀ i q, ysec Y lv2 vl R i q → v6.ownBlock ≠ some q) ∧ Reads w6 vs ys := by
  have hA : Below w4.heap.size w4 (w4.alloc ob) := (Below.refl _ w4).alloc (Nat.le_refl _) _
  have hst' := hst.below hA
  have hgf := Fr.of_grown hg
  have hz : (w4.alloc ob).heap.size = w4.heap.size + 1 := by simp
  have hwz := ht.1.size
  refine ⟨⟨hst'.yard.fr hgf (fun i q hq e => hof i q hq e), hst'.good, hst'.outs, hst'.cok, hst'.room, hst'.low.trans ((hgf.mono hst'.low.size (fun _ _ h => h)).below (fun k hk e => by have := (ho.lt k e).1; omega))⟩,
    ⟨(ht.1.trans ((Fr.of_below hA).mono hwz (fun _ _ h => h))).trans (hgf.mono (by omega) (fun q hq e => by have := (ho.lt q e).1; omega)), ht.2⟩, fun i q hq e => ?_, (hv.fr (Fr.of_below (S := fun _ => False) hA) (fun k hk => ⟨by have := hvl k hk; omega, id⟩)).fr hgf (fun k hk => ⟨by have := hvl k hk; omega, fun e => by have := (ho.lt k e).1; have := hvl k hk; omega⟩)⟩
  rcases hloc with h | h
  · rw [h] at e; exact hof i q hq e
  · rw [h] at e
    have h1 := Option.some.inj e
    have := hst.yard.lt i q hq
    omega

set_option maxRecDepth 100000 in
set_option maxHeartbeats 4000000 in
theorem prun_any {S : Nat → Addr} {w1 w : World} {Y : YPl} {vl lv : Value} {R : List RV} {a : PS} (l : List Int) (vs : Value) (hl : Reads w vs (l.map num)) (hcap : Roomy vs) (hn : l.length ≤ 3000) (hb : ∀ z ∈ l, z ≤ 9223372036854775807) (hlt : ∀ k, vs.ownBlock = some k → k < w.heap.size) (hfar : ∀ i q, ysec Y lv vl R i q → vs.ownBlock ≠ some q)
    (h : FSt w1.heap.size w1 Y vl R a.m a.mo a.c lv w) (hR : R.map Prod.fst = playL) (hE : Ml w1 ∧ BErr w1 S ∧ NErr w1 ∧ Tab w1) (hS : ErrW w1 S) :
    Calls Tryz.prog 52 #[ptrV Y.yb, vs] w fun e w' => ∃ v r b lv', e = .returned v ∧ w'.ownsRow w.heap.size 3 1 v l.length (r.map num) ∧ (∀ i q, ysec Y lv' vl R i q → v.ownBlock ≠ some q) ∧ PlayAll a l r b ∧ FSt w1.heap.size w1 Y vl R b.m b.mo b.c lv' w' ∧ YTurn Y vl R lv lv' w w' := by
  obtain ⟨aa, ca, hv, hle, -⟩ := id hl
  rw [List.length_map] at hv hle
  subst hv
  have HL := Lib.hid ((⟨hl, hlt, hfar⟩ : Reads w (.slice aa l.length ca) (l.map num) ∧ (∀ k, (Value.slice aa l.length ca).ownBlock = some k → k < w.heap.size) ∧ ∀ i q, ysec Y lv vl R i q → (Value.slice aa l.length ca).ownBlock ≠ some q))
  have HF := Lib.hid h
  have HR := Lib.hid hR
  have HE := Lib.hid hE
  have HS := Lib.hid (fun wl (hb : Below w1.heap.size w1 wl) => hS.below hb (Nat.le_refl _))
  have HBD := Lib.hid hb
  have hca : l.length ≤ ca := hcap _ _ _ rfl
  have hca2 : (l.length : Int) ≤ (ca : Int) := by omega
  have HW1 := Lib.hid h.low.size
  have hmin : min (l.length : Int) 3000 = (l.length : Int) := by omega
  clear hl hlt hfar h hR hE hS hb hcap
  go_enter Tryz.func52, Tryz.ntmps52
  go_wp2_with fail
  go_loopw [5, 15] (fun ov iv wl => ∃ (i : Nat) (r : List Int) (b : PS) (lv2 : Value), i ≤ l.length ∧ iv = .int .i64 i ∧ r.length = i ∧ wl.ownsRow w.heap.size 3 1 ov i (r.map num) ∧ (∀ j q, ysec Y lv2 vl R j q → ov.ownBlock ≠ some q) ∧
    (Reads wl (.slice aa l.length ca) (l.map num) ∧ (∀ k, (Value.slice aa l.length ca).ownBlock = some k → k < wl.heap.size) ∧ ∀ i q, ysec Y lv2 vl R i q → (Value.slice aa l.length ca).ownBlock ≠ some q) ∧ PlayAll a (l.take i) r b ∧ FSt w1.heap.size w1 Y vl R b.m b.mo b.c lv2 wl ∧ YTurn Y vl R lv lv2 w wl) (fun _ iv _ => l.length - (intOf iv).toNat)
  case atStart => exact ⟨0, [], a, lv, by omega, rfl, rfl, World.ownsRow_nil _ _ _ _, fun _ _ _ e => (by cases e), HL.out, PlayAll.nil, HF.out, YTurn.of_below (Below.refl _ _)⟩
  case round =>
    obtain ⟨i, r, b, lv2, hi, rfl, hrl, hown, hof, hrd, hpl, hst, htn⟩ := hrel
    have HO := Lib.hid ((⟨hown, hof⟩ : wr.ownsRow w.heap.size 3 1 u5 i (r.map num) ∧ ∀ j q, ysec Y lv2 vl R j q → u5.ownBlock ≠ some q))
    have HRD := Lib.hid hrd
    have HP := Lib.hid hpl
    have HST := Lib.hid hst
    have HTN := Lib.hid htn
    have HRL := Lib.hid hrl
    have hzw := htn.1.size
    clear hown hof hpl hst htn hrl
    by_cases hlt : i < l.length
    · have hlc : ((i : Int) < (l.length : Int)) = True := eq_true (by omega)
      obtain ⟨bx, ox, hix, hce⟩ := hrd.1.at (P := Tryz.prog) Tryz.underlying53 (by kernel_rfl) i (by simpa using hlt)
      simp only [List.getElem_map] at hce
      have HTK : Hid (l.take (i + 1) = l.take i ++ [l[i]]) := Lib.hid (List.take_succ_eq_append_getElem hlt)
      have hzb := HBD.out _ (List.getElem_mem hlt)
      generalize l[i] = z at *
      clear hrd
      by_cases hz : 0 ≤ z
      · obtain ⟨v, rfl⟩ : ∃ v : Nat, z = v := ⟨z.toNat, by omega⟩
        have KO := Lib.hid (one_any (S := S) (a := b) v (by omega) HST.out HR.out HE.out)
        have hz0 : ((v : Int) ≥ 0) = True := eq_true (by omega)
        have hz1 : ((0 : Int) ≤ (v : Int)) = True := eq_true (by omega)
        go_wp2_with fail
        refine KO.out.mono ?_
        rintro e w3 ⟨code, d, lv3, rfl, hc12, hrel, hf3, ht3⟩
        have HF3 := Lib.hid hf3
        have HT3 := Lib.hid ht3
        have HREL := Lib.hid hrel
        have KC := Lib.hid (pcode_any code hc12 w3 (HS.out w3 hf3.low))
        clear hix hce hf3 ht3 hrel KO
        go_wp2_with fail
        refine KC.out.mono ?_
        rintro e w4 ⟨rfl, hb4⟩
        have HF4 := Lib.hid (HF3.out.below hb4)
        have HT4 := Lib.hid (HT3.out.trans (YTurn.of_below hb4))
        obtain ⟨hrow4, hfar4⟩ := HT4.out.row HO.out.1 HO.out.2
        have HO4 := Lib.hid hrow4
        have HFA4 := Lib.hid hfar4
        have HR4 := Lib.hid (HT4.out.reads HRD.out.1 HRD.out.2.1 HRD.out.2.2)
        have hz4 : w.heap.size ≤ w4.heap.size := Nat.le_trans hzw HT4.out.1.size
        clear hb4 hrow4 hfar4 KC
        go_wp2_with (first
          | (at_builtin
             refine wpList_app _ rfl _ _ 53 rfl tyInts w.heap.size _ _ _ rfl (HO4.out.alloc _) ⟨w4.heap.size, 0, none⟩ 1 1 [num (code : Int)] rfl rfl (news_one ?_) ?_ (by decide) ?_ ?_ ?_
             · rw [cell_of_heap (heap_alloc_here w4 _)]; rfl
             · intro u hu; simp at hu; subst hu; rfl
             · omega
             · simp; omega
             intro v6 w6 ho6 hg6 hloc6))
        obtain ⟨q1, q2, q3, q4⟩ := app_step HF4.out (HTN.out.trans HT4.out) HO4.out HFA4.out HW1.out hg6 hloc6 HR4.out.1 HL.out.2.1
        have HQ := Lib.hid ((⟨q1, q2, q3, q4⟩ : _ ∧ _ ∧ _ ∧ _))
        have HO6 := Lib.hid ho6
        clear ho6 hg6 hloc6 q1 q2 q3 q4
        go_roundw
        case rel => exact ⟨i + 1, r ++ [(code : Int)], d, lv3, by omega, by go_num, by rw [List.length_append, HRL.out]; rfl, by rw [List.map_append]; exact HO6.out, HQ.out.2.2.1, ⟨HQ.out.2.2.2, fun k hk => Nat.lt_of_lt_of_le (HL.out.2.1 k hk) HQ.out.2.1.1.size, HR4.out.2.2⟩, by rw [HTK.out]; exact .pos HP.out HREL.out, HQ.out.1, HQ.out.2.1⟩
        case measure => simp [intOf]; omega
      · have hz0 : (z ≥ 0) = False := eq_false (by omega)
        have hz1 : ((0 : Int) ≤ z) = False := eq_false (by omega)
        have HN : Hid (z < 0) := Lib.hid (by omega)
        go_wp2_with (first
          | (at_builtin
             refine wpList_app _ rfl _ _ 53 rfl tyInts w.heap.size _ _ _ rfl (HO.out.1.alloc _) ⟨wr.heap.size, 0, none⟩ 1 1 [num (-1 : Int)] rfl rfl (news_one ?_) ?_ (by decide) ?_ ?_ ?_
             · rw [cell_of_heap (heap_alloc_here wr _)]; rfl
             · intro u hu; simp at hu; subst hu; rfl
             · omega
             · simp; omega
             intro v6 w6 ho6 hg6 hloc6))
        obtain ⟨q1, q2, q3, q4⟩ := app_step HST.out HTN.out HO.out.1 HO.out.2 HW1.out hg6 hloc6 HRD.out.1 HL.out.2.1
        have HQ := Lib.hid ((⟨q1, q2, q3, q4⟩ : _ ∧ _ ∧ _ ∧ _))
        have HO6 := Lib.hid ho6
        clear ho6 hg6 hloc6 q1 q2 q3 q4
        go_roundw
        case rel => exact ⟨i + 1, r ++ [-1], b, lv2, by omega, by go_num, by rw [List.length_append, HRL.out]; rfl, by rw [List.map_append]; exact HO6.out, HQ.out.2.2.1, ⟨HQ.out.2.2.2, fun k hk => Nat.lt_of_lt_of_le (HL.out.2.1 k hk) HQ.out.2.1.1.size, HRD.out.2.2⟩, by rw [HTK.out]; exact .neg HN.out HP.out, HQ.out.1, HQ.out.2.1⟩
        case measure => simp [intOf]; omega
    · obtain rfl : i = l.length := by omega
      have hlc : ((l.length : Int) < (l.length : Int)) = False := eq_false (by omega)
      have hpl := HP.out
      rw [List.take_length] at hpl
      have HPL := Lib.hid hpl
      clear hpl hrd
      go_wp2
      go_ret
      exact ⟨_, r, b, lv2, rfl, HO.out.1, HO.out.2, HPL.out, HST.out, HTN.out⟩
end Go.Proofs.YtgjialbmlhbngaaGreatDoor

namespace Go.Proofs.YtgjialbmlhbngaaGreatDoor
open Go Go.RowKit Go.Kf Go.Sort Go.Proofs

theorem Good.layAll {l : List RuleL} {P : List Nat} {st : Nat → St} : ∀ (o : List Nat) (mo : List Ent), Good mo → Good (List.foldl (layOne l P st) mo o)
  | [], _, h => h
  | k :: o, _, h => Good.layAll o _ (by
    unfold layOne
    split
    · exact h.put _ _
    · split
      · exact h.del _
      · exact h)
theorem PlayRel.good {a b : PS} {v x : Nat} (h : PlayRel a v x b) (hg : Good a.mo) : Good b.mo := by
  cases h with
  | rem h => exact hg
  | make h hm =>
    obtain ⟨P, o, ks, js, ord, st', -, -, -, -, -, rfl, -⟩ := hm
    exact Good.layAll ord _ hg
  | put h => exact hg
theorem PlayAll.good {a b : PS} {l r : List Int} (h : PlayAll a l r b) (hg : Good a.mo) : Good b.mo := by
  induction h with
  | nil => exact hg
  | neg _ _ ih => exact ih
  | pos _ h ih => exact h.good ih
/-- A yard that begins. -/
abbrev PS.new : PS := ⟨[], [], ⟨8, [], []⟩⟩
theorem pst_new {w1 w w' : World} {Y : YPl} {vl lv : Value} {R : List RV} (hb1 : Below w1.heap.size w1 w) (h : YAt w.heap.size Y vl lv R [] [] ⟨8, [], []⟩ w') (hb : Below w.heap.size w w') (hR : R.map Prod.fst = playL) : FSt w1.heap.size w1 Y vl R PS.new.m PS.new.mo PS.new.c lv w' :=
  ⟨h.weaken hb1.size, Good.nil, OutsIn.nil _, fun c0 e => by cases e; exact ⟨CSt.zero (by decide) (by decide), CInv.zero _⟩, by rw [hR]; decide, hb1.trans (hb.mono hb1.size)⟩

set_option maxRecDepth 100000 in
theorem pnew_any {S : Nat → Addr} (w : World) (hE : Ml w ∧ BErr w S ∧ NErr w ∧ Tab w) :
    Calls Tryz.prog 51 #[] w fun e w' => ∃ Y vl lv R, e = .returned (ptrV Y.yb) ∧ R.map Prod.fst = playL ∧ YAt w.heap.size Y vl lv R [] [] ⟨8, [], []⟩ w' ∧ Below w.heap.size w w' := by
  have KN := Lib.hid (ynew_any 8 w (by omega) (by omega))
  have HE := Lib.hid hE
  clear hE
  go_enter Tryz.func51, Tryz.ntmps51
  go_wp2_with fail
  refine KN.out.mono ?_
  rintro e w2 ⟨Y, rfl, hY2, hb2⟩
  have HY2 := Lib.hid hY2
  have HB2 := Lib.hid hb2
  have KS := Lib.hid (psheet_any w2)
  clear hY2 hb2 KN
  go_wp2_with fail
  refine KS.out.mono ?_
  rintro e w3 ⟨v3, R3, rfl, he3, ho3, hb3⟩
  have HY3 := Lib.hid (HY2.out.below hb3)
  have HB3 := Lib.hid (HB2.out.trans (hb3.mono HB2.out.size))
  have hn3 : R3.length = 6 := by have := congrArg List.length he3; rw [List.length_map] at this; exact this
  have KR := Lib.hid (yrules_own (S := S) w3 HY3.out ho3 (HY2.out.lt 0 Y.yb rfl) (HE.out.1.below HB3.out (Nat.le_refl _)) (HE.out.2.1.below HB3.out).k (HE.out.2.2.1.below HB3.out (Nat.le_refl _)) (tab_below HE.out.2.2.2 HB3.out (Nat.le_refl _)) (fun x hx => playL_bnd x.1 (he3 ▸ List.mem_map.2 ⟨x, hx, rfl⟩)) (by omega))
  have HE3 := Lib.hid he3
  clear he3 ho3 hb3 KS hn3
  go_wp2_with fail
  refine KR.out.mono ?_
  rintro e w4 hans
  unfold YRulesAns at hans
  rw [HE3.out] at hans
  rcases hans with ⟨T, x, rfl, hbad | ⟨-, hno, -⟩, -⟩ | ⟨rfl, -, -, vlz, Rz, hez, hYz, -, hfz⟩
  · exact absurd playL_right hbad.wrong
  · obtain ⟨o', ho'⟩ := playL_ord
    rw [hno] at ho'
    cases ho'
  have HB4 : Hid (Below w.heap.size w w4) := Lib.hid (HB3.out.trans ((hfz.mono (S' := fun k => k = Y.yb) HB3.out.size (fun _ _ h => h)).below (fun k hk e => by have := HY2.out.low 0 Y.yb rfl; omega)))
  have HY4 := Lib.hid hYz
  clear hYz hfz KR
  go_wp2
  go_ret
  exact ⟨Y, vlz, _, Rz, rfl, hez, HY4.out, HB4.out⟩

/-- The sum of a yard. -/
def sumL (m mo : List Ent) : List UInt8 := (linesM mo (sortK mo) ++ [10]) ++ Lib.join (sortB (staleL playL (fun p => mlook p m) mo)) [32]
set_option maxRecDepth 100000 in
theorem joinNil_any (sep : List UInt8) (cap : Nat) (a : Option Addr) (w : World) : Calls Tryz.prog 120 #[.slice a 0 cap, str sep] w fun e w' => e = .returned (str []) ∧ Below w.heap.size w w' := by
  go_enter Tryz.func120, Tryz.ntmps120
  go_wp2
  go_ret
  exact ⟨rfl, Below.refl _ _⟩
theorem join_own {B : Nat} {v : Value} (sep : List UInt8) (xs : List (List UInt8)) (w : World) (h : w.ownsRow B 9 1 v xs.length (xs.map str)) (hn : xs.length ≤ 50) (hx : ∀ s ∈ xs, s.length ≤ 10000) (hs : sep.length ≤ 100) :
    Calls Tryz.prog 120 #[v, str sep] w fun e w' => e = .returned (str (Lib.join xs sep)) ∧ Below w.heap.size w w' := by
  by_cases h0 : xs.length = 0
  · obtain rfl := List.length_eq_zero_iff.1 h0
    obtain ⟨a, c, rfl, -, -⟩ := ownsRow_reads h
    exact joinNil_any sep c a w
  · obtain ⟨g, cap, rfl⟩ := ownsRow_some h (by omega)
    have hj := joinTop sep hx
    refine joinW_any sep g 0 xs.length cap xs w rfl (fun j s hj => ?_) (h.lt g rfl).2 ((ownsRow_roomy h) _ _ _ rfl) (Nat.le_trans hj (Nat.le_trans (Nat.mul_le_mul (Nat.add_le_add_left hs 10000) hn) (by decide))) (by omega)
    have hlt : j < xs.length := by
      rcases Nat.lt_or_ge j xs.length with h | h
      · exact h
      · rw [List.getElem?_eq_none h] at hj; cases hj
    have h1 := h.cellAt j (by omega)
    rw [List.getElem?_map, hj] at h1
    rw [Nat.zero_add]
    exact h1
set_option maxRecDepth 100000 in
set_option maxHeartbeats 2000000 in
theorem psum_any {S : Nat → Addr} {w1 w : World} {Y : YPl} {vl lv : Value} {R : List RV} {m mo : List Ent} {c : CS} (h : FSt w1.heap.size w1 Y vl R m mo c lv w) (hR : R.map Prod.fst = playL) (hE : Ml w1 ∧ BErr w1 S ∧ NErr w1 ∧ Tab w1) (hg : Good mo) :
    Calls Tryz.prog 53 #[ptrV Y.yb] w fun e w' => e = .returned (str (sumL m mo)) ∧ Below w.heap.size w w' := by
  have hml : mo.length ≤ 60 := hg.len
  have hmb : ∀ p, (mget mo p).length ≤ 2000 := fun p => by
    unfold mget
    cases hk : mlook p mo with
    | none => simp
    | some b => exact hg.byt p b hk
  have htl : (linesM mo (sortK mo)).length ≤ 12000 * 60 := by
    refine Nat.le_trans (linesM_len (fun p hp => ⟨?_, by have := hmb p; omega⟩)) (by rw [sortK_len]; omega)
    obtain ⟨x, hx, rfl⟩ := List.mem_map.1 ((sortK_perm mo).mem_iff.1 hp)
    have := hg.klen x hx
    omega
  have HEL := Lib.hid (fun wl (hb : Below w1.heap.size w1 wl) => (⟨hE.1.below hb (Nat.le_refl _), hE.2.1.below hb, hE.2.2.1.below hb (Nat.le_refl _), tab_below hE.2.2.2 hb (Nat.le_refl _)⟩ : Ml wl ∧ BErr wl S ∧ NErr wl ∧ Tab wl))
  have KO := Lib.hid (yout_any w h.yard)
  have KT := Lib.hid (text_tree Y.ob Y.om mo w h.yard.out (HEL.out w h.low).2.2.2 hg.nd (by omega) (fun x hx => by have := hg.klen x hx; omega) (fun p => by have := hmb p; omega))
  have KS := Lib.hid (fun wl (hb : Below w.heap.size w wl) => ystale_any (S := S) w1 wl (h.below hb).yard (by rw [hR]; exact penv hE h.good) (h.below hb).low (by rw [hR]; exact playL_right) (by rw [hR]; exact playL_ord))
  have HSL : Hid ((sortB (staleL playL (fun p => mlook p m) mo)).length ≤ 50 ∧ ∀ s ∈ sortB (staleL playL (fun p => mlook p m) mo), s.length ≤ 10000) := Lib.hid (by
    have hp := sortB_perm (staleL playL (fun p => mlook p m) mo)
    refine ⟨?_, fun s hs => ?_⟩
    · rw [hp.length_eq]
      exact Nat.le_trans (List.length_filter_le _ _) (by decide)
    · have h1 := (List.mem_filter.1 (hp.mem_iff.1 hs)).1
      obtain ⟨r, hr, rfl⟩ := List.mem_map.1 h1
      have := (playL_short r hr).1
      omega)
  rw [hR] at KS
  unfold sumL
  clear h hR hE hg hmb hml
  generalize sortB (staleL playL (fun p => mlook p m) mo) = sl at *
  generalize linesM mo (sortK mo) = tx at *
  obtain ⟨x1, hx1⟩ : ∃ x, tx ++ [10] = x := ⟨_, rfl⟩
  have e1 : (⟨tx.toArray⟩ : ByteArray) ++ (⟨#[10]⟩ : ByteArray) = ⟨x1.toArray⟩ := by rw [← hx1, show (⟨#[10]⟩ : ByteArray) = ⟨([10] : List UInt8).toArray⟩ from rfl, str_app]
  have hxl : x1.length ≤ 800000 := by rw [← hx1, List.length_append]; simp; omega
  have hb1 : ¬ 9223372036854775807 < tx.length + 1 := by omega
  rw [hx1]
  have hjl : (Lib.join sl [32]).length ≤ 1000000 := by
    have := joinTop [32] HSL.out.2
    have h50 := HSL.out.1
    exact Nat.le_trans this (Nat.le_trans (Nat.mul_le_mul_left _ h50) (by decide))
  obtain ⟨jl, hj⟩ : ∃ x, Lib.join sl [32] = x := ⟨_, rfl⟩
  have e2 : (⟨x1.toArray⟩ : ByteArray) ++ (⟨jl.toArray⟩ : ByteArray) = ⟨(x1 ++ jl).toArray⟩ := str_app _ _
  have HJ := Lib.hid hj
  rw [hj] at hjl ⊢
  have hb2 : ¬ 9223372036854775807 < x1.length + jl.length := by omega
  clear hx1 hj
  go_enter Tryz.func53, Tryz.ntmps53
  go_wp2_with fail
  refine KO.out.mono ?_
  rintro e w2 ⟨rfl, e2'⟩
  have e3 := e2'.symm
  subst e3
  clear e2'
  go_wp2_with fail
  refine KT.out.mono ?_
  rintro e w4 ⟨rfl, hb4⟩
  have HB4 := Lib.hid hb4
  clear hb4
  go_wp2_with fail
  refine (KS.out w4 HB4.out).mono ?_
  rintro e w5 ⟨u, rfl, hown, hb5⟩
  have HB5 := Lib.hid (HB4.out.trans (hb5.mono HB4.out.size))
  have KJ := Lib.hid (join_own [32] sl w5 hown HSL.out.1 HSL.out.2 (by decide))
  rw [HJ.out] at KJ
  clear hown hb5
  go_wp2_with fail
  refine KJ.out.mono ?_
  rintro e w6 ⟨rfl, hb6⟩
  have HB6 := Lib.hid (HB5.out.trans (hb6.mono HB5.out.size))
  clear hb6
  go_wp2
  go_ret
  exact ⟨rfl, HB6.out⟩
end Go.Proofs.YtgjialbmlhbngaaGreatDoor

namespace Go.Proofs.YtgjialbmlhbngaaGreatDoor
open Go Go.RowKit Go.Kf Go.Sort Go.Proofs

theorem PlayAll.back {a b : PS} {l : List Int} {v : Int} {r : List Int} (h : PlayAll a (l ++ [v]) r b) : (v < 0 ∧ ∃ r', r = r' ++ [-1] ∧ PlayAll a l r' b) ∨ ∃ (n x : Nat) (r' : List Int) (c : PS), v = n ∧ r = r' ++ [(x : Int)] ∧ PlayAll a l r' c ∧ PlayRel c n x b := by
  generalize hl : l ++ [v] = l2 at h
  cases h with
  | nil => simp at hl
  | neg hv h3 =>
    obtain ⟨rfl, rfl⟩ := snoc_inj hl
    exact Or.inl ⟨hv, _, rfl, h3⟩
  | pos h3 h4 =>
    obtain ⟨rfl, rfl⟩ := snoc_inj hl
    exact Or.inr ⟨_, _, _, _, rfl, rfl, h3, h4⟩
theorem PlayAll.begin {a b : PS} {r : List Int} (h : PlayAll a [] r b) : r = [] ∧ b = a := by
  generalize hl : ([] : List Int) = l at h
  cases h with
  | nil => exact ⟨rfl, rfl⟩
  | neg _ _ => simp at hl
  | pos _ _ => simp at hl
theorem play_three {r : List Int} {b : PS} (h : PlayAll PS.new [0, -1, 5] r b) : r = [0, -1, 0] := by
  rw [show ([0, -1, 5] : List Int) = ([0, -1] ++ [5]) from rfl] at h
  rcases h.back with ⟨h5, -⟩ | ⟨n, x, r1, c, hn, rfl, h1, hr⟩
  · omega
  obtain rfl : n = 5 := by omega
  have hx : x = 0 := by
    cases hr with
    | rem h => omega
    | make _ _ => rfl
    | put h => omega
  subst hx
  rw [show ([0, -1] : List Int) = ([0] ++ [-1]) from rfl] at h1
  rcases h1.back with ⟨-, r2, rfl, h2⟩ | ⟨n, x, r2, c2, hn, -⟩
  case inr => omega
  rw [show ([0] : List Int) = ([] ++ [0]) from rfl] at h2
  rcases h2.back with ⟨h5, -⟩ | ⟨n, x, r3, c3, hn, rfl, h3, hr3⟩
  · omega
  obtain rfl : n = 0 := by omega
  obtain ⟨rfl, rfl⟩ := h3.begin
  have hx : x = 0 := by
    cases hr3 with
    | rem h => omega
    | make h _ => omega
    | put h => decide +kernel
  subst hx
  rfl

set_option maxRecDepth 100000 in
set_option maxHeartbeats 2000000 in
theorem played_any {S : Nat → Addr} (w : World) (hE : Ml w ∧ BErr w S ∧ NErr w ∧ Tab w) (hS : ErrW w S) :
    Calls Tryz.prog 50 #[] w fun e w' => e = .returned (.bool true) ∧ Below w.heap.size w w' := by
  have KN := Lib.hid (pnew_any (S := S) w hE)
  have HE := Lib.hid hE
  have HS := Lib.hid hS
  clear hE hS
  go_enter Tryz.func50, Tryz.ntmps50
  go_wp2_with fail
  refine KN.out.mono ?_
  rintro e w1 ⟨Y, vl, lv, R, rfl, hR, hY, hb1⟩
  obtain ⟨W2, hW2⟩ : ∃ W, w1.alloc (.cells #[num 0, num (-1), num 5] 3) = W := ⟨_, rfl⟩
  have hA2 : Below w1.heap.size w1 W2 := hW2 ▸ (Below.refl _ w1).alloc (Nat.le_refl _) _
  have hF1 := pst_new (Below.refl _ w) hY hb1 hR
  have hrow2 : W2.ownsRow w1.heap.size 3 1 (.slice (some ⟨w1.heap.size, 0, none⟩) 3 3) 3 (([0, -1, 5] : List Int).map num) := row_made (hW2 ▸ heap_alloc_here w1 _) rfl (by omega) (Nat.le_refl _)
  have hfar2 : ∀ i q, ysec Y lv vl R i q → (Value.slice (some ⟨w1.heap.size, 0, none⟩) 3 3).ownBlock ≠ some q := fun i q hq e => by
    have h1 := hY.lt i q hq
    have h2 := Option.some.inj e
    have h3 : w1.heap.size = q := h2
    omega
  have KR := Lib.hid (prun_any (S := S) (a := PS.new) [0, -1, 5] (.slice (some ⟨w1.heap.size, 0, none⟩) 3 3) (ownsRow_reads hrow2) (ownsRow_roomy hrow2) (by decide) (by decide) (fun k hk => (hrow2.lt k hk).2) hfar2 (hF1.below hA2) hR HE.out HS.out)
  have HB2 := Lib.hid (hb1.trans (hA2.mono hb1.size))
  have HW2 := Lib.hid hW2
  clear hY hb1 hW2 hA2 hF1 hrow2 hfar2 KN
  go_wp2_with fail
  rw [HW2.out]
  refine KR.out.mono ?_
  rintro e w3 ⟨v3, r, b, lv3, rfl, hown, -, hpl, hf3, ht3⟩
  have hr := play_three hpl
  subst hr
  have hz := HB2.out.size
  have hb3 : Below w.heap.size w w3 := hf3.low
  obtain ⟨W4, hW4⟩ : ∃ W, w3.alloc (.cells #[num 0, num (-1), num 0] 3) = W := ⟨_, rfl⟩
  have hA4 : Below w3.heap.size w3 W4 := hW4 ▸ (Below.refl _ w3).alloc (Nat.le_refl _) _
  have hrow4 : W4.ownsRow w3.heap.size 3 1 (.slice (some ⟨w3.heap.size, 0, none⟩) 3 3) 3 (([0, -1, 0] : List Int).map num) := row_made (hW4 ▸ heap_alloc_here w3 _) rfl (by omega) (Nat.le_refl _)
  have hrow34 := row_below hown hA4
  have KSI := Lib.hid (sameInts v3 (.slice (some ⟨w3.heap.size, 0, none⟩) 3 3) [0, -1, 0] [0, -1, 0] W4 (ownsRow_reads hrow34) (ownsRow_reads hrow4) (fun k hk => (hrow34.lt k hk).2) (fun k hk => (hrow4.lt k hk).2))
  rw [beq_self_eq_true] at KSI
  have HB4 := Lib.hid (hb3.trans (hA4.mono hb3.size))
  have HW4 := Lib.hid hW4
  obtain ⟨a3, c3, hv3, -, -⟩ := id (ownsRow_reads hown)
  subst hv3
  clear hown hpl hf3 ht3 hb3 hW4 hA4 hrow4 hrow34 KR
  go_wp2_with fail
  rw [HW4.out]
  refine KSI.out.mono ?_
  rintro e w5 ⟨rfl, hb5⟩
  have HB5 := Lib.hid (HB4.out.trans (hb5.mono HB4.out.size))
  have KP := Lib.hid (psheet_any w5)
  clear hb5 KSI
  go_wp2_with fail
  refine KP.out.mono ?_
  rintro e w6 ⟨v6, R6, rfl, he6, ho6, hb6⟩
  have HB6 := Lib.hid (HB5.out.trans (hb6.mono HB5.out.size))
  have HO6 := Lib.hid ho6
  have KQ := Lib.hid (rsheet_any w6)
  clear hb6 ho6 KP
  go_wp2_with fail
  refine KQ.out.mono ?_
  rintro e w7 ⟨v7, R7, rfl, he7, ho7, hb7⟩
  have HB7 := Lib.hid (HB6.out.trans (hb7.mono HB6.out.size))
  have KS := Lib.hid (sameRules_any R6 R7 v6 v7 w7 (HO6.out.fr hb7) ho7 (he6.trans he7.symm) (by have := congrArg List.length he6; rw [List.length_map] at this; rw [this]; decide))
  clear hb7 ho7 KQ he6 he7
  go_wp2_with fail
  refine KS.out.mono ?_
  rintro e w8 ⟨rfl, hb8⟩
  have HB8 := Lib.hid (HB7.out.trans (hb8.mono HB7.out.size))
  clear hb8
  go_wp2
  go_ret
  exact ⟨rfl, HB8.out⟩
end Go.Proofs.YtgjialbmlhbngaaGreatDoor

namespace Go.Proofs.YtgjialbmlhbngaaGreatDoor
open Go Go.RowKit Go.Kf Go.Sort Go.Proofs

theorem far_row {w : World} {Y : YPl} {vl lv v : Value} {R : List RV} {m mo : List Ent} {c : CS} {B N n z : Nat} {e : TypeId} {xs : List Value} {wl : World} (h : YAt B Y vl lv R m mo c w) (hr : wl.ownsRow N e z v n xs) (hN : w.heap.size ≤ N) : ∀ i q, ysec Y lv vl R i q → v.ownBlock ≠ some q := fun i q hq e => by
  have h1 := h.lt i q hq
  have h2 := (hr.lt q e).1
  omega
set_option maxRecDepth 100000 in
set_option maxHeartbeats 4000000 in
theorem playAgain_all (l : List Int) (v : Value) (w : World) (S : Nat → Addr) (hl : Reads w v (l.map num)) (hc : Roomy v) (hvn : NilOr v) (hz : ∀ z ∈ l, -9223372036854775808 ≤ z ∧ z ≤ 9223372036854775807) (hm : Ml w) (hS : ErrW w S) (hN : NErr w) (ht : Tab w) :
    Calls Tryz.prog 6 #[v] w fun e w' => e = .returned (.bool true) ∧ Below w.heap.size w w' := by
  have hE : Ml w ∧ BErr w S ∧ NErr w ∧ Tab w := ⟨hm, bErr_of_errW hS, hN, ht⟩
  obtain ⟨a1, c1, hv, hle, -⟩ := id hl
  rw [List.length_map] at hv hle
  subst hv
  have KW := Lib.hid (played_any w hE hS)
  have KN := Lib.hid (fun wl (hb : Below w.heap.size w wl) => pnew_any (S := S) wl ⟨hE.1.below hb (Nat.le_refl _), hE.2.1.below hb, hE.2.2.1.below hb (Nat.le_refl _), tab_below hE.2.2.2 hb (Nat.le_refl _)⟩)
  have HE := Lib.hid hE
  have HS := Lib.hid hS
  have HL := Lib.hid (fun wl (hb : Below w.heap.size w wl) => hl.below0 hb)
  have HZ := Lib.hid (fun z hz' => (hz z hz').2)
  have HNP : Hid (a1 = none → l = [] ∧ c1 = 0) := Lib.hid (fun e => by
    subst e
    rcases hvn with h | ⟨a, n, c, h⟩
    · simp only [Value.slice.injEq] at h
      exact ⟨List.length_eq_zero_iff.1 h.2.1, h.2.2⟩
    · cases h)
  obtain ⟨i0, hi0, -, -, -⟩ := info_parts tyInts.info
  clear hl hc hvn hz hm hS hN ht hE
  go_enter Tryz.func6, Tryz.ntmps6
  go_wp2_with fail
  refine KW.out.mono ?_
  rintro e w1 ⟨rfl, hb1⟩
  have HB1 := Lib.hid hb1
  clear hb1
  by_cases h100 : 100 < l.length
  · have hc1 : ((l.length : Int) > 100) = True := eq_true (by omega)
    have hc2 : (100 < (l.length : Int)) = True := eq_true (by omega)
    go_wp2
    go_ret
    exact ⟨rfl, HB1.out⟩
  have hc1 : ((l.length : Int) > 100) = False := eq_false (by omega)
  have hc2 : (100 < (l.length : Int)) = False := eq_false (by omega)
  have KA := Lib.hid (KN.out w1 HB1.out)
  go_wp2_with fail
  refine KA.out.mono ?_
  rintro e w2 ⟨Ya, va, la, Ra, rfl, hRa, hYa, hb2⟩
  have HA2 := Lib.hid (pst_new HB1.out hYa hb2 hRa)
  have HYA := Lib.hid hYa
  have HB2 := Lib.hid (HB1.out.trans (hb2.mono HB1.out.size))
  have KB := Lib.hid (KN.out w2 HB2.out)
  clear hYa hb2 KA
  go_wp2_with fail
  refine KB.out.mono ?_
  rintro e w3 ⟨Yb, vb, lb, Rb, rfl, hRb, hYb, hb3⟩
  have HB3 := Lib.hid (HB2.out.trans (hb3.mono HB2.out.size))
  have HB03 := Lib.hid (pst_new HB2.out hYb hb3 hRb)
  have HA3 := Lib.hid (HA2.out.below hb3)
  have HAB : Hid (∀ i j q, ysec Ya la va Ra i q → ysec Yb lb vb Rb j q → False) := Lib.hid (fun i j q hi hj => by
    have h1 := HYA.out.lt i q hi
    have h2 := hYb.low j q hj
    omega)
  have HRA := Lib.hid hRa
  have HRB := Lib.hid hRb
  have hz3 := HB3.out.size
  clear hYb hb3 hRa hRb KB
  cases a1 with
  | none =>
    obtain ⟨hp0, hc0⟩ := HNP.out rfl
    subst hc0
    subst hp0
    have HVX : Hid (w3.ownsRow w3.heap.size 3 1 (.slice none 0 0) ([] : List Int).length (([] : List Int).map num)) := Lib.hid (World.ownsRow_nil _ _ _ _)
    have HBX : Hid (Below w3.heap.size w3 w3) := Lib.hid (Below.refl _ _)
    go_wp2_with (first
      | (at_builtin
         refine wpList_append_own_none rfl (.tmp 28) (.tmp 29) 53 rfl 0 3 i0 1 Tryz.underlying53 hi0 _ 0 [] rfl (World.ownsRow_nil _ _ _ _) rfl ?_))
    have HAX := Lib.hid (HA3.out.below HBX.out)
    have HBX0 := Lib.hid (HB03.out.below HBX.out)
    have KRA := Lib.hid (prun_any (S := S) (a := PS.new) [] _ (ownsRow_reads HVX.out) (ownsRow_roomy HVX.out) (by decide) (fun z h => by cases h) (fun k hk => (HVX.out.lt k hk).2) (far_row HA3.out.yard HVX.out (Nat.le_refl _)) HAX.out HRA.out HE.out HS.out)
    refine KRA.out.mono ?_
    rintro e w5 ⟨v5, r5, b5, la5, rfl, hown5, hfar5, hpl5, hf5, ht5⟩
    obtain ⟨hbb5, hab5⟩ := HBX0.out.other HAX.out (fun i j q hi hj => HAB.out j i q hj hi) ht5
    have HA5 := Lib.hid hf5
    have HB5 := Lib.hid hbb5
    have HAB5 := Lib.hid hab5
    have HV5 := Lib.hid hown5
    have HP5 := Lib.hid hpl5
    have HF5 : Hid (∀ i q, ysec Yb lb vb Rb i q → v5.ownBlock ≠ some q) := Lib.hid (far_row HB03.out.yard hown5 HBX.out.size)
    have HW5 := Lib.hid hf5.low
    have hz5 := Nat.le_trans HBX.out.size ht5.1.size
    clear hown5 hfar5 hpl5 hf5 ht5 hbb5 hab5 KRA
    have HVY : Hid (w5.ownsRow w5.heap.size 3 1 (.slice none 0 0) ([] : List Int).length (([] : List Int).map num)) := Lib.hid (World.ownsRow_nil _ _ _ _)
    have HBY : Hid (Below w5.heap.size w5 w5) := Lib.hid (Below.refl _ _)
    go_wp2_with (first
      | (at_builtin
         refine wpList_append_own_none rfl (.tmp 33) (.tmp 34) 53 rfl 0 3 i0 1 Tryz.underlying53 hi0 _ 0 [] rfl (World.ownsRow_nil _ _ _ _) rfl ?_))
    have HAY := Lib.hid (HA5.out.below HBY.out)
    have HBY0 := Lib.hid (HB5.out.below HBY.out)
    have HV5Y := Lib.hid (row_below HV5.out HBY.out)
    have KRB := Lib.hid (prun_any (S := S) (a := PS.new) [] _ (ownsRow_reads HVY.out) (ownsRow_roomy HVY.out) (by decide) (fun z h => by cases h) (fun k hk => (HVY.out.lt k hk).2) (far_row HB5.out.yard HVY.out (Nat.le_refl _)) HBY0.out HRB.out HE.out HS.out)
    refine KRB.out.mono ?_
    rintro e w7 ⟨v7, r7, b7, lb7, rfl, hown7, hfar7, hpl7, hf7, ht7⟩
    obtain ⟨haa7, hab7⟩ := HAY.out.other HBY0.out (fun i j q hi hj => HAB5.out j i q hj hi) ht7
    obtain ⟨h57, -⟩ := ht7.row HV5Y.out HF5.out
    obtain ⟨er, eb⟩ := HP5.out.one hpl7
    subst er eb
    have KSI := Lib.hid (sameInts v5 v7 r5 r5 w7 (ownsRow_reads h57) (ownsRow_reads hown7) (fun k hk => (h57.lt k hk).2) (fun k hk => (hown7.lt k hk).2))
    rw [beq_self_eq_true] at KSI
    have HA7 := Lib.hid haa7
    have HB7 := Lib.hid hf7
    have HG7 := Lib.hid (HP5.out.good Good.nil)
    obtain ⟨a5, c5, hv5, -, -⟩ := id (ownsRow_reads h57)
    obtain ⟨a7, c7, hv7, -, -⟩ := id (ownsRow_reads hown7)
    rw [List.length_map] at hv5 hv7
    subst hv5 hv7
    clear hown7 hfar7 hpl7 hf7 ht7 haa7 hab7 h57 KRB
    go_wp2_with fail
    refine KSI.out.mono ?_
    rintro e w8 ⟨rfl, hb8⟩
    have HA8 := Lib.hid (HA7.out.below hb8)
    have HB8 := Lib.hid (HB7.out.below hb8)
    have KSA := Lib.hid (psum_any (S := S) HA8.out HRA.out HE.out HG7.out)
    clear hb8 KSI
    go_wp2_with fail
    refine KSA.out.mono ?_
    rintro e w9 ⟨rfl, hb9⟩
    have HA9 := Lib.hid (HA8.out.below hb9)
    have HB9 := Lib.hid (HB8.out.below hb9)
    have KSB := Lib.hid (psum_any (S := S) HB9.out HRB.out HE.out HG7.out)
    generalize sumL b5.m b5.mo = tx at *
    clear hb9 KSA
    go_wp2_with fail
    refine KSB.out.mono ?_
    rintro e w10 ⟨rfl, hb10⟩
    have HA10 := Lib.hid (HA9.out.below hb10)
    have KM := Lib.hid (make_all (S := S) w w10 rfl HA10.out.yard HA10.out.cok (by rw [HRA.out]; exact penv HE.out HA10.out.good) HA10.out.low (by rw [HRA.out]; exact playL_right) (by rw [HRA.out]; exact playL_ord) (by rw [HRA.out]; decide) (by rw [HRA.out]; exact playL_level) HA10.out.outs)
    clear hb10 KSB
    go_wp2_with fail
    refine KM.out.mono ?_
    rintro e w11 ⟨n, o, js, c11, st11, la11, mo11, rfl, h11⟩
    have HA11 := Lib.hid (h11.fst HA10.out)
    obtain ⟨W12, hW12⟩ : ∃ W, w11.alloc (.cells #[.int .i64 (n 0 : Nat), .int .i64 (n 1 : Nat), .int .i64 (n 2 : Nat), .int .i64 (n 3 : Nat)] 45) = W := ⟨_, rfl⟩
    have HA12 := Lib.hid (HA11.out.below (hW12 ▸ (Below.refl _ w11).alloc (Nat.le_refl _) _))
    have KST := Lib.hid (ystale_any (S := S) w W12 HA12.out.yard (by rw [HRA.out]; exact penv HE.out HA12.out.good) HA12.out.low (by rw [HRA.out]; exact playL_right) (by rw [HRA.out]; exact playL_ord))
    rw [h11.fresh.stale, show sortB [] = [] by decide +kernel] at KST
    have HW12 := Lib.hid hW12
    clear h11 hW12 KM
    go_wp2_with fail
    rw [HW12.out]
    refine KST.out.mono ?_
    rintro e w13 ⟨u, rfl, hown, hb13⟩
    have HA13 := Lib.hid (HA12.out.low.trans (hb13.mono HA12.out.low.size))
    obtain ⟨au, cu, hu, -, -⟩ := id (ownsRow_reads hown)
    rw [List.length_map] at hu
    subst hu
    clear hown hb13 KST
    go_wp2
    go_ret
    exact ⟨rfl, HA13.out⟩
  | some ad =>
    have HNW := Lib.hid (fun wl (hb : Below w.heap.size w wl) => (fun j u hj => by
      obtain ⟨a', c', e', -, hc⟩ := HL.out wl hb
      obtain ⟨b', o', e2, h2⟩ := hc j u hj
      simp only [Value.slice.injEq] at e'
      obtain ⟨rfl, -⟩ := e'
      cases e2
      rw [addr_add rfl]
      exact h2 : ∀ j u, (l.map num)[j]? = some u → wl.cell? (ad.add j) = some u))
    go_wp2_with (first
      | (at_builtin
         refine wpList_app _ rfl (.tmp 28) (.tmp 29) 53 rfl tyInts w3.heap.size _ 0 [] rfl (World.ownsRow_nil _ _ _ _) ad l.length c1 (l.map num) rfl (by simp) (HNW.out w3 HB3.out) ?_ (by decide) ?_ ?_ ?_
         · intro u hu; obtain ⟨x, -, rfl⟩ := List.mem_map.1 hu; rfl
         · omega
         · omega
         intro vx w4 ho6 hg6 hloc6
         have HVX : Hid (w4.ownsRow w3.heap.size 3 1 vx l.length (l.map num)) := Lib.hid (by simpa using ho6)
         have HBX : Hid (Below w3.heap.size w3 w4) := Lib.hid ((Below.refl w3.heap.size w3).grown hg6 (by omega) (fun q hq => by cases hq))
         clear ho6 hg6 hloc6))
    have HAX := Lib.hid (HA3.out.below HBX.out)
    have HBX0 := Lib.hid (HB03.out.below HBX.out)
    have KRA := Lib.hid (prun_any (S := S) (a := PS.new) l _ (ownsRow_reads HVX.out) (ownsRow_roomy HVX.out) (by omega) HZ.out (fun k hk => (HVX.out.lt k hk).2) (far_row HA3.out.yard HVX.out (Nat.le_refl _)) HAX.out HRA.out HE.out HS.out)
    refine KRA.out.mono ?_
    rintro e w5 ⟨v5, r5, b5, la5, rfl, hown5, hfar5, hpl5, hf5, ht5⟩
    obtain ⟨hbb5, hab5⟩ := HBX0.out.other HAX.out (fun i j q hi hj => HAB.out j i q hj hi) ht5
    have HA5 := Lib.hid hf5
    have HB5 := Lib.hid hbb5
    have HAB5 := Lib.hid hab5
    have HV5 := Lib.hid hown5
    have HP5 := Lib.hid hpl5
    have HF5 : Hid (∀ i q, ysec Yb lb vb Rb i q → v5.ownBlock ≠ some q) := Lib.hid (far_row HB03.out.yard hown5 HBX.out.size)
    have HW5 := Lib.hid hf5.low
    have hz5 := Nat.le_trans HBX.out.size ht5.1.size
    clear hown5 hfar5 hpl5 hf5 ht5 hbb5 hab5 KRA
    go_wp2_with (first
      | (at_builtin
         refine wpList_app _ rfl (.tmp 33) (.tmp 34) 53 rfl tyInts w5.heap.size _ 0 [] rfl (World.ownsRow_nil _ _ _ _) ad l.length c1 (l.map num) rfl (by simp) (HNW.out w5 HW5.out) ?_ (by decide) ?_ ?_ ?_
         · intro u hu; obtain ⟨x, -, rfl⟩ := List.mem_map.1 hu; rfl
         · omega
         · omega
         intro vy w6 ho6 hg6 hloc6
         have HVY : Hid (w6.ownsRow w5.heap.size 3 1 vy l.length (l.map num)) := Lib.hid (by simpa using ho6)
         have HBY : Hid (Below w5.heap.size w5 w6) := Lib.hid ((Below.refl w5.heap.size w5).grown hg6 (by omega) (fun q hq => by cases hq))
         clear ho6 hg6 hloc6))
    have HAY := Lib.hid (HA5.out.below HBY.out)
    have HBY0 := Lib.hid (HB5.out.below HBY.out)
    have HV5Y := Lib.hid (row_below HV5.out HBY.out)
    have KRB := Lib.hid (prun_any (S := S) (a := PS.new) l _ (ownsRow_reads HVY.out) (ownsRow_roomy HVY.out) (by omega) HZ.out (fun k hk => (HVY.out.lt k hk).2) (far_row HB5.out.yard HVY.out (Nat.le_refl _)) HBY0.out HRB.out HE.out HS.out)
    refine KRB.out.mono ?_
    rintro e w7 ⟨v7, r7, b7, lb7, rfl, hown7, hfar7, hpl7, hf7, ht7⟩
    obtain ⟨haa7, hab7⟩ := HAY.out.other HBY0.out (fun i j q hi hj => HAB5.out j i q hj hi) ht7
    obtain ⟨h57, -⟩ := ht7.row HV5Y.out HF5.out
    obtain ⟨er, eb⟩ := HP5.out.one hpl7
    subst er eb
    have KSI := Lib.hid (sameInts v5 v7 r5 r5 w7 (ownsRow_reads h57) (ownsRow_reads hown7) (fun k hk => (h57.lt k hk).2) (fun k hk => (hown7.lt k hk).2))
    rw [beq_self_eq_true] at KSI
    have HA7 := Lib.hid haa7
    have HB7 := Lib.hid hf7
    have HG7 := Lib.hid (HP5.out.good Good.nil)
    obtain ⟨a5, c5, hv5, -, -⟩ := id (ownsRow_reads h57)
    obtain ⟨a7, c7, hv7, -, -⟩ := id (ownsRow_reads hown7)
    rw [List.length_map] at hv5 hv7
    subst hv5 hv7
    clear hown7 hfar7 hpl7 hf7 ht7 haa7 hab7 h57 KRB
    go_wp2_with fail
    refine KSI.out.mono ?_
    rintro e w8 ⟨rfl, hb8⟩
    have HA8 := Lib.hid (HA7.out.below hb8)
    have HB8 := Lib.hid (HB7.out.below hb8)
    have KSA := Lib.hid (psum_any (S := S) HA8.out HRA.out HE.out HG7.out)
    clear hb8 KSI
    go_wp2_with fail
    refine KSA.out.mono ?_
    rintro e w9 ⟨rfl, hb9⟩
    have HA9 := Lib.hid (HA8.out.below hb9)
    have HB9 := Lib.hid (HB8.out.below hb9)
    have KSB := Lib.hid (psum_any (S := S) HB9.out HRB.out HE.out HG7.out)
    generalize sumL b5.m b5.mo = tx at *
    clear hb9 KSA
    go_wp2_with fail
    refine KSB.out.mono ?_
    rintro e w10 ⟨rfl, hb10⟩
    have HA10 := Lib.hid (HA9.out.below hb10)
    have KM := Lib.hid (make_all (S := S) w w10 rfl HA10.out.yard HA10.out.cok (by rw [HRA.out]; exact penv HE.out HA10.out.good) HA10.out.low (by rw [HRA.out]; exact playL_right) (by rw [HRA.out]; exact playL_ord) (by rw [HRA.out]; decide) (by rw [HRA.out]; exact playL_level) HA10.out.outs)
    clear hb10 KSB
    go_wp2_with fail
    refine KM.out.mono ?_
    rintro e w11 ⟨n, o, js, c11, st11, la11, mo11, rfl, h11⟩
    have HA11 := Lib.hid (h11.fst HA10.out)
    obtain ⟨W12, hW12⟩ : ∃ W, w11.alloc (.cells #[.int .i64 (n 0 : Nat), .int .i64 (n 1 : Nat), .int .i64 (n 2 : Nat), .int .i64 (n 3 : Nat)] 45) = W := ⟨_, rfl⟩
    have HA12 := Lib.hid (HA11.out.below (hW12 ▸ (Below.refl _ w11).alloc (Nat.le_refl _) _))
    have KST := Lib.hid (ystale_any (S := S) w W12 HA12.out.yard (by rw [HRA.out]; exact penv HE.out HA12.out.good) HA12.out.low (by rw [HRA.out]; exact playL_right) (by rw [HRA.out]; exact playL_ord))
    rw [h11.fresh.stale, show sortB [] = [] by decide +kernel] at KST
    have HW12 := Lib.hid hW12
    clear h11 hW12 KM
    go_wp2_with fail
    rw [HW12.out]
    refine KST.out.mono ?_
    rintro e w13 ⟨u, rfl, hown, hb13⟩
    have HA13 := Lib.hid (HA12.out.low.trans (hb13.mono HA12.out.low.size))
    obtain ⟨au, cu, hu, -, -⟩ := id (ownsRow_reads hown)
    rw [List.length_map] at hu
    subst hu
    clear hown hb13 KST
    go_wp2
    go_ret
    exact ⟨rfl, HA13.out⟩
end Go.Proofs.YtgjialbmlhbngaaGreatDoor
