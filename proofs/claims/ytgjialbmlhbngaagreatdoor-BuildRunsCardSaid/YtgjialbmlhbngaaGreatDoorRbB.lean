/-
  The reference's build: fail. The reference's build: fail, the walk.
-/
import Derived.Test.YtgjialbmlhbngaaGreatDoorRbA
import Derived.Test.YtgjialbmlhbngaaGreatDoorBdC

set_option maxRecDepth 100000
namespace Go.Proofs.YtgjialbmlhbngaaGreatDoor
open Go Go.RowKit Go.Kf Go.Sort Go.Proofs
section
variable {X : RBx} {n : Nat} {v lv : Value} {L : List Ent} {P : List Nat} {cv : Value} {base : Nat} {w : World} {st st' : Nat → St}
theorem row_put {f g : Nat → Value} {k : Nat} {x : Value} (h : ∀ j, g j = if j = k then x else f j) : ((List.range n).map f).set k x = (List.range n).map g := by
  rw [row_set]
  exact List.map_congr_left (fun j _ => (h j).symm)
theorem RBAt.put_state (h : RBAt X n v lv L P cv base w st) (k : Nat) (x : List UInt8) (h1 : ∀ j, rSt P st' j = if j = k then x else rSt P st j) (h2 : ∀ j, (st' j).out = (st j).out) (h3 : ∀ j, (st' j).hit = (st j).hit) (h4 : ∀ j, (st' j).why = (st j).why) :
    RBAt X n v lv L P cv base (w.setCell ⟨X.s, k, none⟩ (str x)) st' := by
  have hf : Fr w.heap.size (fun q => q = X.s) w (w.setCell ⟨X.s, k, none⟩ (str x)) := (Fr.refl w.heap.size (fun q => q = X.s) w).setCell (p := ⟨X.s, k, none⟩) (fun _ => rfl) _
  refine h.turn hf (Nat.le_refl _) (fun q _ e => Or.inl e) ?_ ?_ ?_ ?_
  · rw [← row_put (f := fun k => str (rSt P st k)) (k := k) (x := str x) (fun j => by rw [h1]; split <;> rfl)]
    exact h.state.set k _
  · simp only [h2]; exact h.out.fr hf h.out.lt h.ne.symm
  · simp only [h3]; exact h.hit.fr hf h.hit.lt (h.hit.ne_of h.state (by decide))
  · simp only [h4]; exact h.why.fr hf h.why.lt (h.why.ne_of h.state (by decide))
theorem RBAt.put_out (h : RBAt X n v lv L P cv base w st) (k : Nat) (x : List UInt8) (h1 : ∀ j, rSt P st' j = rSt P st j) (h2 : ∀ j, (st' j).out = if j = k then x else (st j).out) (h3 : ∀ j, (st' j).hit = (st j).hit) (h4 : ∀ j, (st' j).why = (st j).why) :
    RBAt X n v lv L P cv base (w.setCell ⟨X.o, k, none⟩ (str x)) st' := by
  have hf : Fr w.heap.size (fun q => q = X.o) w (w.setCell ⟨X.o, k, none⟩ (str x)) := (Fr.refl w.heap.size (fun q => q = X.o) w).setCell (p := ⟨X.o, k, none⟩) (fun _ => rfl) _
  refine h.turn hf (Nat.le_refl _) (fun q _ e => Or.inr (Or.inl e)) ?_ ?_ ?_ ?_
  · simp only [h1]; exact h.state.fr hf h.state.lt h.ne
  · rw [← row_put (f := fun k => str (st k).out) (k := k) (x := str x) (fun j => by rw [h2]; split <;> rfl)]
    exact h.out.set k _
  · simp only [h3]; exact h.hit.fr hf h.hit.lt (h.hit.ne_of h.out (by decide))
  · simp only [h4]; exact h.why.fr hf h.why.lt (h.why.ne_of h.out (by decide))
theorem RBAt.put_hit (h : RBAt X n v lv L P cv base w st) (k : Nat) (x : Bool) (h1 : ∀ j, rSt P st' j = rSt P st j) (h2 : ∀ j, (st' j).out = (st j).out) (h3 : ∀ j, (st' j).hit = if j = k then x else (st j).hit) (h4 : ∀ j, (st' j).why = (st j).why) :
    RBAt X n v lv L P cv base (w.setCell ⟨X.h, k, none⟩ (.bool x)) st' := by
  have hf : Fr w.heap.size (fun q => q = X.h) w (w.setCell ⟨X.h, k, none⟩ (.bool x)) := (Fr.refl w.heap.size (fun q => q = X.h) w).setCell (p := ⟨X.h, k, none⟩) (fun _ => rfl) _
  refine h.turn hf (Nat.le_refl _) (fun q _ e => Or.inr (Or.inr (Or.inl e))) ?_ ?_ ?_ ?_
  · simp only [h1]; exact h.state.fr hf h.state.lt (h.state.ne_of h.hit (by decide))
  · simp only [h2]; exact h.out.fr hf h.out.lt (h.out.ne_of h.hit (by decide))
  · rw [← row_put (f := fun k => .bool (st k).hit) (k := k) (x := .bool x) (fun j => by rw [h3]; split <;> rfl)]
    exact h.hit.set k _
  · simp only [h4]; exact h.why.fr hf h.why.lt (h.why.ne_of h.hit (by decide))
theorem RBAt.put_why (h : RBAt X n v lv L P cv base w st) (k : Nat) (x : Nat) (h1 : ∀ j, rSt P st' j = rSt P st j) (h2 : ∀ j, (st' j).out = (st j).out) (h3 : ∀ j, (st' j).hit = (st j).hit) (h4 : ∀ j, (st' j).why = if j = k then x else (st j).why) :
    RBAt X n v lv L P cv base (w.setCell ⟨X.y, k, none⟩ (intE x)) st' := by
  have hf : Fr w.heap.size (fun q => q = X.y) w (w.setCell ⟨X.y, k, none⟩ (intE x)) := (Fr.refl w.heap.size (fun q => q = X.y) w).setCell (p := ⟨X.y, k, none⟩) (fun _ => rfl) _
  refine h.turn hf (Nat.le_refl _) (fun q _ e => Or.inr (Or.inr (Or.inr e))) ?_ ?_ ?_ ?_
  · simp only [h1]; exact h.state.fr hf h.state.lt (h.state.ne_of h.why (by decide))
  · simp only [h2]; exact h.out.fr hf h.out.lt (h.out.ne_of h.why (by decide))
  · simp only [h3]; exact h.hit.fr hf h.hit.lt (h.hit.ne_of h.why (by decide))
  · rw [← row_put (f := fun k => intE (st k).why) (k := k) (x := intE x) (fun j => by rw [h4]; split <;> rfl)]
    exact h.why.set k _
end
theorem rSt_set {P : List Nat} {st : Nat → St} {k : Nat} (hk : k ∈ P) (s : St) (j : Nat) : rSt P (setSt st k s) j = if j = k then stName s.state else rSt P st j := by
  unfold rSt
  by_cases h : j = k
  · subst h
    rw [setSt_at, if_pos rfl, if_pos (by simpa using hk)]
  · rw [setSt_ne _ h, if_neg h]
def FineAt (l : List RuleL) (P : List Nat) (c : Nat → St) (k j : Nat) : Prop := rSt P c k = stName 1 → (rSt P c j = stName 3 ∨ rSt P c j = stName 4) → needB l k j = false
def FineS (l : List RuleL) (P : List Nat) (n : Nat) (c : Nat → St) : Prop := ∀ a b, a < n → b < n → FineAt l P c a b
def RPass (l : List RuleL) (P : List Nat) (n : Nat) (c0 cur : Nat → St) (k j : Nat) : Prop :=
  (cur = c0 ∧ ∀ a b, b < n → (a < k ∨ (a = k ∧ b < j)) → FineAt l P c0 a b) ∨ (¬ FineS l P n c0 ∧ (waitL P cur).length < (waitL P c0).length)
section
variable {l : List RuleL} {P : List Nat} {n : Nat} {c0 cur : Nat → St} {k j : Nat}
theorem RPass.start : RPass l P n c0 c0 0 0 := Or.inl ⟨rfl, fun a b _ h => by omega⟩
theorem RPass.skip (h : RPass l P n c0 cur k j) (hf : FineAt l P cur k j) : RPass l P n c0 cur k (j + 1) := by
  rcases h with ⟨rfl, h⟩ | h
  · refine Or.inl ⟨rfl, fun a b hb hab => ?_⟩
    by_cases he : a = k ∧ b = j
    · obtain ⟨rfl, rfl⟩ := he; exact hf
    · exact h a b hb (by omega)
  · exact Or.inr h
theorem RPass.next (h : RPass l P n c0 cur k n) : RPass l P n c0 cur (k + 1) 0 := by
  rcases h with ⟨rfl, h⟩ | h
  · exact Or.inl ⟨rfl, fun a b hb hab => h a b hb (by omega)⟩
  · exact Or.inr h
theorem RPass.fire (h : RPass l P n c0 cur k j) (hP : k ∈ P) (hs : (cur k).state = 1) (hk : k < n) (hj : j < n) (h1 : rSt P cur k = stName 1) (h2 : rSt P cur j = stName 3 ∨ rSt P cur j = stName 4) (h3 : needB l k j = true) :
    RPass l P n c0 (setSt cur k { cur k with state := 4 }) k (j + 1) := by
  have hw := wait_left hP hs
  rcases h with ⟨rfl, h⟩ | ⟨h, h4⟩
  · exact Or.inr ⟨fun hS => absurd (hS k j hk hj h1 h2) (by rw [h3]; exact Bool.noConfusion), hw⟩
  · exact Or.inr ⟨h, by omega⟩
theorem RPass.stop {r : Nat} (h : RPass l P n c0 cur n 0) (hr : FineS l P n c0 ∨ (waitL P c0).length + r ≤ n) : FineS l P n cur ∨ (waitL P cur).length + (r + 1) ≤ n := by
  rcases h with ⟨rfl, h⟩ | ⟨h, h4⟩
  · exact Or.inl (fun a b ha hb => h a b hb (Or.inl ha))
  · rcases hr with hr | hr
    · exact absurd hr h
    · exact Or.inr (by omega)
theorem fine_end (hone : ∀ i ∈ P, 1 ≤ (cur i).state ∧ (cur i).state ≤ 4) (hr : FineS l P n cur ∨ (waitL P cur).length + n ≤ n) : FineS l P n cur := by
  rcases hr with hr | hr
  · exact hr
  · intro a b ha hb h1
    exfalso
    obtain ⟨h2, h3⟩ := (rSt_at (by omega) (hone a)).1 h1
    have : a ∈ waitL P cur := List.mem_filter.2 ⟨h2, by simpa using h3⟩
    have := List.length_pos_of_mem this
    omega
theorem FailMid.one {st : Nat → St} {i e : Nat} (h : FailMid l P st cur i e) (hone : ∀ i ∈ P, 1 ≤ (st i).state ∧ (st i).state ≤ 4) : ∀ i ∈ P, 1 ≤ (cur i).state ∧ (cur i).state ≤ 4 := by
  intro j hj
  by_cases hji : j = i
  · subst hji; rw [h.at_]; exact ⟨by simp, by simp⟩
  · rcases h.rest j hj hji with h1 | ⟨-, h1, -⟩
    · rw [h1]; exact hone j hj
    · rw [h1]; exact ⟨by simp, by simp⟩
theorem FailMid.fine {st : Nat → St} {i e : Nat} (h : FailMid l P st cur i e) (hone : ∀ i ∈ P, 1 ≤ (st i).state ∧ (st i).state ≤ 4) (hlt : ∀ k ∈ P, k < l.length) (hsh : ∀ k ∈ P, ∀ j ∈ edgesB l k, j ∈ P) (hf : FineS l P l.length cur) : FailPost l P st cur i e := by
  have hc := h.one hone
  refine h.stop (fun j hj hs k hk => ?_)
  refine Nat.lt_of_not_le (fun h3 => ?_)
  have hkP := hsh j hj k hk
  have := hf j k (hlt j hj) (hlt k hkP) ((rSt_at (by omega) (hc j)).2 ⟨hj, hs⟩) (by
    have := hc k hkP
    rcases (show (cur k).state = 3 ∨ (cur k).state = 4 by omega) with h4 | h4
    · exact Or.inl ((rSt_at (by omega) (hc k)).2 ⟨hkP, h4⟩)
    · exact Or.inr ((rSt_at (by omega) (hc k)).2 ⟨hkP, h4⟩))
  rw [(edges_need hk).2] at this
  cases this
end
theorem setSt_keep {α : Type} (f : St → α) {st : Nat → St} {k : Nat} {s : St} (h : f s = f (st k)) (j : Nat) : f (setSt st k s j) = f (st j) := by
  unfold setSt
  split
  · rename_i e; subst e; exact h
  · rfl
theorem beqT {a b : List UInt8} (h : (a == b) = true) : (a = b) = True := eq_true (by simpa using h)
theorem beqF {a b : List UInt8} (h : (a == b) = false) : (a = b) = False := eq_false (by simpa using h)
theorem wait_all {l : List RuleL} {P : List Nat} (h : PartOk l P) (st : Nat → St) : (waitL P st).length ≤ l.length :=
  Nat.le_trans (List.length_filter_le _ _) (nodup_le _ _ h.nodup h.lt)
set_option maxHeartbeats 4000000 in
theorem rfail_any (X : RBx) (R : List RV) (v lv : Value) (L : List Ent) (P : List Nat) (cv : Value) (base : Nat) (w : World) (st : Nat → St) (h : RBAt X R.length v lv L P cv base w st) (hP : PartOk (R.map Prod.fst) P) (hone : ∀ i ∈ P, 1 ≤ (st i).state ∧ (st i).state ≤ 4)
    (hr : ReadsK 4 w v (R.map rvRow)) (_hx : ∀ x ∈ R, Reads w x.2 (x.1.ins.map str)) (hrf : ∀ w', Fr w.heap.size (fun q => q = X.s ∨ q = X.y) w w' → ReadsK 4 w' v (R.map rvRow) ∧ ∀ x ∈ R, Reads w' x.2 (x.1.ins.map str)) (hn : R.length ≤ 1000) (i e : Nat) (hi : i ∈ P) :
    Calls Tryz.prog 101 #[ptrV X.b, intE i, intE e] w fun r w' => r = .returned (.tuple #[]) ∧ ∃ st', FailPost (R.map Prod.fst) P st st' i e ∧ RBAt X R.length v lv L P cv base w' st' ∧ Fr w.heap.size (fun q => q = X.s ∨ q = X.y) w w' := by
  obtain ⟨a, c, hv, -, -⟩ := id hr
  rw [List.length_map] at hv
  subst hv
  have hil : i < R.length := by have := hP.lt i hi; simpa using this
  have KN := Hd (fun w1 (hb : Fr w.heap.size (fun q => q = X.s ∨ q = X.y) w w1) (k j : Nat) (hk : k < R.length) (hj : j < R.length) => needs_any R (.slice a R.length c) k j w1 (hrf w1 hb).1 (hrf w1 hb).2 hk hj)
  have HIX := Hd (fun k (hk : k < R.length) => idx_at (P := Tryz.prog) (T := 33) (E := 9) Tryz.underlying33 (by kernel_rfl) X.s R.length R.length k hk)
  have hixi := HIX.out i hil
  have hixy := idx_at (P := Tryz.prog) (T := 53) (E := 3) Tryz.underlying53 (by kernel_rfl) X.y R.length R.length i hil
  have H1 : Hid (RBAt X R.length (.slice a R.length c) lv L P cv base (w.setCell ⟨X.s, i, none⟩ (str (stName 3))) (setSt st i { st i with state := 3 })) := Hd (h.put_state i (stName 3) (fun j => rSt_set hi _ j) (fun j => setSt_keep St.out (by rfl) j) (fun j => setSt_keep St.hit (by rfl) j) (fun j => setSt_keep St.why (by rfl) j))
  have H2 : Hid (RBAt X R.length (.slice a R.length c) lv L P cv base ((w.setCell ⟨X.s, i, none⟩ (str (stName 3))).setCell ⟨X.y, i, none⟩ (intE e)) (setSt st i { st i with state := 3, why := e })) := Hd (by
    have := H1.out.put_why (st' := setSt st i { st i with state := 3, why := e }) i e (fun j => by rw [rSt_set hi, rSt_set hi]) (fun j => by unfold setSt; split <;> rfl) (fun j => by unfold setSt; split <;> rfl) (fun j => by unfold setSt; split <;> rfl)
    exact this)
  have HF2 : Hid (Fr w.heap.size (fun q => q = X.s ∨ q = X.y) w ((w.setCell ⟨X.s, i, none⟩ (str (stName 3))).setCell ⟨X.y, i, none⟩ (intE e))) := Hd (((Fr.refl w.heap.size (fun q => q = X.s ∨ q = X.y) w).setCell (p := ⟨X.s, i, none⟩) (fun _ => Or.inl rfl) _).setCell (p := ⟨X.y, i, none⟩) (fun _ => Or.inr rfl) _)
  have HM2 := Hd (FailMid.start (l := R.map Prod.fst) (st := st) (e := e) hi)
  have hc2 : w.cell? ⟨X.b, 2, none⟩ = some (slN X.s R.length) := h.box.cell rfl
  have hc5 : (w.setCell ⟨X.s, i, none⟩ (str (stName 3))).cell? ⟨X.b, 5, none⟩ = some (slN X.y R.length) := H1.out.box.cell rfl
  have hfz : w.frozen? ⟨X.s, i, none⟩ = false := h.state.frozen i
  have hfy : (w.setCell ⟨X.s, i, none⟩ (str (stName 3))).frozen? ⟨X.y, i, none⟩ = false := H1.out.why.frozen i
  obtain ⟨u0, hu0⟩ : ∃ u, w.cell? ⟨X.s, i, none⟩ = some u := ⟨_, h.state.cell (k := i) (by rw [List.getElem?_map, List.getElem?_range hil]; rfl)⟩
  obtain ⟨u1, hu1⟩ : ∃ u, (w.setCell ⟨X.s, i, none⟩ (str (stName 3))).cell? ⟨X.y, i, none⟩ = some u := ⟨_, H1.out.why.cell (k := i) (by rw [List.getElem?_map, List.getElem?_range hil]; rfl)⟩
  have HOO := Hd hone
  have HPP := Hd hP
  have HII := Hd hi
  have HLM : Hid ((R.map Prod.fst).length = R.length) := Hd (List.length_map _)
  clear h hr _hx hrf hP hone hi hil H1
  generalize R.map Prod.fst = l at *
  simp only [stName] at hc5 hfy hu1 H2 HF2
  go_enter Tryz.func101, Tryz.ntmps101
  go_wp2_with fail
  generalize (w.setCell ⟨X.s, i, none⟩ (str [102, 97, 105, 108, 101, 100])).setCell ⟨X.y, i, none⟩ (intE e) = W2 at *
  clear hc2 hc5 hfz hfy hu0 hu1
  go_loopw [6] (fun nv wl => ∃ (r : Nat) (cur : Nat → St), r ≤ R.length ∧ nv = .int .i64 r ∧ FailMid l P st cur i e ∧ (FineS l P R.length cur ∨ (waitL P cur).length + r ≤ R.length) ∧ RBAt X R.length (.slice a R.length c) lv L P cv base wl cur ∧ Fr w.heap.size (fun q => q = X.s ∨ q = X.y) w wl) (fun nv _ => R.length - (intOf nv).toNat)
  case atStart => exact ⟨0, _, by omega, rfl, HM2.out, Or.inr (by have := wait_all HPP.out (setSt st i { st i with state := 3, why := e }); rw [HLM.out] at this; omega), H2.out, HF2.out⟩
  case round =>
    obtain ⟨r, c0, hr, rfl, hmid, hsh, hrb, hfr⟩ := hrel
    have HMI := Hd hmid
    have HSH := Hd hsh
    have HRB := Hd hrb
    have HFR := Hd hfr
    have hc1 : wr.cell? ⟨X.b, 1, none⟩ = some (.slice a R.length c) := hrb.box.cell rfl
    clear hmid hsh hrb hfr
    by_cases hlr : r < R.length
    · have hlc : ((r : Int) < (R.length : Int)) = True := eq_true (by omega)
      go_wp2_with fail
      go_loopw [7] (fun kv wl => ∃ (k : Nat) (cur : Nat → St), k ≤ R.length ∧ kv = .int .i64 k ∧ FailMid l P st cur i e ∧ RPass l P R.length c0 cur k 0 ∧ RBAt X R.length (.slice a R.length c) lv L P cv base wl cur ∧ Fr w.heap.size (fun q => q = X.s ∨ q = X.y) w wl) (fun kv _ => R.length - (intOf kv).toNat)
      case atStart => exact ⟨0, c0, by omega, rfl, HMI.out, RPass.start, HRB.out, HFR.out⟩
      case round =>
        obtain ⟨k, c1, hk, rfl, hmid, hps, hrb, hfr⟩ := hrel
        have HMI1 := Hd hmid
        have HPS1 := Hd hps
        have HRB1 := Hd hrb
        have HFR1 := Hd hfr
        have hc1 : wr.cell? ⟨X.b, 1, none⟩ = some (.slice a R.length c) := hrb.box.cell rfl
        clear hmid hps hrb hfr
        by_cases hlk : k < R.length
        · have hlck : ((k : Int) < (R.length : Int)) = True := eq_true (by omega)
          have hixk := HIX.out k hlk
          go_wp2_with fail
          go_loopw [8] (fun jv wl => ∃ (j : Nat) (cur : Nat → St), j ≤ R.length ∧ jv = .int .i64 j ∧ FailMid l P st cur i e ∧ RPass l P R.length c0 cur k j ∧ RBAt X R.length (.slice a R.length c) lv L P cv base wl cur ∧ Fr w.heap.size (fun q => q = X.s ∨ q = X.y) w wl) (fun jv _ => R.length - (intOf jv).toNat)
          case atStart => exact ⟨0, c1, by omega, rfl, HMI1.out, HPS1.out, HRB1.out, HFR1.out⟩
          case round =>
            obtain ⟨j, c2, hj, rfl, hmid, hps, hrb, hfr⟩ := hrel
            have HMI2 := Hd hmid
            have HPS2 := Hd hps
            have HRB2 := Hd hrb
            have HFR2 := Hd hfr
            have hc1 : wr.cell? ⟨X.b, 1, none⟩ = some (.slice a R.length c) := hrb.box.cell rfl
            have hc2 : wr.cell? ⟨X.b, 2, none⟩ = some (slN X.s R.length) := hrb.box.cell rfl
            by_cases hlj : j < R.length
            · have hlcj : ((j : Int) < (R.length : Int)) = True := eq_true (by omega)
              have hixj := HIX.out j hlj
              have hcj : wr.cell? ⟨X.s, j, none⟩ = some (str (rSt P c2 j)) := hrb.state.cell (k := j) (by rw [List.getElem?_map, List.getElem?_range hlj]; rfl)
              have hck : wr.cell? ⟨X.s, k, none⟩ = some (str (rSt P c2 k)) := hrb.state.cell (k := k) (by rw [List.getElem?_map, List.getElem?_range hlk]; rfl)
              have KK := Hd (KN.out wr hfr k j hlk hlj)
              have HONE := Hd (hmid.one HOO.out)
              have HSK : Hid (FineAt l P c2 k j → RPass l P R.length c0 c2 k (j + 1)) := Hd hps.skip
              have HFI : Hid (rSt P c2 k = stName 1 → (rSt P c2 j = stName 3 ∨ rSt P c2 j = stName 4) → needB l k j = true → ∃ c3, FailMid l P st c3 i e ∧ RPass l P R.length c0 c3 k (j + 1) ∧ ∀ w', Below wr.heap.size wr w' → RBAt X R.length (.slice a R.length c) lv L P cv base (w'.setCell ⟨X.s, k, none⟩ (str (stName 4))) c3) := Hd (fun h1 h2 h3 => by
                obtain ⟨hkP, hks⟩ := (rSt_at (by omega) (HONE.out k)).1 h1
                have hje : 3 ≤ (c2 j).state := by
                  rcases h2 with h2 | h2
                  · have := ((rSt_at (by omega) (HONE.out j)).1 h2).2; omega
                  · have := ((rSt_at (by omega) (HONE.out j)).1 h2).2; omega
                refine ⟨setSt c2 k { c2 k with state := 4 }, HMI2.out.left hkP hks ⟨j, need_edges (by rw [HLM.out]; exact hlj) h3, hje⟩, HPS2.out.fire hkP hks hlk hlj h1 h2 h3, fun w' hb => ?_⟩
                exact (HRB2.out.below hb).put_state k (stName 4) (fun q => rSt_set hkP _ q) (fun q => setSt_keep St.out (by rfl) q) (fun q => setSt_keep St.hit (by rfl) q) (fun q => setSt_keep St.why (by rfl) q))
              have HBX : Hid (∀ w', Below wr.heap.size wr w' → w'.cell? ⟨X.b, 2, none⟩ = some (slN X.s R.length) ∧ w'.frozen? ⟨X.s, k, none⟩ = false ∧ ∃ u, w'.cell? ⟨X.s, k, none⟩ = some u) := Hd (fun w' hb => ⟨(HRB2.out.below hb).box.cell rfl, (HRB2.out.below hb).state.frozen k, _, (HRB2.out.below hb).state.cell (k := k) (by rw [List.getElem?_map, List.getElem?_range hlk]; rfl)⟩)
              have HFN : Hid (∀ b1 b2 b3 b4 : Bool, (rSt P c2 j == stName 3) = b1 → (rSt P c2 j == stName 4) = b2 → (rSt P c2 k == stName 1) = b3 → needB l k j = b4 → ((b1 || b2) && b3 && b4) = false → FineAt l P c2 k j) := Hd (fun b1 b2 b3 b4 h1 h2 h3 h4 hb => by
                intro hk hj
                subst h1 h2 h3 h4
                rw [hk] at hb
                rcases hj with hj | hj <;> (rw [hj] at hb; simpa [stName] using hb))
              clear hmid hps hrb hfr
              cases hb1 : rSt P c2 j == stName 3 with
              | true =>
                have b1 : (rSt P c2 j == [102, 97, 105, 108, 101, 100]) = true := hb1
                have b1' : (rSt P c2 j = [102, 97, 105, 108, 101, 100]) = True := beqT b1
                cases hb3 : rSt P c2 k == stName 1 with
                | false =>
                  have b3 : (rSt P c2 k == [119, 97, 105, 116, 115]) = false := hb3
                  have b3' : (rSt P c2 k = [119, 97, 105, 116, 115]) = False := beqF b3
                  have HS3 := Hd (HSK.out (HFN.out true _ false _ hb1 rfl hb3 rfl rfl))
                  go_wp2
                  go_roundw
                  case rel => exact ⟨j + 1, c2, by omega, by go_num, HMI2.out, HS3.out, HRB2.out, HFR2.out⟩
                  case measure => simp [intOf]; omega
                | true =>
                  have b3 : (rSt P c2 k == [119, 97, 105, 116, 115]) = true := hb3
                  have b3' : (rSt P c2 k = [119, 97, 105, 116, 115]) = True := beqT b3
                  cases hb4 : needB l k j with
                  | false =>
                    rw [hb4] at KK
                    have HS3 := Hd (HSK.out (HFN.out true _ true false hb1 rfl hb3 hb4 (by cases (rSt P c2 j == stName 4) <;> rfl)))
                    go_wp2_with fail
                    refine KK.out.mono ?_
                    rintro q w3 ⟨rfl, hb3⟩
                    have HB3 := Hd hb3
                    clear hb3
                    go_wp2
                    go_roundw
                    case rel => exact ⟨j + 1, c2, by omega, by go_num, HMI2.out, HS3.out, HRB2.out.below HB3.out, HFR2.out.trans ((Fr.of_below HB3.out).mono HFR2.out.size (fun _ _ h => h))⟩
                    case measure => simp [intOf]; omega
                  | true =>
                    rw [hb4] at KK
                    obtain ⟨c3, hm3, hp3, hr3⟩ := HFI.out (by simpa using hb3) (Or.inl (by simpa using hb1)) hb4
                    have HM3 := Hd hm3
                    have HP3 := Hd hp3
                    have HR3 := Hd hr3
                    clear hm3 hp3 hr3
                    go_wp2_with fail
                    refine KK.out.mono ?_
                    rintro q w3 ⟨rfl, hb3⟩
                    obtain ⟨hc3, hf3, u3, hu3⟩ := HBX.out _ hb3
                    have HB3 := Hd hb3
                    clear hb3
                    go_wp2
                    go_roundw
                    case rel => exact ⟨j + 1, c3, by omega, by go_num, HM3.out, HP3.out, HR3.out _ HB3.out, (HFR2.out.trans ((Fr.of_below HB3.out).mono HFR2.out.size (fun _ _ h => h))).setCell (p := ⟨X.s, k, none⟩) (fun _ => Or.inl rfl) _⟩
                    case measure => simp [intOf]; omega
              | false =>
                have b1 : (rSt P c2 j == [102, 97, 105, 108, 101, 100]) = false := hb1
                have b1' : (rSt P c2 j = [102, 97, 105, 108, 101, 100]) = False := beqF b1
                cases hb2 : rSt P c2 j == stName 4 with
                | true =>
                  have b2 : (rSt P c2 j == [108, 101, 102, 116]) = true := hb2
                  have b2' : (rSt P c2 j = [108, 101, 102, 116]) = True := beqT b2
                  cases hb3 : rSt P c2 k == stName 1 with
                  | false =>
                    have b3 : (rSt P c2 k == [119, 97, 105, 116, 115]) = false := hb3
                    have b3' : (rSt P c2 k = [119, 97, 105, 116, 115]) = False := beqF b3
                    have HS3 := Hd (HSK.out (HFN.out false true false _ hb1 hb2 hb3 rfl rfl))
                    go_wp2
                    go_roundw
                    case rel => exact ⟨j + 1, c2, by omega, by go_num, HMI2.out, HS3.out, HRB2.out, HFR2.out⟩
                    case measure => simp [intOf]; omega
                  | true =>
                    have b3 : (rSt P c2 k == [119, 97, 105, 116, 115]) = true := hb3
                    have b3' : (rSt P c2 k = [119, 97, 105, 116, 115]) = True := beqT b3
                    cases hb4 : needB l k j with
                    | false =>
                      rw [hb4] at KK
                      have HS3 := Hd (HSK.out (HFN.out false true true false hb1 hb2 hb3 hb4 (by cases (rSt P c2 j == stName 4) <;> rfl)))
                      go_wp2_with fail
                      refine KK.out.mono ?_
                      rintro q w3 ⟨rfl, hb3⟩
                      have HB3 := Hd hb3
                      clear hb3
                      go_wp2
                      go_roundw
                      case rel => exact ⟨j + 1, c2, by omega, by go_num, HMI2.out, HS3.out, HRB2.out.below HB3.out, HFR2.out.trans ((Fr.of_below HB3.out).mono HFR2.out.size (fun _ _ h => h))⟩
                      case measure => simp [intOf]; omega
                    | true =>
                      rw [hb4] at KK
                      obtain ⟨c3, hm3, hp3, hr3⟩ := HFI.out (by simpa using hb3) (Or.inr (by simpa using hb2)) hb4
                      have HM3 := Hd hm3
                      have HP3 := Hd hp3
                      have HR3 := Hd hr3
                      clear hm3 hp3 hr3
                      go_wp2_with fail
                      refine KK.out.mono ?_
                      rintro q w3 ⟨rfl, hb3⟩
                      obtain ⟨hc3, hf3, u3, hu3⟩ := HBX.out _ hb3
                      have HB3 := Hd hb3
                      clear hb3
                      go_wp2
                      go_roundw
                      case rel => exact ⟨j + 1, c3, by omega, by go_num, HM3.out, HP3.out, HR3.out _ HB3.out, (HFR2.out.trans ((Fr.of_below HB3.out).mono HFR2.out.size (fun _ _ h => h))).setCell (p := ⟨X.s, k, none⟩) (fun _ => Or.inl rfl) _⟩
                      case measure => simp [intOf]; omega
                | false =>
                  have b2 : (rSt P c2 j == [108, 101, 102, 116]) = false := hb2
                  have b2' : (rSt P c2 j = [108, 101, 102, 116]) = False := beqF b2
                  cases hb3 : rSt P c2 k == stName 1 with
                  | false =>
                    have b3 : (rSt P c2 k == [119, 97, 105, 116, 115]) = false := hb3
                    have b3' : (rSt P c2 k = [119, 97, 105, 116, 115]) = False := beqF b3
                    have HS3 := Hd (HSK.out (HFN.out false false false _ hb1 hb2 hb3 rfl rfl))
                    go_wp2
                    go_roundw
                    case rel => exact ⟨j + 1, c2, by omega, by go_num, HMI2.out, HS3.out, HRB2.out, HFR2.out⟩
                    case measure => simp [intOf]; omega
                  | true =>
                    have b3 : (rSt P c2 k == [119, 97, 105, 116, 115]) = true := hb3
                    have b3' : (rSt P c2 k = [119, 97, 105, 116, 115]) = True := beqT b3
                    have HS3 := Hd (HSK.out (HFN.out false false true _ hb1 hb2 hb3 rfl rfl))
                    go_wp2
                    go_roundw
                    case rel => exact ⟨j + 1, c2, by omega, by go_num, HMI2.out, HS3.out, HRB2.out, HFR2.out⟩
                    case measure => simp [intOf]; omega
            · obtain rfl : j = R.length := by omega
              have hlcj : ((R.length : Int) < (R.length : Int)) = False := eq_false (by omega)
              clear hmid hps hrb hfr
              go_wp2
              go_roundw
              case rel => exact ⟨k + 1, c2, by omega, by go_num, HMI2.out, HPS2.out.next, HRB2.out, HFR2.out⟩
              case measure => simp [intOf]; omega
        · obtain rfl : k = R.length := by omega
          have hlck : ((R.length : Int) < (R.length : Int)) = False := eq_false (by omega)
          go_wp2
          go_roundw
          case rel => exact ⟨r + 1, c1, by omega, by go_num, HMI1.out, HPS1.out.stop HSH.out, HRB1.out, HFR1.out⟩
          case measure => simp [intOf]; omega
    · obtain rfl : r = R.length := by omega
      have hlc : ((R.length : Int) < (R.length : Int)) = False := eq_false (by omega)
      go_wp2
      go_end0
      exact ⟨rfl, c0, HMI.out.fine HOO.out HPP.out.lt HPP.out.shut (by rw [HLM.out]; exact fine_end (HMI.out.one HOO.out) HSH.out), HRB.out, HFR.out⟩
end Go.Proofs.YtgjialbmlhbngaaGreatDoor
