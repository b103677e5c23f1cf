/-
  Package act: Check and Run of any command.
-/
import Derived.Test.YtmkpeopebddnjaaGreatDoorActE
namespace Go.Proofs.YtmkpeopebddnjaaGreatDoor
open Go Go.RowKit Go.Kf Go.Sort Go.Proofs

/-- The errors of package act lie at S. -/
structure AErr (w : World) (S : Nat → Addr) : Prop where
  shape : w.cell? ⟨5, 0, none⟩ = some (errI (S 2))
  kind : w.cell? ⟨7, 0, none⟩ = some (errI (S 4))
  long : w.cell? ⟨6, 0, none⟩ = some (errI (S 9))
theorem AErr.below {B : Nat} {w w' : World} {S : Nat → Addr} (h : AErr w S) (hb : Below B w w') (hB : w.heap.size ≤ B) : AErr w' S :=
  have keep : ∀ {p : Addr} {v : Value}, w.cell? p = some v → w'.cell? p = some v := fun hc => (hb.cell (by have := lt_of_cell hc; omega)).trans hc
  ⟨keep h.shape, keep h.kind, keep h.long⟩
/-- An error by its number. -/
def errN (S : Nat → Addr) (c : Nat) : Value := if c = 0 then .nilIface else errI (S (c - 1))

/-- Is a word right for a kind? -/
def kwordB (f : Nat) (s : List UInt8) : Bool :=
  if f = 68 then true else if f = 72 then s == [] else if f = 75 then (s == [] || s == onceB) else if f = 78 then pairB s else (num3 s).isSome
/-- An error's number of a command (0: it is right). -/
def actErr (name word : List UInt8) (n : Nat) : Nat :=
  match mlook name kindsL with
  | none => 5
  | some k => if k.least ≤ (n : Int) ∧ (n : Int) ≤ k.most ∧ kwordB k.word word = true then (if 100 < word.length then 10 else 0) else 3

set_option maxRecDepth 100000 in
theorem empty_any (s : List UInt8) (w : World) : Calls Tryz.prog 72 #[str s] w fun e w' => e = .returned (.bool (s == [])) ∧ Below w.heap.size w w' := by
  obtain ⟨b, hb⟩ : ∃ b, (s == []) = b := ⟨_, rfl⟩
  rw [hb]
  go_enter Tryz.func72, Tryz.ntmps72
  go_wp2
  go_ret
  exact ⟨rfl, Below.refl _ _⟩
set_option maxRecDepth 100000 in
theorem sortw_any (s : List UInt8) (w : World) : Calls Tryz.prog 75 #[str s] w fun e w' => e = .returned (.bool (s == [] || s == onceB)) ∧ Below w.heap.size w w' := by
  cases h1 : (s == []) with
  | true =>
    rw [Bool.true_or]
    go_enter Tryz.func75, Tryz.ntmps75
    go_wp2
    go_ret
    exact ⟨rfl, Below.refl _ _⟩
  | false =>
    rw [Bool.false_or]
    obtain ⟨b, hb⟩ : ∃ b, (s == onceB) = b := ⟨_, rfl⟩
    rw [hb]
    have hb' : (s == [111, 110, 99, 101]) = b := hb
    clear hb
    go_enter Tryz.func75, Tryz.ntmps75
    go_wp2
    go_ret
    exact ⟨rfl, Below.refl _ _⟩

/-- The kinds there are. -/
theorem mlook_mem {β : Type} {name : List UInt8} {k : β} : ∀ {l : List (List UInt8 × β)}, mlook name l = some k → (name, k) ∈ l
  | [], h => by cases h
  | p :: l, h => by
    unfold mlook at h
    split at h
    · rename_i he
      obtain rfl := Option.some.inj h
      rw [← he]
      exact List.mem_cons_self
    · exact List.mem_cons_of_mem _ (mlook_mem h)
theorem kinds_mem {name : List UInt8} {k : Kd} (h : mlook name kindsL = some k) : ∃ n, (n, k) ∈ kindsL := ⟨name, mlook_mem h⟩
set_option maxRecDepth 100000 in
theorem kind_word {name : List UInt8} {k : Kd} (h : mlook name kindsL = some k) (word : List UInt8) (w : World) (hN : NErr w) (ht : Tab w) (hl : word.length ≤ 100000) :
    Enters k.word ∧ WordIs w.heap.size w k.word word (kwordB k.word word) := by
  obtain ⟨n, hm⟩ := kinds_mem h
  have any : WordIs w.heap.size w 68 word (kwordB 68 word) := anything_word _ _ _
  have emp : WordIs w.heap.size w 72 word (kwordB 72 word) := fun w1 _ => empty_any word w1
  have srt : WordIs w.heap.size w 75 word (kwordB 75 word) := fun w1 _ => sortw_any word w1
  have par : WordIs w.heap.size w 78 word (kwordB 78 word) := fun w1 _ => pair_any word w1
  have dig : WordIs w.heap.size w 80 word (kwordB 80 word) := fun w1 hb => digits_any word w1 (hN.below hb (Nat.le_refl _)) (tab_below ht hb (Nat.le_refl _)) hl
  unfold kindsL at hm
  simp only [List.mem_cons, Prod.mk.injEq, List.not_mem_nil, or_false] at hm
  rcases hm with ⟨-, rfl⟩ | ⟨-, rfl⟩ | ⟨-, rfl⟩ | ⟨-, rfl⟩ | ⟨-, rfl⟩ | ⟨-, rfl⟩ | ⟨-, rfl⟩ | ⟨-, rfl⟩
  · exact ⟨fun _ _ => rfl, any⟩
  · exact ⟨fun _ _ => rfl, any⟩
  · exact ⟨fun _ _ => rfl, emp⟩
  · exact ⟨fun _ _ => rfl, any⟩
  · exact ⟨fun _ _ => rfl, srt⟩
  · exact ⟨fun _ _ => rfl, emp⟩
  · exact ⟨fun _ _ => rfl, par⟩
  · exact ⟨fun _ _ => rfl, dig⟩

set_option maxRecDepth 100000 in
theorem check_none (name word : List UInt8) (n : Nat) (w : World) (S : Nat → Addr) (hE : AErr w S) (hk : mlook name kindsL = none) :
    Calls Tryz.prog 35 #[str name, str word, .int .i64 (n : Int)] w fun e w' => e = .returned (errI (S 4)) ∧ Below w.heap.size w w' := by
  have K0 := Lib.hid (kinds_any w)
  have HK := Lib.hid hk
  have HE := Lib.hid hE
  clear hk hE
  go_enter Tryz.func35, Tryz.ntmps35
  go_wp2_with fail
  refine K0.out.mono ?_
  rintro e w1 ⟨mb, rfl, hmb, hM, hb1⟩
  have hlk := MapIs.lookup kmapKey kmapUnd kzero hM name true
  rw [HK.out] at hlk
  simp only [if_true, Option.map_none, Option.getD_none, Option.isSome_none, kdZero] at hlk
  have hA : Below w.heap.size w (w1.alloc (.cells #[.int .i64 0, .int .i64 0, .nilFunc, .nilFunc] 98)) := hb1.alloc hb1.size _
  have hce := (HE.out.below hA (Nat.le_refl _)).kind
  have HA := Lib.hid hA
  clear hM hb1 hA
  go_wp2
  go_ret
  exact ⟨rfl, HA.out⟩

set_option maxRecDepth 100000 in
theorem check_shape (name word : List UInt8) (n : Nat) (k : Kd) (w : World) (S : Nat → Addr) (hE : AErr w S) (hk : mlook name kindsL = some k) (h1 : (n : Int) < k.least ∨ (k.least ≤ (n : Int) ∧ k.most < (n : Int))) :
    Calls Tryz.prog 35 #[str name, str word, .int .i64 (n : Int)] w fun e w' => e = .returned (errI (S 2)) ∧ Below w.heap.size w w' := by
  have K0 := Lib.hid (kinds_any w)
  have HK := Lib.hid hk
  have HE := Lib.hid hE
  obtain ⟨least, most, wf, rf⟩ := k
  simp only at h1
  have hcs : ((n : Int) < least) = True ∨ (((n : Int) < least) = False ∧ (most < (n : Int)) = True) := by
    rcases h1 with h | ⟨h, h'⟩
    · exact Or.inl (eq_true h)
    · exact Or.inr ⟨eq_false (by omega), eq_true h'⟩
  clear hk hE h1
  rcases hcs with hc1 | ⟨hc1, hc2⟩
  all_goals
    go_enter Tryz.func35, Tryz.ntmps35
    go_wp2_with fail
    refine K0.out.mono ?_
    rintro e w1 ⟨mb, rfl, hmb, hM, hb1⟩
    have hlk := MapIs.lookup kmapKey kmapUnd kzero hM name true
    rw [HK.out] at hlk
    simp only [if_true, Option.map_some, Option.getD_some, Option.isSome_some, kdV] at hlk
    have hA : Below w.heap.size w (w1.alloc (.cells #[.int .i64 least, .int .i64 most, .func (.func wf) #[] #[], .func (.func rf) #[] #[]] 98)) := hb1.alloc hb1.size _
    have hce := (HE.out.below hA (Nat.le_refl _)).shape
    have HA := Lib.hid hA
    clear hM hb1 hA
    go_wp2
    go_ret
    exact ⟨rfl, HA.out⟩

set_option maxRecDepth 100000 in
theorem check_word (name word : List UInt8) (n : Nat) (k : Kd) (w : World) (S : Nat → Addr) (b : Bool) (hE : AErr w S) (hk : mlook name kindsL = some k) (h1 : k.least ≤ (n : Int)) (h2 : (n : Int) ≤ k.most) (hw : WordIs w.heap.size w k.word word b) (he : Enters k.word) (hb : b = true → 100 < word.length) :
    Calls Tryz.prog 35 #[str name, str word, .int .i64 (n : Int)] w fun e w' => e = .returned (errI (S (if b = true then 9 else 2))) ∧ Below w.heap.size w w' := by
  have K0 := Lib.hid (kinds_any w)
  have HK := Lib.hid hk
  have HW := Lib.hid hw
  have HE := Lib.hid hE
  obtain ⟨least, most, wf, rf⟩ := k
  have hen := he #[str word]
  simp only at hen
  clear he
  simp only at h1 h2
  have hc1 : ((n : Int) < least) = False := eq_false (by omega)
  have hc2 : (most < (n : Int)) = False := eq_false (by omega)
  clear hk hw hE
  cases b with
  | true =>
    rw [if_pos rfl]
    have hc3 : ((100 : Int) < (word.length : Int)) = True := eq_true (by have := hb rfl; omega)
    clear hb
    go_enter Tryz.func35, Tryz.ntmps35
    go_wp2_with fail
    refine K0.out.mono ?_
    rintro e w1 ⟨mb, rfl, hmb, hM, hb1⟩
    have hlk := MapIs.lookup kmapKey kmapUnd kzero hM name true
    rw [HK.out] at hlk
    simp only [if_true, Option.map_some, Option.getD_some, Option.isSome_some, kdV] at hlk
    have hA : Below w.heap.size w (w1.alloc (.cells #[.int .i64 least, .int .i64 most, .func (.func wf) #[] #[], .func (.func rf) #[] #[]] 98)) := hb1.alloc hb1.size _
    have HA := Lib.hid hA
    have K1 := Lib.hid (HW.out _ hA)
    clear hM hb1 hA
    go_wp2_with fail
    refine K1.out.mono ?_
    rintro e w2 ⟨rfl, hb2⟩
    have HB2 := Lib.hid (HA.out.trans (hb2.mono HA.out.size))
    have hce := (HE.out.below HB2.out (Nat.le_refl _)).long
    clear hb2
    go_wp2
    go_ret
    exact ⟨rfl, HB2.out⟩
  | false =>
    rw [if_neg (by decide)]
    clear hb
    go_enter Tryz.func35, Tryz.ntmps35
    go_wp2_with fail
    refine K0.out.mono ?_
    rintro e w1 ⟨mb, rfl, hmb, hM, hb1⟩
    have hlk := MapIs.lookup kmapKey kmapUnd kzero hM name true
    rw [HK.out] at hlk
    simp only [if_true, Option.map_some, Option.getD_some, Option.isSome_some, kdV] at hlk
    have hA : Below w.heap.size w (w1.alloc (.cells #[.int .i64 least, .int .i64 most, .func (.func wf) #[] #[], .func (.func rf) #[] #[]] 98)) := hb1.alloc hb1.size _
    have HA := Lib.hid hA
    have K1 := Lib.hid (HW.out _ hA)
    clear hM hb1 hA
    go_wp2_with fail
    refine K1.out.mono ?_
    rintro e w2 ⟨rfl, hb2⟩
    have HB2 := Lib.hid (HA.out.trans (hb2.mono HA.out.size))
    have hce := (HE.out.below HB2.out (Nat.le_refl _)).shape
    clear hb2
    go_wp2
    go_ret
    exact ⟨rfl, HB2.out⟩

/-- Check of any command. -/
theorem acheck_any (name word : List UInt8) (n : Nat) (w : World) (S : Nat → Addr) (hE : AErr w S) (hN : NErr w) (ht : Tab w) (hl : word.length ≤ 100000) :
    Calls Tryz.prog 35 #[str name, str word, .int .i64 (n : Int)] w fun e w' => e = .returned (errN S (actErr name word n)) ∧ Below w.heap.size w w' := by
  unfold actErr
  cases hk : mlook name kindsL with
  | none => exact check_none name word n w S hE hk
  | some k =>
    obtain ⟨he, hw⟩ := kind_word hk word w hN ht hl
    simp only
    by_cases h1 : k.least ≤ (n : Int)
    · by_cases h2 : (n : Int) ≤ k.most
      · cases hb : kwordB k.word word with
        | true =>
          rw [if_pos ⟨h1, h2, rfl⟩]
          rw [hb] at hw
          by_cases h3 : 100 < word.length
          · rw [if_pos h3]
            exact check_word name word n k w S true hE hk h1 h2 hw he (fun _ => h3)
          · rw [if_neg h3]
            exact check_ok name word n k w hk h1 h2 hw (by omega) he
        | false =>
          rw [if_neg (fun h => by cases h.2.2)]
          rw [hb] at hw
          exact check_word name word n k w S false hE hk h1 h2 hw he (fun h => by cases h)
      · rw [if_neg (fun h => h2 h.2.1)]
        exact check_shape name word n k w S hE hk (Or.inr ⟨h1, by omega⟩)
    · rw [if_neg (fun h => h1 h.1)]
      exact check_shape name word n k w S hE hk (Or.inl (by omega))
end Go.Proofs.YtmkpeopebddnjaaGreatDoor
