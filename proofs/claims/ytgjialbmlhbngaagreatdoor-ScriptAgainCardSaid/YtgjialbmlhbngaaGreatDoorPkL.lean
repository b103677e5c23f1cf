/-
  The program's tree: New, Get, Remove, Put; strings.HasPrefix. The reference's acts: has, in, lay.
-/
import Derived.Test.YtgjialbmlhbngaaGreatDoorPkK
import Derived.Test.YtgjialbmlhbngaaGreatDoorPkF
import Derived.Test.YtgjialbmlhbngaaGreatDoorPkX
import Derived.Test.YtgjialbmlhbngaaGreatDoorPkC
import Derived.BigQuiet
import Derived.Test.YtgjialbmlhbngaaGreatDoorPkE

set_option maxRecDepth 100000
namespace Go.Proofs.YtgjialbmlhbngaaGreatDoor
open Go Go.RowKit Go.Kf
abbrev Ent := List UInt8 × List UInt8
structure TErr (w : World) (S : Nat → Addr) : Prop where
  var : ∀ k, k ∈ [1, 2, 3, 5, 6, 7] → w.cell? ⟨sentG k, 0, none⟩ = some (errV (S k))
theorem TErr.below {w w' : World} {S : Nat → Addr} {B : Nat} (h : TErr w S) (hb : Below B w w') (hB : w.heap.size ≤ B) : TErr w' S :=
  ⟨fun k hk => (hb.cell (p := ⟨sentG k, 0, none⟩) (Nat.lt_of_lt_of_le (lt_of_cell (h.var k hk)) hB)).trans (h.var k hk)⟩
theorem tErr_of_errW {w : World} {S : Nat → Addr} (h : ErrW w S) : TErr w S := ⟨fun k hk => h.var k (by
  simp only [List.mem_cons, List.not_mem_nil, or_false] at hk
  omega)⟩
theorem pErr_of_tErr {w : World} {S : Nat → Addr} (h : TErr w S) : PErr w S := ⟨h.var 1 (by decide), h.var 2 (by decide), h.var 3 (by decide), h.var 5 (by decide)⟩
theorem hasPrefix_any (s p : List UInt8) (w : World) :
    Calls Tryz.prog 71 #[str s, str p] w fun e w' => e = .returned (.bool (p.isPrefixOf s)) ∧ w = w' := by
  by_cases hle : p.length ≤ s.length
  · have hx : (⟨s.toArray⟩ : ByteArray).extract 0 p.length = ⟨(s.take p.length).toArray⟩ := by rw [extract_list]; simp
    have HV : Hid ((s.take p.length == p) = p.isPrefixOf s) := Hd (by
      rw [Bool.eq_iff_iff, List.isPrefixOf_iff_prefix, List.prefix_iff_eq_take, beq_iff_eq]
      exact eq_comm)
    go_enter Tryz.func71, Tryz.ntmps71
    go_wp2
    go_ret
    exact ⟨congrArg (fun b => Ending.returned (Value.bool b)) HV.out, rfl⟩
  · have hv : p.isPrefixOf s = false := by
      rw [Bool.eq_false_iff]
      intro h
      exact hle (List.IsPrefix.length_le (List.isPrefixOf_iff_prefix.1 h))
    rw [hv]
    clear hv
    go_enter Tryz.func71, Tryz.ntmps71
    go_wp2
    go_ret
    exact ⟨rfl, rfl⟩
def aboveB (a b : List UInt8) : Bool := (a ++ [47]).isPrefixOf b
theorem aboveB_iff {a b : List UInt8} : aboveB a b = true ↔ (a ++ [47]) <+: b := List.isPrefixOf_iff_prefix
theorem tmapKey : KeyBy Tryz.prog 9 str := KeyBy.string Tryz.underlying9
theorem tmapUnd : Tryz.prog.underlying 123 = some (.map 9 9) := Tryz.underlying123
theorem tzeroStr (w : World) : (zeroValue 9).run Tryz.prog w = .ok (str []) w := by kernel_rfl
structure TAt (w : World) (tb mb : Nat) (m : List Ent) : Prop where
  blk : w.heap[tb]? = some (.cells #[.map (some mb)] 125 (0, 0))
  map : MapIs str str w mb m
theorem TAt.cell {w : World} {tb mb : Nat} {m : List Ent} (h : TAt w tb mb m) : w.cell? ⟨tb, 0, none⟩ = some (.map (some mb)) := (cell_of_heap h.blk 0).trans rfl
theorem TAt.ne {w : World} {tb mb : Nat} {m : List Ent} (h : TAt w tb mb m) : tb ≠ mb := fun e => by
  obtain ⟨es, clock, hb, -⟩ := h.map
  rw [← e, h.blk] at hb
  cases hb
theorem TAt.lt {w : World} {tb mb : Nat} {m : List Ent} (h : TAt w tb mb m) : tb < w.heap.size ∧ mb < w.heap.size := ⟨lt_of_heap h.blk, h.map.lt⟩
theorem TAt.of_fr {w w' : World} {tb mb : Nat} {m : List Ent} {B : Nat} {S : Nat → Prop} (h : TAt w tb mb m) (hf : Fr B S w w') (h1 : tb < B ∧ mb < B) (h2 : ¬ S tb) (h3 : ¬ S mb) : TAt w' tb mb m :=
  ⟨(hf.block _ h1.1 h2).trans h.blk, h.map.of_block (hf.block _ h1.2 h3)⟩
theorem TAt.below {w w' : World} {tb mb : Nat} {m : List Ent} (h : TAt w tb mb m) (hb : Below w.heap.size w w') : TAt w' tb mb m :=
  h.of_fr (S := fun _ => False) (Fr.of_below hb) h.lt id id
theorem new_tree (w : World) : Calls Tryz.prog 66 #[] w fun e w' => ∃ tb mb, e = .returned (.pointer (some ⟨tb, 0, none⟩)) ∧ w.heap.size ≤ tb ∧ w.heap.size ≤ mb ∧ TAt w' tb mb [] ∧ Below w.heap.size w w' := by
  have hmm := @run_makeMap Tryz.prog
  go_enter Tryz.func66, Tryz.ntmps66
  go_wp2
  go_ret
  refine ⟨w.heap.size + 1, w.heap.size, rfl, by omega, by omega, ⟨?_, ?_⟩, ?_⟩
  · have := heap_alloc_here (w.alloc (.map #[] 0)) (.cells #[.map (some w.heap.size)] 125)
    simpa using this
  · exact (MapIs.made w).of_block (Below.heap_alloc _ _ _ (by simp))
  · exact ((Below.refl _ w).alloc (Nat.le_refl _) _).alloc (by simp) _
theorem get_tree (tb mb : Nat) (m : List Ent) (p : List UInt8) (w : World) (h : TAt w tb mb m) :
    Calls Tryz.prog 23 #[.pointer (some ⟨tb, 0, none⟩), str p] w fun e w' => e = .returned (.tuple #[str ((mlook p m).getD []), .bool (mlook p m).isSome]) ∧ w = w' := by
  have c0 := h.cell
  have hlk := h.map.lookup tmapKey tmapUnd tzeroStr p true
  simp only [if_true] at hlk
  clear h
  cases hk : mlook p m with
  | none =>
    rw [hk] at hlk
    simp only [Option.map_none, Option.getD_none, Option.isSome_none] at hlk
    go_enter Tryz.func23, Tryz.ntmps23
    go_wp2
    go_ret2
    exact ⟨rfl, rfl⟩
  | some v =>
    rw [hk] at hlk
    simp only [Option.map_some, Option.getD_some, Option.isSome_some] at hlk
    go_enter Tryz.func23, Tryz.ntmps23
    go_wp2
    go_ret2
    exact ⟨rfl, rfl⟩
theorem mdel_none {p : List UInt8} : ∀ {m : List Ent}, mlook p m = none → mdel p m = m
  | [], _ => rfl
  | x :: m, h => by
    unfold mlook at h
    unfold mdel
    split at h
    · cases h
    · rename_i hne
      rw [if_neg hne, mdel_none h]
def removeC (p : List UInt8) (m : List Ent) : Nat := if (mlook p m).isSome = true then 0 else 6
theorem remove_tree (tb mb : Nat) (m : List Ent) (p : List UInt8) (w : World) (S : Nat → Addr) (h : TAt w tb mb m) (hE : TErr w S) :
    Calls Tryz.prog 18 #[.pointer (some ⟨tb, 0, none⟩), str p] w fun e w' => e = .returned (codeV S (removeC p m)) ∧ TAt w' tb mb (mdel p m) ∧ Fr w.heap.size (fun k => k = mb) w w' := by
  have c0 := h.cell
  have hlk := h.map.lookup tmapKey tmapUnd tzeroStr p true
  simp only [if_true] at hlk
  have H := Hd h
  have v5 := hE.var 5 (by decide)
  simp only [sentG] at v5
  unfold removeC
  cases hk : mlook p m with
  | none =>
    rw [hk] at hlk
    simp only [Option.map_none, Option.getD_none, Option.isSome_none] at hlk
    have HM := Hd (mdel_none hk)
    clear h hE hk
    go_enter Tryz.func18, Tryz.ntmps18
    go_wp2
    go_ret
    rw [HM.out]
    exact ⟨rfl, H.out, .refl _ _ _⟩
  | some v =>
    rw [hk] at hlk
    simp only [Option.map_some, Option.getD_some, Option.isSome_some] at hlk
    obtain ⟨es2, clock2, hdel, hmap2⟩ := MapIs.delete tmapKey tmapUnd h.map p 0
    have HM := Hd hmap2
    clear h hE hk hmap2
    go_enter Tryz.func18, Tryz.ntmps18
    go_wp2
    go_ret
    have hF : Fr w.heap.size (fun k => k = mb) w (putMap w mb es2 clock2) := Fr.putMap (S := fun k => k = mb) (Fr.refl _ _ _) (fun _ => rfl) _ _
    exact ⟨rfl, ⟨(hF.block _ H.out.lt.1 H.out.ne).trans H.out.blk, HM.out⟩, hF⟩
def clash (p : List UInt8) (m : List Ent) : Bool := m.any fun x => aboveB p x.1 || aboveB x.1 p
def putC (p b : List UInt8) (m : List Ent) : Nat :=
  if isPathB p = false then 4 else if 2000 < b.length then 2 else if clash p m = true then 7 else if (mlook p m).isSome = false ∧ 60 ≤ m.length then 8 else 0
def putM (p b : List UInt8) (m : List Ent) : List Ent := if putC p b m = 0 then mupd p b m else m
theorem mem_eraseIdx {α : Type} {l : List α} {i : Nat} (hi : i < l.length) {y : α} (h : y ∈ l) : y = l[i] ∨ y ∈ l.eraseIdx i := by
  obtain ⟨j, hj, rfl⟩ := List.getElem_of_mem h
  by_cases e : j = i
  · subst e; exact Or.inl rfl
  · right
    rw [List.mem_eraseIdx_iff_getElem]
    exact ⟨j, hj, e, rfl⟩
set_option maxHeartbeats 1000000 in
theorem put_tree (tb mb : Nat) (m : List Ent) (p b : List UInt8) (w : World) (S : Nat → Addr) (h : TAt w tb mb m) (hm : Ml w) (hE : TErr w S) (hp : p.length ≤ 1000000) (hml : m.length ≤ 1000) (hkl : ∀ y ∈ m, y.1.length ≤ 1000000) :
    Calls Tryz.prog 19 #[.pointer (some ⟨tb, 0, none⟩), str p, str b] w fun e w' => e = .returned (codeV S (putC p b m)) ∧ TAt w' tb mb (putM p b m) ∧ Fr w.heap.size (fun k => k = mb) w w' := by
  have HKL := Hd hkl
  clear hkl
  have H := Hd h
  have HE := Hd hE
  have hck := check_any p w S hm (pErr_of_tErr hE).p1 hp
  clear h hm hE
  by_cases hp0 : isPathB p = false
  · have hv : checkV S p = errI (S 3) := by
      unfold isPathB at hp0
      unfold checkV
      rw [if_pos (by simpa using hp0)]
    rw [hv] at hck
    have HC := Hd hck
    have e1 : putC p b m = 4 := by unfold putC; rw [if_pos hp0]
    have e2 : putM p b m = m := by unfold putM; rw [e1]; rfl
    rw [e1, e2]
    clear hck hv hp0 e1 e2
    go_enter Tryz.func19, Tryz.ntmps19
    go_wp2_with fail
    refine HC.out.mono ?_
    rintro e w1 ⟨rfl, hb1⟩
    go_wp2
    go_ret
    exact ⟨rfl, H.out.below hb1, Fr.of_below hb1⟩
  have hv : checkV S p = .nilIface := by
    unfold isPathB at hp0
    unfold checkV
    rw [if_neg (by simpa using hp0)]
  rw [hv] at hck
  have HC := Hd hck
  clear hck hv
  by_cases hb0 : 2000 < b.length
  · have e1 : putC p b m = 2 := by unfold putC; rw [if_neg hp0, if_pos hb0]
    have e2 : putM p b m = m := by unfold putM; rw [e1]; rfl
    rw [e1, e2]
    clear hp0 e1 e2
    go_enter Tryz.func19, Tryz.ntmps19
    go_wp2_with fail
    refine HC.out.mono ?_
    rintro e w1 ⟨rfl, hb1⟩
    have v1 := (HE.out.below hb1 (Nat.le_refl _)).var 1 (by decide)
    simp only [sentG] at v1
    have H1 := Hd hb1
    clear hb1
    go_wp2
    go_ret
    exact ⟨rfl, H.out.below H1.out, Fr.of_below H1.out⟩
  have HQ : Hid (putC p b m = if clash p m = true then 7 else if (mlook p m).isSome = false ∧ 60 ≤ m.length then 8 else 0) := Hd (by unfold putC; rw [if_neg hp0, if_neg hb0])
  clear hp0
  go_enter Tryz.func19, Tryz.ntmps19
  go_wp2_with fail
  refine HC.out.mono ?_
  rintro e w1 ⟨rfl, hb1⟩
  have h1 := H.out.below hb1
  have HE1 := Hd (HE.out.below hb1 (Nat.le_refl _))
  have c1 := h1.cell
  obtain ⟨w2, hrg, hR, hb2⟩ := Ranging.start (P := Tryz.prog) tmapUnd h1.map
  have HT1 := Hd h1
  have HB1 := Hd hb1
  have HB2 := Hd hb2
  have HR2 := Hd hR
  obtain ⟨r, hr⟩ : ∃ r, w1.heap.size = r := ⟨_, rfl⟩
  have HRR := Hd hr
  rw [hr] at hrg HR2
  clear h1 hb1 hb2 hR hr
  go_wp2_with fail
  have hse : (⟨p.toArray⟩ : ByteArray) ++ (⟨#[47]⟩ : ByteArray) = ⟨(p ++ [47]).toArray⟩ := by
    rw [show (⟨#[47]⟩ : ByteArray) = ⟨([47] : List UInt8).toArray⟩ from rfl, str_app]
  go_loopw [8] (fun _ wl => ∃ left, Ranging str str mb r m left wl ∧ (∀ y ∈ left, y ∈ m) ∧ (∀ y ∈ m, y ∈ left ∨ (aboveB p y.1 || aboveB y.1 p) = false) ∧ Below w1.heap.size w1 wl) (fun _ wl => iterLeft wl mb r)
  case atStart => exact ⟨m, HR2.out, fun y hy => hy, fun y hy => Or.inl hy, HB2.out⟩
  case round =>
    obtain ⟨left, hR, hsub, hno, hbl⟩ := hrel
    have HN := Hd hno
    have HL := Hd hbl
    have HI := Hd (iterLeft_of hR)
    have HS := Hd hsub
    clear hno hbl hsub HR2 HB2
    have HBw : Hid (Below w.heap.size w wr) := Hd (HB1.out.trans (HL.out.mono HB1.out.size))
    rcases hR.next (P := Tryz.prog) 0 with ⟨rfl, hnx⟩ | ⟨i, hi, w3, hnx, hR3, hF3, hz3, hen⟩
    · clear hR
      have HT := Hd (HT1.out.below HL.out)
      have hc0 := HT.out.cell
      have HCl : Hid (clash p m = false) := Hd (by
        unfold clash
        rw [List.any_eq_false]
        intro y hy
        rcases HN.out y hy with h | h
        · cases h
        · simpa using h)
      have hlk := HT.out.map.lookup tmapKey tmapUnd tzeroStr p true
      simp only [if_true] at hlk
      have hln := MapIs.len (P := Tryz.prog) tmapUnd HT.out.map 3
      have fin : ∀ es2 clock2, MapIs str str (putMap wr mb es2 clock2) mb (mupd p b m) → TAt (putMap wr mb es2 clock2) tb mb (mupd p b m) ∧ Fr w.heap.size (fun k => k = mb) w (putMap wr mb es2 clock2) := by
        intro es2 clock2 hmp
        have hF : Fr wr.heap.size (fun k => k = mb) wr (putMap wr mb es2 clock2) := Fr.putMap (S := fun k => k = mb) (Fr.refl _ _ _) (fun _ => rfl) _ _
        exact ⟨⟨(hF.block _ HT.out.lt.1 HT.out.ne).trans HT.out.blk, hmp⟩, (Fr.of_below HBw.out).trans (hF.mono HBw.out.size (fun _ _ h => h))⟩
      have FIN := Hd fin
      clear fin
      cases hk : mlook p m with
      | none =>
        rw [hk] at hlk
        simp only [Option.map_none, Option.getD_none, Option.isSome_none] at hlk
        by_cases h60 : 60 ≤ m.length
        · have e1 : putC p b m = 8 := by rw [HQ.out, HCl.out, hk]; simp [h60]
          have e2 : putM p b m = m := by unfold putM; rw [e1]; rfl
          have v7 := (HE.out.below HBw.out (Nat.le_refl _)).var 7 (by decide)
          simp only [sentG] at v7
          have E1 := Hd e1
          have E2 := Hd e2
          clear hk HN HCl e1 e2
          go_wp2
          go_ret
          rw [E1.out, E2.out]
          exact ⟨rfl, HT.out, Fr.of_below HBw.out⟩
        · have e1 : putC p b m = 0 := by rw [HQ.out, HCl.out, hk]; simp [h60]
          have e2 : putM p b m = mupd p b m := by unfold putM; rw [e1]; rfl
          obtain ⟨es2, clock2, hup, hmap2⟩ := HT.out.map.update tmapKey tmapUnd p b
          have E1 := Hd e1
          have E2 := Hd e2
          have HM := Hd hmap2
          clear hk HN HCl e1 e2 hmap2
          go_wp2
          go_ret
          rw [E1.out, E2.out]
          exact ⟨rfl, FIN.out _ _ HM.out⟩
      | some v =>
        rw [hk] at hlk
        simp only [Option.map_some, Option.getD_some, Option.isSome_some] at hlk
        have e1 : putC p b m = 0 := by rw [HQ.out, HCl.out, hk]; simp
        have e2 : putM p b m = mupd p b m := by unfold putM; rw [e1]; rfl
        obtain ⟨es2, clock2, hup, hmap2⟩ := HT.out.map.update tmapKey tmapUnd p b
        have E1 := Hd e1
        have E2 := Hd e2
        have HM := Hd hmap2
        clear hk HN HCl e1 e2 hmap2
        go_wp2
        go_ret
        rw [E1.out, E2.out]
        exact ⟨rfl, FIN.out _ _ HM.out⟩
    · have HM := Hd (HS.out _ (List.getElem_mem hi))
      have HE3 := Hd (fun y (hy : y ∈ left) => mem_eraseIdx hi hy)
      have HLn : Hid ((left.eraseIdx i).length < left.length) := Hd (by rw [List.length_eraseIdx, if_pos hi]; omega)
      have HS3 : Hid (∀ y ∈ left.eraseIdx i, y ∈ m) := Hd (fun y hy => HS.out y (List.mem_of_mem_eraseIdx hy))
      have HR3 := Hd hR3
      have HW3 : Hid (Below w1.heap.size w1 w3) := Hd (HL.out.trans ((hF3.mono (S' := fun k => k = r) HL.out.size (fun _ _ h => h)).below (fun k hk e => by have := HRR.out; omega)))
      clear hR hR3 hF3 hz3
      generalize left.eraseIdx i = left2 at *
      obtain ⟨x, hx⟩ : ∃ x, left[i] = x := ⟨_, rfl⟩
      rw [hx] at hnx hen HM HE3
      clear hx hi
      obtain ⟨s, c⟩ := x
      have hsl : s.length ≤ 1000000 := HKL.out _ HM.out
      have hsf : (⟨s.toArray⟩ : ByteArray) ++ (⟨#[47]⟩ : ByteArray) = ⟨(s ++ [47]).toArray⟩ := by
        rw [show (⟨#[47]⟩ : ByteArray) = ⟨([47] : List UInt8).toArray⟩ from rfl, str_app]
      have HBx : Hid (Below w.heap.size w w3) := Hd (HB1.out.trans (HW3.out.mono HB1.out.size))
      have yes : (aboveB p s || aboveB s p) = true → putC p b m = 7 ∧ putM p b m = m := by
        intro h
        have hc : clash p m = true := by
          unfold clash
          rw [List.any_eq_true]
          exact ⟨_, HM.out, h⟩
        have e1 : putC p b m = 7 := by rw [HQ.out, hc]; rfl
        exact ⟨e1, by unfold putM; rw [e1]; rfl⟩
      have YES := Hd yes
      clear yes
      have v6 := (HE.out.below HBx.out (Nat.le_refl _)).var 6 (by decide)
      simp only [sentG] at v6
      cases q1 : aboveB p s with
      | true =>
        obtain ⟨e1, e2⟩ := YES.out (by rw [q1]; rfl)
        have E1 := Hd e1
        have E2 := Hd e2
        have K1 := Hd (fun w' => hasPrefix_any s (p ++ [47]) w')
        have Q1 : Hid ((p ++ [47]).isPrefixOf s = true) := Hd q1
        clear e1 e2 q1 YES HE3
        go_wp2_with fail
        refine (K1.out _).mono ?_
        rintro e w4 ⟨rfl, rfl⟩
        rw [Q1.out]
        go_wp2
        go_ret
        rw [E1.out, E2.out]
        exact ⟨rfl, HT1.out.below HW3.out, Fr.of_below HBx.out⟩
      | false =>
        have K1 := Hd (fun w' => hasPrefix_any s (p ++ [47]) w')
        have K2 := Hd (fun w' => hasPrefix_any p (s ++ [47]) w')
        have Q1 : Hid ((p ++ [47]).isPrefixOf s = false) := Hd q1
        cases q2 : aboveB s p with
        | true =>
          obtain ⟨e1, e2⟩ := YES.out (by rw [q1, q2]; rfl)
          have E1 := Hd e1
          have E2 := Hd e2
          have Q2 : Hid ((s ++ [47]).isPrefixOf p = true) := Hd q2
          clear e1 e2 q1 q2 YES HE3
          go_wp2_with fail
          refine (K1.out _).mono ?_
          rintro e w4 ⟨rfl, rfl⟩
          rw [Q1.out]
          go_wp2_with fail
          refine (K2.out _).mono ?_
          rintro e w4 ⟨rfl, rfl⟩
          rw [Q2.out]
          go_wp2
          go_ret
          rw [E1.out, E2.out]
          exact ⟨rfl, HT1.out.below HW3.out, Fr.of_below HBx.out⟩
        | false =>
          have Q2 : Hid ((s ++ [47]).isPrefixOf p = false) := Hd q2
          have HN3 : Hid (∀ y ∈ m, y ∈ left2 ∨ (aboveB p y.1 || aboveB y.1 p) = false) := Hd (by
            intro y hy
            rcases HN.out y hy with h | h
            · rcases HE3.out y h with rfl | h
              · right
                rw [q1, q2]; rfl
              · exact Or.inl h
            · exact Or.inr h)
          clear q1 q2 YES HE3 HN
          go_wp2_with fail
          refine (K1.out _).mono ?_
          rintro e w4 ⟨rfl, rfl⟩
          rw [Q1.out]
          go_wp2_with fail
          refine (K2.out _).mono ?_
          rintro e w4 ⟨rfl, rfl⟩
          rw [Q2.out]
          go_wp2
          go_roundw
          case rel => exact ⟨left2, HR3.out, HS3.out, HN3.out, HW3.out⟩
          case measure => rw [iterLeft_of HR3.out, HI.out]; exact HLn.out
open Go.Sort Go.Proofs
theorem join_snoc (sep x : List UInt8) : ∀ {l : List (List UInt8)}, l ≠ [] → Lib.join (l ++ [x]) sep = Lib.join l sep ++ sep ++ x
  | [], h => absurd rfl h
  | [s], _ => by simp [Lib.join]
  | s :: t :: r, _ => by
    have ih := join_snoc sep x (l := t :: r) (by simp)
    have e1 : Lib.join (s :: t :: r) sep = s ++ (sep ++ Lib.join (t :: r) sep) := by simp [Lib.join]
    have e2 : Lib.join (s :: t :: r ++ [x]) sep = s ++ (sep ++ Lib.join (t :: r ++ [x]) sep) := by simp [Lib.join]
    rw [e2, ih, e1]
    simp
end Go.Proofs.YtgjialbmlhbngaaGreatDoor
