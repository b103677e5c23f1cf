/-
  The plain law of the trees: a map of files and the reference's rising list are one.
-/
import Derived.Test.YtmkpeopebddnjaaGreatDoorRTreeT
import Derived.Test.YtmkpeopebddnjaaGreatDoorRTreeQ
import Derived.Sort.Walk0
namespace Go.Proofs.YtmkpeopebddnjaaGreatDoor
open Go Go.RowKit Go.Kf Go.Sort

abbrev ksOf (L : List Ent) : List (List UInt8) := L.map Prod.fst
theorem lt_ne {a b : List UInt8} (h : a < b) : a ≠ b := fun e => List.lt_irrefl a (by rw [← e] at h; exact h)

theorem mlook_iff {p v : List UInt8} : ∀ {l : List Ent}, (ksOf l).Nodup → (mlook p l = some v ↔ (p, v) ∈ l)
  | [], _ => by simp [mlook]
  | x :: l, hd => by
    have hd' : x.1 ∉ ksOf l ∧ (ksOf l).Nodup := List.nodup_cons.1 hd
    have ih := mlook_iff (p := p) (v := v) hd'.2
    unfold mlook
    by_cases hx : x.1 = p
    · rw [if_pos hx]
      constructor
      · intro h
        obtain rfl := Option.some.inj h
        subst hx
        exact List.mem_cons_self
      · intro h
        rcases List.mem_cons.1 h with h | h
        · rw [← h]
        · exact absurd (List.mem_map.2 ⟨_, h, hx.symm⟩) hd'.1
    · rw [if_neg hx, ih]
      constructor
      · exact fun h => List.mem_cons_of_mem _ h
      · intro h
        rcases List.mem_cons.1 h with h | h
        · exact absurd (by rw [← h]) hx
        · exact h
theorem mlook_perm {p : List UInt8} {m L : List Ent} (h : m.Perm L) (hd : (ksOf L).Nodup) : mlook p m = mlook p L := by
  have hd' : (ksOf m).Nodup := (h.map Prod.fst).nodup_iff.2 hd
  cases hm : mlook p m with
  | some v => exact ((mlook_iff hd).2 (h.mem_iff.1 ((mlook_iff hd').1 hm))).symm
  | none =>
    cases hL : mlook p L with
    | none => rfl
    | some v =>
      have := (mlook_iff hd').2 (h.mem_iff.2 ((mlook_iff hd).1 hL))
      rw [hm] at this; cases this
theorem mdel_filter {p : List UInt8} : ∀ {l : List Ent}, (ksOf l).Nodup → mdel p l = l.filter (fun x => decide (x.1 ≠ p))
  | [], _ => rfl
  | x :: l, hd => by
    have hd' : x.1 ∉ ksOf l ∧ (ksOf l).Nodup := List.nodup_cons.1 hd
    unfold mdel
    by_cases hx : x.1 = p
    · rw [if_pos hx, List.filter_cons_of_neg (by simpa using hx)]
      refine (List.filter_eq_self.2 fun y hy => ?_).symm
      have : y.1 ≠ p := fun e => hd'.1 (by rw [hx, ← e]; exact List.mem_map.2 ⟨y, hy, rfl⟩)
      simpa using this
    · rw [if_neg hx, List.filter_cons_of_pos (by simpa using hx), mdel_filter hd'.2]
theorem mdel_perm {p : List UInt8} {m L : List Ent} (h : m.Perm L) (hd : (ksOf L).Nodup) : (mdel p m).Perm (mdel p L) := by
  rw [mdel_filter hd, mdel_filter ((h.map Prod.fst).nodup_iff.2 hd)]
  exact h.filter _
theorem mupd_perm {p b : List UInt8} : ∀ l : List Ent, (mupd p b l).Perm ((p, b) :: mdel p l)
  | [] => .refl _
  | x :: l => by
    unfold mupd mdel
    by_cases hx : x.1 = p
    · rw [if_pos hx, if_pos hx]
    · rw [if_neg hx, if_neg hx]
      exact ((mupd_perm l).cons x).trans (.swap _ _ _)
theorem mupd_keys {p b : List UInt8} : ∀ {l : List Ent}, (mlook p l).isSome = true → ksOf (mupd p b l) = ksOf l
  | [], h => by simp [mlook] at h
  | x :: l, h => by
    unfold mlook at h
    unfold mupd
    by_cases hx : x.1 = p
    · rw [if_pos hx]; simp [hx]
    · rw [if_neg hx] at h ⊢
      simp only [List.map_cons, mupd_keys h]
theorem insS_perm {p b : List UInt8} (L : List Ent) : (insS p b L).Perm ((p, b) :: L) := by
  unfold insS
  refine List.perm_middle.trans (.cons _ ?_)
  rw [List.takeWhile_append_dropWhile]
theorem insS_cons {p b : List UInt8} (x : Ent) (L : List Ent) : insS p b (x :: L) = if Op.bytesLess x.1 p = true then x :: insS p b L else (p, b) :: x :: L := by
  unfold insS
  by_cases h : Op.bytesLess x.1 p = true
  · simp [h]
  · simp [h]
theorem insS_sorted {p b : List UInt8} : ∀ {L : List Ent}, (ksOf L).Pairwise (· < ·) → p ∉ ksOf L → (ksOf (insS p b L)).Pairwise (· < ·)
  | [], _, _ => by simp [insS]
  | x :: L, h, hn => by
    have h' := List.pairwise_cons.1 h
    simp only [List.map_cons, List.mem_cons, not_or] at hn
    rw [insS_cons]
    by_cases hx : Op.bytesLess x.1 p = true
    · rw [if_pos hx]
      rw [bytesLess_eq, decide_eq_true_eq] at hx
      refine List.pairwise_cons.2 ⟨fun y hy => ?_, insS_sorted h'.2 hn.2⟩
      obtain ⟨z, hz, rfl⟩ := List.mem_map.1 hy
      rcases List.mem_cons.1 ((insS_perm L).mem_iff.1 hz) with rfl | hz
      · exact hx
      · exact h'.1 _ (List.mem_map.2 ⟨z, hz, rfl⟩)
    · rw [if_neg hx]
      rw [bytesLess_eq, decide_eq_true_eq] at hx
      have hpx : p < x.1 := by
        rcases List.le_iff_lt_or_eq.1 (List.not_lt.1 hx) with h | h
        · exact h
        · exact absurd h hn.1
      refine List.pairwise_cons.2 ⟨fun y hy => ?_, h⟩
      rcases List.mem_cons.1 hy with rfl | hy
      · exact hpx
      · exact List.lt_trans hpx (h'.1 _ hy)

/-- The map and the list. -/
structure Tw (m L : List Ent) : Prop where
  perm : m.Perm L
  sort : (ksOf L).Pairwise (· < ·)
  many : m.length ≤ 60
  path : ∀ x ∈ L, isPathB x.1 = true ∧ x.1.length ≤ 100 ∧ x.2.length ≤ 2000
section
variable {m L : List Ent} {p b : List UInt8}
theorem Tw.nodup (h : Tw m L) : (ksOf L).Nodup := h.sort.imp lt_ne
theorem Tw.nodup' (h : Tw m L) : (ksOf m).Nodup := (h.perm.map Prod.fst).nodup_iff.2 h.nodup
theorem Tw.len (h : Tw m L) : m.length = L.length := h.perm.length_eq
theorem Tw.look (h : Tw m L) (p : List UInt8) : mlook p m = mlook p L := mlook_perm h.perm h.nodup
theorem Tw.init : Tw [] [] := ⟨.refl _, .nil, by decide, fun x hx => by cases hx⟩
theorem Tw.clash (h : Tw m L) (p : List UInt8) : clash p m = clash p L := by
  unfold Go.Proofs.YtmkpeopebddnjaaGreatDoor.clash
  rw [Bool.eq_iff_iff, List.any_eq_true, List.any_eq_true]
  exact ⟨fun ⟨x, hx, hc⟩ => ⟨x, h.perm.mem_iff.1 hx, hc⟩, fun ⟨x, hx, hc⟩ => ⟨x, h.perm.mem_iff.2 hx, hc⟩⟩
theorem Tw.putC (h : Tw m L) (p b : List UInt8) : putC p b m = putC p b L := by
  unfold Go.Proofs.YtmkpeopebddnjaaGreatDoor.putC
  rw [h.clash, h.look, h.len]
theorem Tw.removeC (h : Tw m L) (p : List UInt8) : removeC p m = removeC p L := by
  unfold Go.Proofs.YtmkpeopebddnjaaGreatDoor.removeC
  rw [h.look]
theorem look_none (h : mlook p L = none) : p ∉ ksOf L := fun hm => by
  have := mlook_some hm
  rw [h] at this; cases this
theorem Tw.put (h : Tw m L) (hp : p.length ≤ 100) : Tw (putM p b m) (rputM p b L) := by
  unfold putM rputM
  rw [h.putC]
  by_cases hc : Go.Proofs.YtmkpeopebddnjaaGreatDoor.putC p b L = 0
  · rw [if_pos hc, if_pos hc]
    have hpath : isPathB p = true ∧ b.length ≤ 2000 ∧ ((mlook p L).isSome = false → L.length < 60) := by
      unfold Go.Proofs.YtmkpeopebddnjaaGreatDoor.putC at hc
      by_cases h1 : isPathB p = false
      · rw [if_pos h1] at hc; cases hc
      · rw [if_neg h1] at hc
        by_cases h2 : 2000 < b.length
        · rw [if_pos h2] at hc; cases hc
        · rw [if_neg h2] at hc
          by_cases h3 : Go.Proofs.YtmkpeopebddnjaaGreatDoor.clash p L = true
          · rw [if_pos h3] at hc; cases hc
          · rw [if_neg h3] at hc
            refine ⟨by simpa using h1, by omega, fun h4 => ?_⟩
            by_cases h5 : 60 ≤ L.length
            · rw [if_pos ⟨h4, h5⟩] at hc; cases hc
            · omega
    have hpm : (mupd p b m).Perm ((p, b) :: mdel p L) := (mupd_perm m).trans ((mdel_perm h.perm h.nodup).cons _)
    by_cases hs : (mlook p L).isSome = true
    · rw [if_pos hs]
      refine ⟨hpm.trans (mupd_perm L).symm, by rw [mupd_keys hs]; exact h.sort, ?_, fun x hx => ?_⟩
      · have := mupd_keys (b := b) (show (mlook p m).isSome = true by rw [h.look]; exact hs)
        have := congrArg List.length this
        simp only [List.length_map] at this
        rw [this]; exact h.many
      · rcases List.mem_cons.1 ((mupd_perm L).mem_iff.1 hx) with rfl | hx
        · exact ⟨hpath.1, hp, hpath.2.1⟩
        · rw [mdel_filter h.nodup] at hx
          exact h.path x (List.mem_filter.1 hx).1
    · rw [if_neg hs]
      have hn : mlook p L = none := by cases hk : mlook p L with
        | none => rfl
        | some v => rw [hk] at hs; exact absurd rfl hs
      have hdl : mdel p L = L := mdel_none hn
      rw [hdl] at hpm
      refine ⟨hpm.trans (insS_perm L).symm, insS_sorted h.sort (look_none hn), ?_, fun x hx => ?_⟩
      · rw [hpm.length_eq, List.length_cons]
        exact hpath.2.2 (by rw [hn]; rfl)
      · rcases List.mem_cons.1 ((insS_perm L).mem_iff.1 hx) with rfl | hx
        · exact ⟨hpath.1, hp, hpath.2.1⟩
        · exact h.path x hx
  · rw [if_neg hc, if_neg hc]; exact h
theorem Tw.del (h : Tw m L) (p : List UInt8) : Tw (mdel p m) (mdel p L) := by
  refine ⟨mdel_perm h.perm h.nodup, ?_, ?_, fun x hx => ?_⟩
  · rw [mdel_filter h.nodup]
    exact h.sort.sublist ((List.filter_sublist).map _)
  · rw [mdel_filter h.nodup']
    exact Nat.le_trans (List.length_filter_le _ _) h.many
  · rw [mdel_filter h.nodup] at hx
    exact h.path x (List.mem_filter.1 hx).1
theorem Tw.keys (h : Tw m L) : sortK m = ksOf L := by
  unfold sortK
  rw [mergeSort_of_perm (h.perm.map Prod.fst)]
  exact List.mergeSort_of_pairwise (h.sort.imp fun hlt => by simpa [leB] using List.le_of_lt hlt)
theorem Tw.get (h : Tw m L) {x : Ent} (hx : x ∈ L) : mget m x.1 = x.2 := by
  unfold mget
  rw [h.look, (mlook_iff (v := x.2) h.nodup).2 hx]; rfl
theorem Tw.lines (h : Tw m L) : linesM m (sortK m) = linesL L := by
  rw [h.keys]
  unfold linesM linesL
  rw [List.map_map]
  congr 1
  exact List.map_congr_left fun x hx => by simp only [Function.comp_apply, h.get hx]
theorem Tw.getLen (h : Tw m L) (p : List UInt8) : (mget m p).length ≤ 2000 := by
  unfold mget
  rw [h.look]
  cases hk : mlook p L with
  | none => simp
  | some v => exact (h.path _ ((mlook_iff h.nodup).1 hk)).2.2
theorem Tw.keyLen (h : Tw m L) {x : Ent} (hx : x ∈ m) : x.1.length ≤ 100 := (h.path x (h.perm.mem_iff.1 hx)).2.1
end

set_option maxRecDepth 100000 in
theorem treed_any (w : World) (S : Nat → Addr) (hm : Ml w) (hE : TErr w S) (ht : Tab w) : Calls Tryz.prog 9 #[] w fun e w' => e = .returned (.bool true) ∧ Below w.heap.size w w' := by
  have HM := Lib.hid hm
  have HE := Lib.hid hE
  have HT := Lib.hid ht
  clear hm hE ht
  go_enter Tryz.func9, Tryz.ntmps9
  go_wp2_with fail
  refine (new_tree w).mono ?_
  rintro e w1 ⟨tb, mb, rfl, h1, h2, hT, hb1⟩
  have K := put_tree tb mb [] [97] [120] w1 S hT (HM.out.below hb1 (Nat.le_refl _)) (HE.out.below hb1 (Nat.le_refl _)) (by decide) (by decide) (fun y hy => by cases hy)
  have e1 : putC [97] [120] [] = 0 := by decide +kernel
  have e2 : putM [97] [120] [] = [([97], [120])] := by unfold putM; rw [e1]; rfl
  rw [e1, e2, show codeV S 0 = .nilIface from rfl] at K
  have K1 := Lib.hid K
  have HB1 := Lib.hid hb1
  clear K hT hb1 e1 e2
  go_wp2_with fail
  refine K1.out.mono ?_
  rintro e w2 ⟨rfl, hT2, hF2⟩
  have hb2 : Below w.heap.size w w2 := HB1.out.trans ((hF2.mono (S' := fun k => k = mb) HB1.out.size (fun _ _ h => h)).below (fun k hk e => by omega))
  have K := text_tree tb mb [([97], [120])] w2 hT2 (tab_below HT.out hb2 (Nat.le_refl _)) (by decide) (by decide) (fun x hx => by simp at hx; subst hx; decide) (fun p => by
    unfold mget mlook
    by_cases hp : ([97] : List UInt8) = p
    · simp [hp]
    · simp [hp, mlook])
  have e1 : linesM [([97], [120])] (sortK [([97], [120])]) = [97, 32, 49, 10, 120, 10] := by
    have e : sortK [([97], [120])] = [[97]] := by simp [sortK]
    have e3 : Lib.decDigits 1 = [49] := by decide +kernel
    rw [e]
    simp [linesM, lineL, mget, mlook, e3]
  rw [e1] at K
  have K2 := Lib.hid K
  have HB2 := Lib.hid hb2
  clear K hT2 hF2 hb2 e1
  go_wp2_with fail
  refine K2.out.mono ?_
  rintro e w3 ⟨rfl, hb3⟩
  go_wp2
  go_ret
  exact ⟨rfl, HB2.out.trans (hb3.mono HB2.out.size)⟩
end Go.Proofs.YtmkpeopebddnjaaGreatDoor
