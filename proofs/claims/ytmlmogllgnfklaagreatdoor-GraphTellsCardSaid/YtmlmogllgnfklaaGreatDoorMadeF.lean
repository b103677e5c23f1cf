/-
  The reference's acts: what is made by count and swap.
-/
import Derived.Test.YtmlmogllgnfklaaGreatDoorMadeC
namespace Go.Proofs.YtmlmogllgnfklaaGreatDoor
open Go Go.RowKit Go.Kf Go.Sort Go.Proofs

theorem spl_pair {a r : List UInt8} (ha : (61 : UInt8) ∉ a) (hr : (61 : UInt8) ∉ r) : spl 61 (a ++ 61 :: r) = [a, r] := by
  rw [spl_hit ha, spl_miss hr]

end Go.Proofs.YtmlmogllgnfklaaGreatDoor

/-
  The reference's acts: lay's walk.
-/
namespace Go.Proofs.YtmlmogllgnfklaaGreatDoor
open Go Go.RowKit Go.Kf Go.Sort Go.Proofs

set_option maxRecDepth 100000 in
theorem lay_nil (s : List UInt8) (w : World) :
    Calls Tryz.prog 67 #[.slice none 0 0, str s] w fun e w' => ∃ v, e = .returned v ∧ w'.ownsRow w.heap.size 9 1 v 1 [str s] ∧ Below w.heap.size w w' := by
  obtain ⟨i, hi, hz0, hz1, hz2⟩ := info_parts tyStrsK.info
  go_enter Tryz.func67, Tryz.ntmps67
  go_wp2_with fail
  go_loopw [5] (fun kv wl => kv = .int .i64 0 ∧ wl = w) (fun _ _ => 0)
  case atStart => exact ⟨rfl, rfl⟩
  case round =>
    obtain ⟨rfl, rfl⟩ := hrel
    go_wp2_with (first
      | (at_builtin; refine wpList_append_own_none rfl (.tmp 22) (.tmp 25) 25 rfl wr.heap.size 9 i 1 tyStrsK.und hi _ 0 [] rfl (World.ownsRow_nil _ _ _ _) rfl ?_)
      | (at_builtin
         refine wpList_app _ rfl (.tmp 27) (.tmp 29) 25 rfl tyStrsK wr.heap.size _ 0 [] rfl (World.ownsRow_nil _ _ _ _) ⟨wr.heap.size, 0, none⟩ 1 1 [str s] rfl rfl (news_one ?_) ?_ (by decide) ?_ ?_ ?_
         · simp [go_sem]
         · intro u hu; simp at hu; subst hu; rfl
         · omega
         · simp
         intro v5 w5 ho5 hg5 hloc5
         have HB5 : Hid (Below wr.heap.size wr w5) := Lib.hid (((Below.refl _ wr).alloc (Nat.le_refl _) _).grown hg5 (by simp) (fun k hk => by cases hk))
         have HO5 := Lib.hid ho5
         clear ho5 hg5 hloc5)
      | (at_builtin; refine wpList_append_own_none rfl (.tmp 31) (.tmp 34) 25 rfl wr.heap.size 9 i 1 tyStrsK.und hi v5 1 [str s] rfl HO5.out rfl ?_))
    go_ret
    exact ⟨_, rfl, HO5.out, HB5.out⟩

set_option maxRecDepth 100000 in
set_option maxHeartbeats 2000000 in
theorem lay_some (s : List UInt8) (l : List (List UInt8)) (g c : Nat) (w : World) (hr : Reads w (.slice (some ⟨g, 0, none⟩) l.length c) (l.map str)) (hcap : l.length ≤ c) (hn : l.length ≤ 1000000) (hg : g < w.heap.size) :
    Calls Tryz.prog 67 #[.slice (some ⟨g, 0, none⟩) l.length c, str s] w fun e w' => ∃ v, e = .returned v ∧ w'.ownsRow w.heap.size 9 1 v (layB l s).length ((layB l s).map str) ∧ Below w.heap.size w w' := by
  have HR := Lib.hid hr
  have hcell : ∀ (w2 : World), Below w.heap.size w w2 → ∀ j x, l[j]? = some x → w2.cell? ⟨g, j, none⟩ = some (str x) := fun w2 hb j x hj => by
    obtain ⟨a', c', e, -, hc⟩ := hr
    rw [List.length_map] at e
    cases e
    obtain ⟨b, o, e, hcj⟩ := hc j (str x) (by rw [List.getElem?_map, hj]; rfl)
    cases e
    rw [Nat.zero_add] at hcj
    exact (hb.cell (p := ⟨g, j, none⟩) hg).trans hcj
  have HC := Lib.hid hcell
  clear hr hcell
  go_enter Tryz.func67, Tryz.ntmps67
  go_wp2_with fail
  go_loopw [5] (fun kv wl => ∃ k : Nat, k ≤ l.length ∧ kv = .int .i64 k ∧ (∀ j (h : j < l.length), k ≤ j → s < l[j]) ∧ wl = w) (fun kv _ => (intOf kv).toNat)
  case atStart => exact ⟨l.length, Nat.le_refl _, rfl, fun j h hj => by omega, rfl⟩
  case round =>
    obtain ⟨k, hk, rfl, hgt, rfl⟩ := hrel
    have HGT := Lib.hid hgt
    clear hgt
    have fin : (∀ h : k - 1 < l.length, 0 < k → ¬ s < l[k - 1]) → Hid (layB l s = l.take k ++ s :: l.drop k) := fun h => Lib.hid (layB_at hk HGT.out h)
    have FIN := Lib.hid fin
    clear fin
    by_cases hk0 : k = 0
    · subst hk0
      have HF := FIN.out (fun _ h => by omega)
      clear FIN
      go_wp2_with (first
        | (at_builtin
           refine wpList_app _ rfl (.tmp 22) (.tmp 25) 25 rfl tyStrsK wr.heap.size _ 0 [] rfl (World.ownsRow_nil _ _ _ _) ⟨g, 0, none⟩ 0 c [] rfl rfl (fun j u h => by simp at h) (fun u h => by simp at h) (by decide) (by omega) (Nat.le_refl _) ?_
           intro v4 w4 ho4 hg4 hloc4
           have HB4 : Hid (Below wr.heap.size wr w4) := Lib.hid ((Below.refl _ wr).grown hg4 (Nat.le_refl _) (fun k hk => by cases hk))
           have HO4 := Lib.hid ho4
           clear ho4 hg4 hloc4
           have hz4 := HB4.out.size)
        | (at_builtin
           refine wpList_app _ rfl (.tmp 27) (.tmp 29) 25 rfl tyStrsK wr.heap.size v4 _ _ rfl (HO4.out.alloc _) ⟨w4.heap.size, 0, none⟩ 1 1 [str s] rfl rfl (news_one ?_) ?_ (by decide) ?_ ?_ ?_
           · simp [go_sem]
           · intro u hu; simp at hu; subst hu; rfl
           · omega
           · simp; omega
           intro v5 w5 ho5 hg5 hloc5
           have HB5 : Hid (Below wr.heap.size wr w5) := Lib.hid ((HB4.out.alloc hz4 _).grown hg5 (by simp; omega) (fun k hk => (HO4.out.lt k hk).1))
           have HO5 := Lib.hid ho5
           clear ho5 hg5 hloc5
           have hz5 := HB5.out.size)
        | (at_builtin
           refine wpList_app _ rfl (.tmp 31) (.tmp 34) 25 rfl tyStrsK wr.heap.size v5 _ _ rfl HO5.out ⟨g, 0, none⟩ l.length c (l.map str) rfl (List.length_map _) (fun j u hj => ?_) (fun u hu => ?_) (by decide) ?_ hz5 ?_
           · rw [addr_add rfl, Nat.zero_add]
             rw [List.getElem?_map] at hj
             obtain ⟨x, hx, rfl⟩ := Option.map_eq_some_iff.1 hj
             exact HC.out _ HB5.out j x hx
           · obtain ⟨x, -, rfl⟩ := List.mem_map.1 hu
             rfl
           · omega
           intro v6 w6 ho6 hg6 hloc6
           have HB6 : Hid (Below wr.heap.size wr w6) := Lib.hid (HB5.out.grown hg6 hz5 (fun k hk => (HO5.out.lt k hk).1))
           have HO6 := Lib.hid ho6
           clear ho6 hg6 hloc6))
      go_ret
      refine ⟨_, rfl, ?_, HB6.out⟩
      have h6 := HO6.out
      rw [HF.out]
      simpa [Nat.add_comm, Nat.add_left_comm] using h6
    · obtain ⟨q, rfl⟩ : ∃ q, k = q + 1 := ⟨k - 1, by omega⟩
      have hcq := HC.out wr (Below.refl _ _) q _ (List.getElem?_eq_getElem (by omega))
      have hixq := idx_at (P := Tryz.prog) (T := 25) (E := 9) Tryz.underlying25 (by kernel_rfl) g l.length c q (by omega)
      have hsub : (q : Int) + 1 - 1 = (q : Int) := by omega
      have hw1 : IntKind.i64.wrap ((q : Int) + 1 - 1) = (q : Int) := by rw [hsub]; exact IntWalk.i64_in _ (by omega)
      have hw2 : IntKind.i64.wrap (q : Int) = (q : Int) := IntWalk.i64_in _ (by omega)
      have hkp : ((0 : Int) < (q : Int) + 1) = True := eq_true (by omega)
      by_cases hlt : s < l[q]'(by omega)
      · have HN : Hid (∀ j (h : j < l.length), q ≤ j → s < l[j]) := Lib.hid (fun j h hj => by
          by_cases hjq : j = q
          · subst hjq; exact hlt
          · exact HGT.out j h (by omega))
        have hb : Op.bytesLess (l[q]'(by omega)) s = false := by rw [bytesLess_eq]; exact decide_eq_false (fun h => List.lt_irrefl _ (List.lt_trans h hlt))
        have hb2 : ((l[q]'(by omega)) == s) = false := by
          rw [beq_eq_false_iff_ne]
          intro e
          rw [e] at hlt
          exact List.lt_irrefl _ hlt
        clear FIN hlt
        generalize l[q]'(by omega) = x at *
        go_wp2
        go_roundw
        case rel => exact ⟨q, by omega, rfl, HN.out, by first | rfl | trivial⟩
        case measure => simp [intOf]
      · have HF := FIN.out (fun _ _ => by simpa using hlt)
        have hor : Op.bytesLess (l[q]'(by omega)) s = true ∨ (Op.bytesLess (l[q]'(by omega)) s = false ∧ ((l[q]'(by omega)) == s) = true) := by
          rcases List.le_iff_lt_or_eq.1 (List.not_lt.1 hlt) with h | h
          · left
            rw [bytesLess_eq]
            exact decide_eq_true h
          · right
            rw [h]
            refine ⟨?_, by simp⟩
            rw [bytesLess_eq]
            exact decide_eq_false (List.lt_irrefl _)
        have hkl : (q + 1 ≤ l.length) = True := eq_true hk
        have hkl2 : ((q : Int) + 1 ≤ (l.length : Int)) = True := eq_true (by omega)
        have hkc2 : ((q : Int) + 1 ≤ (c : Int)) = True := eq_true (by omega)
        have hkc : (q + 1 ≤ c) = True := eq_true (by omega)
        have htn : ((q : Int) + 1).toNat = q + 1 := by omega
        clear FIN hlt
        generalize l[q]'(by omega) = x at *
        have hcc : (c = q + 1 ∧ Hid (l.length = q + 1)) ∨ ((c = q + 1) = False ∧ (q + 1 = c) = False) := by
          by_cases h : c = q + 1
          · exact Or.inl ⟨h, Lib.hid (by omega)⟩
          · exact Or.inr ⟨eq_false h, eq_false (fun e => h e.symm)⟩
        rcases hor with hb | ⟨hb, hb2⟩
        all_goals rcases hcc with ⟨rfl, hll⟩ | ⟨hc8, hc9⟩
        all_goals
          go_wp2_with (first
            | (at_builtin
               refine wpList_app _ rfl (.tmp 22) (.tmp 25) 25 rfl tyStrsK wr.heap.size _ 0 [] rfl (World.ownsRow_nil _ _ _ _) ⟨g, 0, none⟩ (q + 1) _ ((l.take (q + 1)).map str) rfl (by rw [List.length_map, List.length_take]; omega) (fun j u hj => ?_) (fun u hu => ?_) (by decide) (by omega) (Nat.le_refl _) ?_
               · rw [addr_add rfl, Nat.zero_add]
                 rw [List.getElem?_map] at hj
                 obtain ⟨x, hx, rfl⟩ := Option.map_eq_some_iff.1 hj
                 rw [List.getElem?_take] at hx
                 split at hx
                 · exact HC.out _ (Below.refl _ _) j x hx
                 · cases hx
               · obtain ⟨x, -, rfl⟩ := List.mem_map.1 hu
                 rfl
               intro v4 w4 ho4 hg4 hloc4
               have HB4 : Hid (Below wr.heap.size wr w4) := Lib.hid ((Below.refl _ wr).grown hg4 (Nat.le_refl _) (fun k hk => by cases hk))
               have HO4 := Lib.hid ho4
               clear ho4 hg4 hloc4
               have hz4 := HB4.out.size)
            | (at_builtin
               refine wpList_app _ rfl (.tmp 27) (.tmp 29) 25 rfl tyStrsK wr.heap.size v4 _ _ rfl (HO4.out.alloc _) ⟨w4.heap.size, 0, none⟩ 1 1 [str s] rfl rfl (news_one ?_) ?_ (by decide) ?_ ?_ ?_
               · simp [go_sem]
               · intro u hu; simp at hu; subst hu; rfl
               · omega
               · simp; omega
               intro v5 w5 ho5 hg5 hloc5
               have HB5 : Hid (Below wr.heap.size wr w5) := Lib.hid ((HB4.out.alloc hz4 _).grown hg5 (by simp; omega) (fun k hk => (HO4.out.lt k hk).1))
               have HO5 := Lib.hid ho5
               clear ho5 hg5 hloc5
               have hz5 := HB5.out.size)
            | (at_builtin
               refine wpList_app _ rfl (.tmp 31) (.tmp 34) 25 rfl tyStrsK wr.heap.size v5 _ _ rfl HO5.out ⟨g, 0, none⟩ 0 0 [] rfl rfl (fun j u h => by simp at h) (fun u h => by simp at h) (by decide) ?_ hz5 ?_
               · omega
               intro v6 w6 ho6 hg6 hloc6
               have HB6 : Hid (Below wr.heap.size wr w6) := Lib.hid (HB5.out.grown hg6 hz5 (fun k hk => (HO5.out.lt k hk).1))
               have HO6 : Hid (w6.ownsRow wr.heap.size 9 1 v6 (0 + (q + 1) + 1 + (l.length - (q + 1))) (([] ++ (l.take (q + 1)).map str ++ [str s]) ++ (l.drop (q + 1)).map str)) := Lib.hid (by
                 have h := hll.out
                 rw [show l.length - (q + 1) = 0 by omega, List.drop_of_length_le (by omega)]
                 exact ho6)
               clear ho6 hg6 hloc6)
            | (at_builtin
               refine wpList_app _ rfl (.tmp 31) (.tmp 34) 25 rfl tyStrsK wr.heap.size v5 _ _ rfl HO5.out ⟨g, _, none⟩ (l.length - (q + 1)) _ ((l.drop (q + 1)).map str) rfl (by rw [List.length_map, List.length_drop]) (fun j u hj => ?_) (fun u hu => ?_) (by decide) ?_ hz5 ?_
               · rw [addr_add rfl]
                 rw [List.getElem?_map] at hj
                 obtain ⟨x, hx, rfl⟩ := Option.map_eq_some_iff.1 hj
                 rw [List.getElem?_drop] at hx
                 exact HC.out _ HB5.out (q + 1 + j) x hx
               · obtain ⟨x, -, rfl⟩ := List.mem_map.1 hu
                 rfl
               · omega
               intro v6 w6 ho6 hg6 hloc6
               have HB6 : Hid (Below wr.heap.size wr w6) := Lib.hid (HB5.out.grown hg6 hz5 (fun k hk => (HO5.out.lt k hk).1))
               have HO6 := Lib.hid ho6
               clear ho6 hg6 hloc6))
          go_ret
          refine ⟨_, rfl, ?_, HB6.out⟩
          have h6 := HO6.out
          rw [HF.out]
          have hlen : (l.take (q + 1) ++ s :: l.drop (q + 1)).length = 0 + (q + 1) + 1 + (l.length - (q + 1)) := by
            rw [List.length_append, List.length_cons, List.length_take, List.length_drop]
            omega
          have hlist : (l.take (q + 1) ++ s :: l.drop (q + 1)).map str = [] ++ (l.take (q + 1)).map str ++ [str s] ++ (l.drop (q + 1)).map str := by simp
          rw [hlen, hlist]
          exact h6
end Go.Proofs.YtmlmogllgnfklaaGreatDoor

/-
  The reference's acts: lay at any slice of the call's own; what is made by sort.
-/
namespace Go.Proofs.YtmlmogllgnfklaaGreatDoor
open Go Go.RowKit Go.Kf Go.Sort Go.Proofs

theorem lay_any (s : List UInt8) (l : List (List UInt8)) (v : Value) (B : Nat) (w : World) (ho : w.ownsRow B 9 1 v l.length (l.map str)) (hB : B ≤ w.heap.size) (hn : l.length ≤ 1000000) :
    Calls Tryz.prog 67 #[v, str s] w fun e w' => ∃ v', e = .returned v' ∧ w'.ownsRow B 9 1 v' (layB l s).length ((layB l s).map str) ∧ Below w.heap.size w w' := by
  have hr := ownsRow_reads ho
  rcases ho.2 with ⟨rfl, h0⟩ | ⟨g, cap, cur, rfl, hg, hh, hcn, hcap, hsz, htake⟩
  · obtain rfl := List.length_eq_zero_iff.1 h0
    refine (lay_nil s w).mono ?_
    rintro e w' ⟨v', rfl, ho', hb⟩
    exact ⟨v', rfl, ownsRow_base ho' hB, hb⟩
  · refine (lay_some s l g cap w hr hcn hn (lt_of_heap hh)).mono ?_
    rintro e w' ⟨v', rfl, ho', hb⟩
    exact ⟨v', rfl, ownsRow_base ho' hB, hb⟩

/-- Sorted lines are those of sortB. -/
theorem sorted_is {R L : List (List UInt8)} (hs : R.Pairwise (· ≤ ·)) (hp : R.Perm L) : R = sortB L := by
  rw [← sortB_eq hp]
  exact (List.mergeSort_of_pairwise (hs.imp fun h => decide_eq_true h)).symm
end Go.Proofs.YtmlmogllgnfklaaGreatDoor
