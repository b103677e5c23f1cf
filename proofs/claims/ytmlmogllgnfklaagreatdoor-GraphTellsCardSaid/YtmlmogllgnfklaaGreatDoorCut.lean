/-
  The walks of the reference: Cut, isName, partsOf, IsPath.
-/
import Derived.Test.YtmlmogllgnfklaaGreatDoorPathP
import Derived.Test.YtmlmogllgnfklaaGreatDoorKeyW
import Derived.Test.YtmlmogllgnfklaaGreatDoorPathW
namespace Go.Proofs.YtmlmogllgnfklaaGreatDoor
open Go Go.RowKit Go.Kf

theorem _root_.Go.Kf.u8_eq (c d : UInt8) : ((c.toNat : Int) == (d.toNat : Int)) = (c == d) := by
  rw [Bool.eq_iff_iff]
  simp only [beq_iff_eq]
  constructor
  · intro h; exact UInt8.toNat_inj.1 (by omega)
  · intro h; rw [h]
theorem pre_snoc {s : List UInt8} {f i : Nat} (h : f ≤ i) (hi : i < s.length) : (s.drop f).take (i + 1 - f) = (s.drop f).take (i - f) ++ [s[i]] := by
  have e : i + 1 - f = (i - f) + 1 := by omega
  have hl : i - f < (s.drop f).length := by simp; omega
  rw [e, List.take_succ_eq_append_getElem hl]
  congr 2
  simp [List.getElem_drop]
  congr 1
  omega
theorem drop_split {s : List UInt8} {f i : Nat} (h : f ≤ i) (hi : i < s.length) : s.drop f = (s.drop f).take (i - f) ++ s[i] :: s.drop (i + 1) := by
  conv => lhs; rw [← List.take_append_drop (i - f) (s.drop f)]
  congr 1
  rw [List.drop_drop, show f + (i - f) = i by omega, List.drop_eq_getElem_cons hi]

set_option maxRecDepth 100000 in
set_option maxHeartbeats 1000000 in
theorem cut_any (s : List UInt8) (c : UInt8) (w : World) (hs : s.length ≤ 1000000) :
    Calls Tryz.prog 60 #[str s, byteV c] w fun e w' => ∃ v, e = .returned v ∧ w'.ownsRow w.heap.size 9 1 v (spl c s).length ((spl c s).map str) ∧ Below w.heap.size w w' := by
  go_enter Tryz.func60, Tryz.ntmps60
  go_wp2
  go_loopw [5, 6, 7] (fun v f i wl => ∃ (fn k : Nat) (out : List (List UInt8)), f = .int .i64 fn ∧ i = .int .i64 k ∧ fn ≤ k ∧ k ≤ s.length ∧ c ∉ (s.drop fn).take (k - fn) ∧ spl c s = out ++ spl c (s.drop fn) ∧ out.length ≤ k ∧
      wl.ownsRow w.heap.size 9 1 v out.length (out.map str) ∧ Below w.heap.size w wl) (fun _ _ i _ => s.length - (intOf i).toNat)
  case atStart => exact ⟨0, 0, [], rfl, rfl, by omega, by omega, by simp, by simp, by simp, World.ownsRow_nil _ _ _ _, Below.refl _ _⟩
  case round =>
    obtain ⟨fn, k, out, rfl, rfl, hfk, hk, hno, hsp, hol, hown, hb⟩ := hrel
    have HN := Lib.hid hno
    have HS := Lib.hid hsp
    clear hno hsp
    by_cases hlt : k < s.length
    · obtain ⟨x, hx⟩ : ∃ x, s[k] = x := ⟨_, rfl⟩
      have hidx : ∀ h, (⟨s.toArray⟩ : ByteArray)[k]'h = x := fun _ => hx
      have hps := pre_snoc hfk hlt
      have hds := drop_split hfk hlt
      rw [hx] at hps hds
      have hex : (⟨s.toArray⟩ : ByteArray).extract fn k = ⟨((s.drop fn).take (k - fn)).toArray⟩ := extract_list s fn k
      clear hx
      generalize hpc : (s.drop fn).take (k - fn) = piece at *
      clear hpc
      have HP := Lib.hid hps
      have HD := Lib.hid hds
      clear hps hds
      by_cases hc : x = c
      · have hd : ((x.toNat : Int) == (c.toNat : Int)) = true := by rw [hc]; simp
        have HC := Lib.hid hc
        clear hc
        go_wp2_with (
          at_builtin
          refine wpList_app _ rfl _ _ 25 rfl tyStrsK w.heap.size _ out.length (out.map str) rfl (hown.alloc _) ⟨wr.heap.size, 0, none⟩ 1 1 [str piece] rfl rfl (news_one ?_) ?_ (by decide) ?_ ?_ ?_
          · simp [go_sem]
          · intro u hu; simp at hu; subst hu; rfl
          · omega
          · have := hb.size; simp; omega
          intro v5 w5 ho5 hg5 hloc5
          have b5 : Below w.heap.size w w5 := (hb.alloc hb.size _).grown hg5 (by have := hb.size; simp; omega) (fun k hk => (hown.lt k hk).1)
          have HO5 := Lib.hid ho5
          clear ho5 hg5 hloc5)
        go_roundw
        case rel =>
          refine ⟨k + 1, k + 1, out ++ [piece], by go_num, by go_num, by omega, by omega, by simp, ?_, by simp; omega, by simpa using HO5.out, b5⟩
          rw [HS.out, HD.out, HC.out, spl_hit HN.out]
          simp
        case measure => simp [intOf]; omega
      · have hd : ((x.toNat : Int) == (c.toNat : Int)) = false := by
          rw [Kf.u8_eq]
          simpa using hc
        have HC := Lib.hid hc
        clear hc
        go_wp2
        go_roundw
        case rel =>
          refine ⟨fn, k + 1, out, rfl, by go_num, by omega, by omega, ?_, HS.out, by omega, hown, hb⟩
          rw [HP.out]
          intro hm
          rcases List.mem_append.1 hm with hm | hm
          · exact HN.out hm
          · simp only [List.mem_singleton] at hm
            exact HC.out hm.symm
        case measure => simp [intOf]; omega
    · obtain rfl : k = s.length := by omega
      have hex : (⟨s.toArray⟩ : ByteArray).extract fn s.length = ⟨((s.drop fn).take (s.length - fn)).toArray⟩ := extract_list s fn s.length
      have hall : (s.drop fn).take (s.length - fn) = s.drop fn := List.take_of_length_le (by simp)
      have HN2 := HN.out
      rw [hall] at hex HN2
      have HN3 := Lib.hid HN2
      clear HN2 hall HN
      generalize hpc : s.drop fn = piece at *
      clear hpc
      go_wp2_with (
        at_builtin
        refine wpList_app _ rfl _ _ 25 rfl tyStrsK w.heap.size _ out.length (out.map str) rfl (hown.alloc _) ⟨wr.heap.size, 0, none⟩ 1 1 [str piece] rfl rfl (news_one ?_) ?_ (by decide) ?_ ?_ ?_
        · simp [go_sem]
        · intro u hu; simp at hu; subst hu; rfl
        · omega
        · have := hb.size; simp; omega
        intro v5 w5 ho5 hg5 hloc5
        have b5 : Below w.heap.size w w5 := (hb.alloc hb.size _).grown hg5 (by have := hb.size; simp; omega) (fun k hk => (hown.lt k hk).1)
        have HO5 := Lib.hid ho5
        clear ho5 hg5 hloc5)
      go_ret
      refine ⟨_, rfl, ?_, b5⟩
      rw [HS.out, spl_miss HN3.out]
      simpa using HO5.out

set_option maxRecDepth 100000 in
set_option maxHeartbeats 2000000 in
theorem isName_f (s : List UInt8) (w : World) (hpre : s ≠ [] ∧ s.length ≤ 12 ∧ s ≠ [46] ∧ s ≠ [46, 46]) :
    Calls Tryz.prog 135 #[str s, .bool false] w fun e w' => e = .returned (.bool (nameB s false)) ∧ w = w' := by
  obtain ⟨n1, n2, n3, n4⟩ := hpre
  have hpos : 0 < s.length := List.length_pos_iff.2 n1
  have hnb : nameB s false = okAll false s := by
    unfold nameB
    rw [show (s == []) = false by simpa using n1, show (s == [46]) = false by simpa using n3, show (s == [46, 46]) = false by simpa using n4]
    simp [n2]
  rw [hnb]
  have d1 : ((s.length : Int) < 1) = False := by simp; omega
  have d2 : ((12 : Int) < s.length) = False := by simp; omega
  have d3 : (s == [46]) = false := by simpa using n3
  have d4 : (s == [46, 46]) = false := by simpa using n4
  clear hnb n1 n3 n4
  go_enter Tryz.func135, Tryz.ntmps135
  go_wp2
  go_loop [5] (fun i => ∃ k : Nat, k ≤ s.length ∧ okAll false (s.take k) = true ∧ i = .int .i64 k) (fun i => s.length - (intOf i).toNat)
  case atStart => exact ⟨0, by omega, by simp [okAll], rfl⟩
  case round =>
    obtain ⟨k, hk, hok, rfl⟩ := hrel
    have HK := Lib.hid hok
    clear hok d1 d2 d3 d4
    by_cases hlt : k < s.length
    · have HC := Lib.hid (show s.take (k + 1) = s.take k ++ [s[k]] from List.take_succ_eq_append_getElem hlt)
      have HM := Lib.hid (List.getElem_mem hlt)
      obtain ⟨x, hx⟩ : ∃ x, s[k] = x := ⟨_, rfl⟩
      have hidx : ∀ h, (⟨s.toArray⟩ : ByteArray)[k]'h = x := fun _ => hx
      rw [hx] at HC HM
      clear hx
      have hx8 : x.toNat < 256 := x.toNat_lt
      obtain ⟨n, hn⟩ : ∃ n : Nat, n = x.toNat := ⟨_, rfl⟩
      have hidx2 : ∀ h, ((⟨s.toArray⟩ : ByteArray)[k]'h).toNat = n := fun h => by rw [hidx h, hn]
      have HN := Lib.hid hn
      rw [← hn] at hx8
      clear hidx hn
      have yes : letterB x = true → Hid (okAll false (s.take (k + 1)) = true) := fun h => Lib.hid (okAll_take HC.out HK.out (by unfold okB; rw [h]; rfl))
      have star : (false = true) → n = 42 → Hid (okAll false (s.take (k + 1)) = true) := fun h1 h2 => Lib.hid (okAll_take HC.out HK.out (by unfold okB; rw [h1, ← HN.out, h2]; simp))
      have no : letterB x = false → ((false = false) ∨ n ≠ 42) → Hid (okAll false s = false) := fun h1 h2 => Lib.hid (okAll_not HM.out (by
        unfold okB; rw [h1, ← HN.out]
        rcases h2 with h0 | h2
        · first | (cases h0; done) | rfl
        · simp [h2]))
      have lt : letterB x = ((decide (97 ≤ n) && decide (n ≤ 122)) || (decide (48 ≤ n) && decide (n ≤ 57)) || decide (n = 45) || decide (n = 46) || decide (n = 95)) := by unfold letterB; rw [← HN.out]
      have YES := Lib.hid yes
      have STAR := Lib.hid star
      have NO := Lib.hid no
      have LT := Lib.hid lt
      clear yes star no lt
      obtain ⟨b1, h1⟩ : ∃ b, decide ((97 : Int) ≤ (n : Int)) = b := ⟨_, rfl⟩
      obtain ⟨b2, h2⟩ : ∃ b, decide ((n : Int) ≤ 122) = b := ⟨_, rfl⟩
      obtain ⟨b3, h3⟩ : ∃ b, decide ((48 : Int) ≤ (n : Int)) = b := ⟨_, rfl⟩
      obtain ⟨b4, h4⟩ : ∃ b, decide ((n : Int) ≤ 57) = b := ⟨_, rfl⟩
      obtain ⟨b5, h5⟩ : ∃ b, ((n : Int) == 45) = b := ⟨_, rfl⟩
      obtain ⟨b6, h6⟩ : ∃ b, ((n : Int) == 46) = b := ⟨_, rfl⟩
      obtain ⟨b7, h7⟩ : ∃ b, ((n : Int) == 95) = b := ⟨_, rfl⟩
      obtain ⟨b8, h8⟩ : ∃ b, ((n : Int) == 42) = b := ⟨_, rfl⟩
      have hL : Hid (letterB x = ((b1 && b2) || (b3 && b4) || b5 || b6 || b7)) := Lib.hid (by
        rw [LT.out, ← h1, ← h2, ← h3, ← h4, ← h5, ← h6, ← h7, Bool.eq_iff_iff]
        simp
        omega)
      have h42 : Hid (b8 = true → n = 42) := Lib.hid (fun h => by rw [h] at h8; simp at h8; omega)
      have h42' : Hid (b8 = false → n ≠ 42) := Lib.hid (fun h => by rw [h] at h8; simp at h8; omega)
      clear hx8
      cases b1 <;> cases b2 <;> cases b3 <;> cases b4 <;> cases b5 <;> cases b6 <;> cases b7 <;> cases b8 <;> first
        | (exfalso; clear YES STAR NO LT hL h42 h42' hidx2 HN HC HM HK; simp at h1 h2 h3 h4 h5 h6 h7 h8; omega)
        | (have hyes : Hid (okAll false (s.take (k + 1)) = true) := (by first | exact YES.out hL.out | exact STAR.out rfl (h42.out rfl))
           go_wp2
           go_round
           case rel => exact ⟨k + 1, by omega, hyes.out, by go_num⟩
           case measure => simp [intOf]; omega)
        | (have hno := (NO.out hL.out (by first | exact Or.inl rfl | exact Or.inr (h42'.out rfl)))
           go_wp2
           go_ret
           refine ⟨?_, rfl⟩
           rw [hno.out]
           rfl)
    · obtain rfl : k = s.length := by omega
      rw [List.take_length] at HK
      go_wp2
      go_ret
      exact ⟨by rw [HK.out]; rfl, rfl⟩

set_option maxRecDepth 100000 in
set_option maxHeartbeats 2000000 in
theorem isName_t (s : List UInt8) (w : World) (hpre : s ≠ [] ∧ s.length ≤ 12 ∧ s ≠ [46] ∧ s ≠ [46, 46]) :
    Calls Tryz.prog 135 #[str s, .bool true] w fun e w' => e = .returned (.bool (nameB s true)) ∧ w = w' := by
  obtain ⟨n1, n2, n3, n4⟩ := hpre
  have hpos : 0 < s.length := List.length_pos_iff.2 n1
  have hnb : nameB s true = okAll true s := by
    unfold nameB
    rw [show (s == []) = false by simpa using n1, show (s == [46]) = false by simpa using n3, show (s == [46, 46]) = false by simpa using n4]
    simp [n2]
  rw [hnb]
  have d1 : ((s.length : Int) < 1) = False := by simp; omega
  have d2 : ((12 : Int) < s.length) = False := by simp; omega
  have d3 : (s == [46]) = false := by simpa using n3
  have d4 : (s == [46, 46]) = false := by simpa using n4
  clear hnb n1 n3 n4
  go_enter Tryz.func135, Tryz.ntmps135
  go_wp2
  go_loop [5] (fun i => ∃ k : Nat, k ≤ s.length ∧ okAll true (s.take k) = true ∧ i = .int .i64 k) (fun i => s.length - (intOf i).toNat)
  case atStart => exact ⟨0, by omega, by simp [okAll], rfl⟩
  case round =>
    obtain ⟨k, hk, hok, rfl⟩ := hrel
    have HK := Lib.hid hok
    clear hok d1 d2 d3 d4
    by_cases hlt : k < s.length
    · have HC := Lib.hid (show s.take (k + 1) = s.take k ++ [s[k]] from List.take_succ_eq_append_getElem hlt)
      have HM := Lib.hid (List.getElem_mem hlt)
      obtain ⟨x, hx⟩ : ∃ x, s[k] = x := ⟨_, rfl⟩
      have hidx : ∀ h, (⟨s.toArray⟩ : ByteArray)[k]'h = x := fun _ => hx
      rw [hx] at HC HM
      clear hx
      have hx8 : x.toNat < 256 := x.toNat_lt
      obtain ⟨n, hn⟩ : ∃ n : Nat, n = x.toNat := ⟨_, rfl⟩
      have hidx2 : ∀ h, ((⟨s.toArray⟩ : ByteArray)[k]'h).toNat = n := fun h => by rw [hidx h, hn]
      have HN := Lib.hid hn
      rw [← hn] at hx8
      clear hidx hn
      have yes : letterB x = true → Hid (okAll true (s.take (k + 1)) = true) := fun h => Lib.hid (okAll_take HC.out HK.out (by unfold okB; rw [h]; rfl))
      have star : true = true → n = 42 → Hid (okAll true (s.take (k + 1)) = true) := fun h1 h2 => Lib.hid (okAll_take HC.out HK.out (by unfold okB; rw [h1, ← HN.out, h2]; simp))
      have no : letterB x = false → (true = false ∨ n ≠ 42) → Hid (okAll true s = false) := fun h1 h2 => Lib.hid (okAll_not HM.out (by
        unfold okB; rw [h1, ← HN.out]
        rcases h2 with h0 | h2
        · first | (cases h0; done) | rfl
        · simp [h2]))
      have lt : letterB x = ((decide (97 ≤ n) && decide (n ≤ 122)) || (decide (48 ≤ n) && decide (n ≤ 57)) || decide (n = 45) || decide (n = 46) || decide (n = 95)) := by unfold letterB; rw [← HN.out]
      have YES := Lib.hid yes
      have STAR := Lib.hid star
      have NO := Lib.hid no
      have LT := Lib.hid lt
      clear yes star no lt
      obtain ⟨b1, h1⟩ : ∃ b, decide ((97 : Int) ≤ (n : Int)) = b := ⟨_, rfl⟩
      obtain ⟨b2, h2⟩ : ∃ b, decide ((n : Int) ≤ 122) = b := ⟨_, rfl⟩
      obtain ⟨b3, h3⟩ : ∃ b, decide ((48 : Int) ≤ (n : Int)) = b := ⟨_, rfl⟩
      obtain ⟨b4, h4⟩ : ∃ b, decide ((n : Int) ≤ 57) = b := ⟨_, rfl⟩
      obtain ⟨b5, h5⟩ : ∃ b, ((n : Int) == 45) = b := ⟨_, rfl⟩
      obtain ⟨b6, h6⟩ : ∃ b, ((n : Int) == 46) = b := ⟨_, rfl⟩
      obtain ⟨b7, h7⟩ : ∃ b, ((n : Int) == 95) = b := ⟨_, rfl⟩
      obtain ⟨b8, h8⟩ : ∃ b, ((n : Int) == 42) = b := ⟨_, rfl⟩
      have hL : Hid (letterB x = ((b1 && b2) || (b3 && b4) || b5 || b6 || b7)) := Lib.hid (by
        rw [LT.out, ← h1, ← h2, ← h3, ← h4, ← h5, ← h6, ← h7, Bool.eq_iff_iff]
        simp
        omega)
      have h42 : Hid (b8 = true → n = 42) := Lib.hid (fun h => by rw [h] at h8; simp at h8; omega)
      have h42' : Hid (b8 = false → n ≠ 42) := Lib.hid (fun h => by rw [h] at h8; simp at h8; omega)
      clear hx8
      cases b1 <;> cases b2 <;> cases b3 <;> cases b4 <;> cases b5 <;> cases b6 <;> cases b7 <;> cases b8 <;> first
        | (exfalso; clear YES STAR NO LT hL h42 h42' hidx2 HN HC HM HK; simp at h1 h2 h3 h4 h5 h6 h7 h8; omega)
        | (have hyes : Hid (okAll true (s.take (k + 1)) = true) := (by first | exact YES.out hL.out | exact STAR.out rfl (h42.out rfl))
           go_wp2
           go_round
           case rel => exact ⟨k + 1, by omega, hyes.out, by go_num⟩
           case measure => simp [intOf]; omega)
        | (have hno := (NO.out hL.out (by first | exact Or.inl rfl | exact Or.inr (h42'.out rfl)))
           go_wp2
           go_ret
           refine ⟨?_, rfl⟩
           rw [hno.out]
           rfl)
    · obtain rfl : k = s.length := by omega
      rw [List.take_length] at HK
      go_wp2
      go_ret
      exact ⟨by rw [HK.out]; rfl, rfl⟩

set_option maxRecDepth 100000 in
theorem isName_any (s : List UInt8) (stars : Bool) (w : World) :
    Calls Tryz.prog 135 #[str s, .bool stars] w fun e w' => e = .returned (.bool (nameB s stars)) ∧ w = w' := by
  by_cases hpre : s ≠ [] ∧ s.length ≤ 12 ∧ s ≠ [46] ∧ s ≠ [46, 46]
  · cases stars
    · exact isName_f s w hpre
    · exact isName_t s w hpre
  · have hf : nameB s stars = false := by
      cases h : nameB s stars with
      | false => rfl
      | true =>
        unfold nameB at h
        simp only [Bool.and_eq_true, Bool.not_eq_true', beq_eq_false_iff_ne, decide_eq_true_eq] at h
        exact absurd ⟨h.1, h.2.1, h.2.2.1, h.2.2.2.1⟩ hpre
    rw [hf]
    have hor : s = [] ∨ s = [46] ∨ s = [46, 46] ∨ 12 < s.length := by
      by_cases h1 : s = []
      · exact Or.inl h1
      by_cases h2 : s = [46]
      · exact Or.inr (Or.inl h2)
      by_cases h3 : s = [46, 46]
      · exact Or.inr (Or.inr (Or.inl h3))
      refine Or.inr (Or.inr (Or.inr ?_))
      rcases Nat.lt_or_ge 12 s.length with h | h
      · exact h
      · exact absurd ⟨h1, h, h2, h3⟩ hpre
    clear hf hpre
    rcases hor with rfl | rfl | rfl | h
    case inr.inr.inr =>
      have d1 : ((s.length : Int) < 1) = False := by simp; omega
      have d2 : ((12 : Int) < s.length) = True := by simp; omega
      go_enter Tryz.func135, Tryz.ntmps135
      go_wp2
      go_ret
      exact ⟨rfl, rfl⟩
    all_goals
      go_enter Tryz.func135, Tryz.ntmps135
      go_wp2
      go_ret
      exact ⟨rfl, rfl⟩
end Go.Proofs.YtmlmogllgnfklaaGreatDoor
