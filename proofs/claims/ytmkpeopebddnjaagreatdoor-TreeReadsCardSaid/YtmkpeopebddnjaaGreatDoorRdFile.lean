/-
  Reading any text: strconv.Atoi and number, at whatever text.
-/
import Derived.Test.YtmkpeopebddnjaaGreatDoorTreeRB
import Derived.Test.YtmkpeopebddnjaaGreatDoorShelfC
import Derived.Lib.AtoiTie
namespace Go.Proofs.YtmkpeopebddnjaaGreatDoor
open Go Go.RowKit Go.Kf Go.Sort

/-- The variables of strconv's errors hold errors. -/
def NErr (w : World) : Prop := (∃ t p, w.cell? ⟨15, 0, none⟩ = some (.iface t p)) ∧ ∃ t p, w.cell? ⟨16, 0, none⟩ = some (.iface t p)
theorem NErr.below {w w' : World} {B : Nat} (h : NErr w) (hb : Below B w w') (hB : w.heap.size ≤ B) : NErr w' := by
  obtain ⟨⟨t, p, h1⟩, ⟨u, q, h2⟩⟩ := h
  exact ⟨⟨t, p, (hb.cell (Nat.lt_of_lt_of_le (lt_of_cell h1) hB)).trans h1⟩, ⟨u, q, (hb.cell (Nat.lt_of_lt_of_le (lt_of_cell h2) hB)).trans h2⟩⟩

theorem atoi_any (s : List UInt8) (w : World) (hN : NErr w) (hl : s.length ≤ 100000) :
    Calls Tryz.prog 103 #[str s] w fun e w' => Below w.heap.size w w' ∧
      ((∃ v, Lib.atoiAll s = .ok v ∧ e = .returned (.tuple #[.int .i64 v, .nilIface])) ∨ ((∀ v, Lib.atoiAll s ≠ .ok v) ∧ ∃ z t p, e = .returned (.tuple #[.int .i64 z, .iface t p]))) := by
  obtain ⟨⟨t1, p1, h1⟩, ⟨t2, p2, h2⟩⟩ := hN
  have hsz : (⟨s.toArray⟩ : ByteArray).size = s.length := by simp [ByteArray.size]
  rcases hc : Lib.atoiAll s with v | _ | _
  · refine (Tryz.strconv_Atoi_ok ⟨s.toArray⟩ (by omega) v hc w).mono ?_
    rintro e w' ⟨rfl, h⟩
    refine ⟨?_, Or.inl ⟨v, rfl, rfl⟩⟩
    rcases h with rfl | ⟨t, rfl⟩
    · exact Below.refl _ _
    · exact Lib.bytesWorld_below w _ t
  · refine (Tryz.strconv_Atoi_syntax ⟨s.toArray⟩ (by omega) ⟨_, hc, (fun v h => by cases h), (fun h => by cases h)⟩ _ w h1 (Or.inr ⟨_, _, rfl⟩)).mono ?_
    rintro e w' ⟨N, rfl, -, -, hb⟩
    exact ⟨hb, Or.inr ⟨(fun v h => by cases h), _, _, _, rfl⟩⟩
  · refine (Tryz.strconv_Atoi_range ⟨s.toArray⟩ (by omega) hc _ w h2 (Or.inr ⟨_, _, rfl⟩)).mono ?_
    rintro e w' ⟨N, rfl, -, -, hb⟩
    exact ⟨hb, Or.inr ⟨(fun v h => by cases h), _, _, _, rfl⟩⟩

theorem nDigits_lt : ∀ (k n : Nat), Lib.nDigits n ≤ k + 1 → n < 10 ^ (k + 1) := by
  intro k
  induction k with
  | zero =>
    intro n h
    rw [Lib.nDigits] at h
    split at h
    · omega
    · have : 1 ≤ Lib.nDigits (n / 10) := by rw [Lib.nDigits]; split <;> omega
      omega
  | succ k ih =>
    intro n h
    rw [Lib.nDigits] at h
    split at h
    · have : 10 ≤ 10 ^ (k + 1 + 1) := by
        have : 0 < 10 ^ (k + 1) := Nat.pow_pos (by decide)
        rw [Nat.pow_succ]; omega
      omega
    · have := ih (n / 10) (by omega)
      rw [Nat.pow_succ]; omega
theorem dec_le {n : Nat} (h : (Lib.decDigits n).length ≤ 4) : n ≤ 9999 := by
  rw [Lib.decDigits_length] at h
  have := nDigits_lt 3 n h
  omega
theorem atoiAll_dec {n : Nat} (h : n ≤ 9999) : Lib.atoiAll (Lib.decDigits n) = .ok (n : Int) := by
  have := digits_le 3 n (by omega)
  rw [Lib.atoiAll_short _ (by omega), atoi_dec]
  rfl
theorem dec_inj {n m : Nat} (_hn : n ≤ 9999) (_hm : m ≤ 9999) (h : Lib.decDigits n = Lib.decDigits m) : n = m := by
  have h1 := decFrom_dec n
  rw [h, decFrom_dec] at h1
  exact (Option.some.inj h1).symm
theorem decFrom_small {l : List UInt8} {m : Nat} (hl : l.length ≤ 4) (h : Lib.decNat l = some m) : (m : Int) ≤ 9223372036854775807 := by
  have := Lib.decNat_small (l := l) (m := m) (by omega) h
  omega
theorem atoi_small {l : List UInt8} {v : Int} (hl : l.length ≤ 4) (h : Lib.atoi l = some v) : v ≤ 9223372036854775807 := by
  cases l with
  | nil => cases h
  | cons b r =>
    have hr : r.length ≤ 4 := by simp at hl; omega
    simp only [Lib.atoi] at h
    split at h
    · obtain ⟨m, -, rfl⟩ := Option.map_eq_some_iff.1 h
      omega
    · split at h
      · obtain ⟨m, hm, rfl⟩ := Option.map_eq_some_iff.1 h
        exact decFrom_small hr hm
      · obtain ⟨m, hm, rfl⟩ := Option.map_eq_some_iff.1 h
        exact decFrom_small hl hm
/-- The digits of a number of four at most. -/
def IsNum (ds : List UInt8) (n : Nat) : Prop := n ≤ 9999 ∧ ds = Lib.decDigits n

set_option maxRecDepth 100000 in
set_option maxHeartbeats 1000000 in
theorem number_any (ds : List UInt8) (w : World) (hN : NErr w) (ht : Tab w) (hl : ds.length ≤ 100000) :
    Calls Tryz.prog 67 #[str ds] w fun e w' => Below w.heap.size w w' ∧
      ((∃ n, IsNum ds n ∧ e = .returned (.tuple #[.int .i64 n, .bool true])) ∨ ((∀ n, ¬ IsNum ds n) ∧ ∃ z : Int, e = .returned (.tuple #[.int .i64 z, .bool false]))) := by
  by_cases hex : ∃ n, IsNum ds n
  · obtain ⟨n, hn, rfl⟩ := hex
    refine (number_dec n w hn ht).mono ?_
    rintro e w' ⟨rfl, hb⟩
    exact ⟨hb, Or.inl ⟨n, ⟨hn, rfl⟩, rfl⟩⟩
  · have hno : ∀ n, ¬ IsNum ds n := fun n h => hex ⟨n, h⟩
    have HNO := Lib.hid hno
    have K1 := Lib.hid (atoi_any ds w hN hl)
    have HT := Lib.hid ht
    clear hex hno hN ht
    go_enter Tryz.func67, Tryz.ntmps67
    go_wp2_with fail
    refine K1.out.mono ?_
    rintro e w1 ⟨hb1, ⟨v, hv, rfl⟩ | ⟨-, z, t, p, rfl⟩⟩
    · have HB1 := Lib.hid hb1
      have HV := Lib.hid hv
      clear hb1 hv
      by_cases h4 : ds.length ≤ 4
      · by_cases h0 : 0 ≤ v
        · have hv9 : v ≤ 9223372036854775807 := by
            have hh := HV.out
            rw [Lib.atoiAll_short _ (by omega)] at hh
            cases hq : Lib.atoi ds with
            | none => rw [hq] at hh; cases hh
            | some u =>
              rw [hq] at hh
              obtain rfl : u = v := by injection hh
              exact atoi_small h4 hq
          have hne : (Lib.itoa v == ds) = false := by
            rw [beq_eq_false_iff_ne]
            intro e
            have : Lib.itoa v = Lib.decDigits v.toNat := by unfold Lib.itoa; rw [if_neg (by omega)]
            rw [this] at e
            exact HNO.out v.toNat ⟨dec_le (by rw [e]; exact h4), e.symm⟩
          have K2 := Lib.hid (Tryz.strconv_Itoa v (by omega) hv9 w1 (tab_below HT.out HB1.out (Nat.le_refl _)))
          obtain ⟨dd, hdd⟩ : ∃ d, Lib.itoa v = d := ⟨_, rfl⟩
          rw [hdd] at K2 hne
          clear hdd
          have hlt0 : (0 ≤ v) = True := by simpa using h0
          go_wp2_with fail
          refine K2.out.mono ?_
          rintro e w2 ⟨rfl, kk, os, hw2⟩
          have HB2 : Hid (Below w1.heap.size w1 w2) := Lib.hid (by rw [hw2]; exact Lib.below_grow _ w1 (Nat.le_refl _) kk os)
          clear hw2
          go_wp2
          go_ret2
          exact ⟨HB1.out.trans (HB2.out.mono HB1.out.size), Or.inr ⟨HNO.out, _, rfl⟩⟩
        · have hlt0 : (0 ≤ v) = False := by simpa using h0
          go_wp2
          go_ret2
          exact ⟨HB1.out, Or.inr ⟨HNO.out, _, rfl⟩⟩
      · have hlt4 : ((ds.length : Int) ≤ 4) = False := by simp; omega
        go_wp2
        go_ret2
        exact ⟨HB1.out, Or.inr ⟨HNO.out, _, rfl⟩⟩
    · have HB1 := Lib.hid hb1
      clear hb1
      go_wp2
      go_ret2
      exact ⟨HB1.out, Or.inr ⟨HNO.out, _, rfl⟩⟩

theorem cut_miss {c : UInt8} {s : List UInt8} (h : c ∉ s) : Lib.cut s [c] = (s, [], false) := by
  have hi : Lib.index s [c] = -1 := by
    refine Lib.index_past (i := s.length) (by simp) (fun j hj => ?_) (by simp)
    unfold Lib.occAt
    have hd : s.drop j = s[j] :: s.drop (j + 1) := List.drop_eq_getElem_cons hj
    rw [hd]
    have hne : c ≠ s[j] := fun e => h (e ▸ List.getElem_mem hj)
    simp [List.isPrefixOf, hne]
  unfold Lib.cut
  rw [hi, if_neg (by decide)]
theorem strcut_miss (s : List UInt8) (c : UInt8) (w : World) (h : c ∉ s) (hl : s.length ≤ 4000000000) (hm : Ml w) :
    Calls Tryz.prog 66 #[str s, str [c]] w fun e w' => e = .returned (.tuple #[str s, str [], .bool false]) ∧ Below w.heap.size w w' := by
  obtain ⟨m, hm⟩ := hm
  refine (Tryz.strings_Cut ⟨s.toArray⟩ ⟨[c].toArray⟩ m w (by simp [ByteArray.size]; omega) hm).mono ?_
  rintro e w' ⟨rfl, q, rfl⟩
  have e1 : Lib.cut ((⟨s.toArray⟩ : ByteArray).data.toList) ((⟨[c].toArray⟩ : ByteArray).data.toList) = (s, [], false) := cut_miss h
  rw [e1]
  exact ⟨rfl, below_drewN (Below.refl _ _) q⟩
theorem split_at {c : UInt8} : ∀ {s : List UInt8}, c ∈ s → ∃ a r, s = a ++ c :: r ∧ c ∉ a
  | b :: s, h => by
    by_cases hb : b = c
    · exact ⟨[], s, by rw [hb]; rfl, by simp⟩
    · rcases List.mem_cons.1 h with h | h
      · exact absurd h.symm hb
      · obtain ⟨a, r, rfl, hn⟩ := split_at h
        exact ⟨b :: a, r, rfl, by
          simp only [List.mem_cons, not_or]
          exact ⟨fun e => hb e.symm, hn⟩⟩
theorem split_one {c : UInt8} : ∀ {a a' r r' : List UInt8}, a ++ c :: r = a' ++ c :: r' → c ∉ a → c ∉ a' → a = a' ∧ r = r'
  | [], [], _, _, h, _, _ => ⟨rfl, by simpa using h⟩
  | [], b :: a', _, _, h, _, h2 => by
    simp only [List.nil_append, List.cons_append, List.cons.injEq] at h
    exact absurd (by rw [h.1]; exact List.mem_cons_self) h2
  | b :: a, [], _, _, h, h1, _ => by
    simp only [List.nil_append, List.cons_append, List.cons.injEq] at h
    exact absurd (by rw [← h.1]; exact List.mem_cons_self) h1
  | b :: a, b' :: a', r, r', h, h1, h2 => by
    simp only [List.cons_append, List.cons.injEq] at h
    obtain ⟨e1, e2⟩ := split_one h.2 (fun h => h1 (List.mem_cons_of_mem _ h)) (fun h => h2 (List.mem_cons_of_mem _ h))
    exact ⟨by rw [h.1, e1], e2⟩

/-- A text begins with a file, behind which t comes. -/
def FileIs (s p b t : List UInt8) : Prop := s = lineL p b ++ t ∧ 10 ∉ p ∧ 32 ∉ p ∧ b.length ≤ 9999
theorem FileIs.parts {s p b t : List UInt8} (h : FileIs s p b t) : s = (p ++ 32 :: Lib.decDigits b.length) ++ 10 :: (b ++ 10 :: t) ∧ 10 ∉ p ++ 32 :: Lib.decDigits b.length ∧ 32 ∉ p ∧ b.length ≤ 9999 := by
  refine ⟨by rw [h.1]; unfold lineL; simp, fun hm => ?_, h.2.2.1, h.2.2.2⟩
  rcases List.mem_append.1 hm with hm | hm
  · exact h.2.1 hm
  · rcases List.mem_cons.1 hm with hm | hm
    · exact absurd hm (by decide)
    · exact (dec_chars _).1 hm
/-- What a text must be that begins with a file, by its first line. -/
theorem FileIs.of {head rest p b t : List UInt8} (h : FileIs (head ++ 10 :: rest) p b t) (hn : 10 ∉ head) : head = p ++ 32 :: Lib.decDigits b.length ∧ rest = b ++ 10 :: t ∧ 32 ∉ p ∧ b.length ≤ 9999 := by
  obtain ⟨h1, h2, h3, h4⟩ := h.parts
  obtain ⟨e1, e2⟩ := split_one h1 hn h2
  exact ⟨e1, e2, h3, h4⟩

set_option maxRecDepth 100000 in
set_option maxHeartbeats 2000000 in
theorem file_any (s : List UInt8) (w : World) (hN : NErr w) (ht : Tab w) (hm : Ml w) (hl : s.length ≤ 100000) :
    Calls Tryz.prog 50 #[str s] w fun e w' => Below w.heap.size w w' ∧
      ((∃ p b t, FileIs s p b t ∧ e = .returned (.tuple #[str p, str b, str t, .bool true])) ∨ ((∀ p b t, ¬ FileIs s p b t) ∧ e = .returned (.tuple #[str [], str [], str [], .bool false]))) := by
  have HM := Lib.hid hm
  have HT := Lib.hid ht
  have HN := Lib.hid hN
  clear hm ht hN
  -- what comes behind the two cuts
  by_cases h10 : (10 : UInt8) ∈ s
  · obtain ⟨head, rest, rfl, hn⟩ := split_at h10
    have hll : head.length + rest.length + 1 ≤ 100000 := by simp at hl; omega
    have K1 := Lib.hid (strcut_any head rest 10 w hn (by omega) HM.out)
    obtain ⟨s0, hs0⟩ : ∃ x, head ++ 10 :: rest = x := ⟨_, rfl⟩
    have HS0 := Lib.hid hs0
    rw [hs0] at K1
    rw [hs0]
    have HNH := Lib.hid hn
    clear h10 hl hs0 hn
    by_cases h32 : (32 : UInt8) ∈ head
    · obtain ⟨p, ds, rfl, hp⟩ := split_at h32
      have hdl : ds.length ≤ 100000 := by simp at hll; omega
      have K2 := Lib.hid (fun w1 (h : Ml w1) => strcut_any p ds 32 w1 hp (by simp at hll ⊢; omega) h)
      have K3 := Lib.hid (fun w1 (h1 : NErr w1) (h2 : Tab w1) => number_any ds w1 h1 h2 hdl)
      have HP := Lib.hid hp
      obtain ⟨h0, hh0⟩ : ∃ x, p ++ 32 :: ds = x := ⟨_, rfl⟩
      have HH0 := Lib.hid hh0
      rw [hh0] at K1 K2
      have hrl : rest.length ≤ 100000 := by omega
      clear h32 hp hh0 hll
      go_enter Tryz.func50, Tryz.ntmps50
      go_wp2_with fail
      refine K1.out.mono ?_
      rintro e w1 ⟨rfl, hb1⟩
      have HB1 := Lib.hid hb1
      clear hb1
      go_wp2_with fail
      refine (K2.out w1 (HM.out.below HB1.out (Nat.le_refl _))).mono ?_
      rintro e w2 ⟨rfl, hb2⟩
      have HB2 := Lib.hid (HB1.out.trans (hb2.mono HB1.out.size))
      clear hb2
      go_wp2_with fail
      refine (K3.out w2 (HN.out.below HB2.out (Nat.le_refl _)) (tab_below HT.out HB2.out (Nat.le_refl _))).mono ?_
      rintro e w3 ⟨hb3, ⟨n, hn, rfl⟩ | ⟨hno, z, rfl⟩⟩
      · have HB3 := Lib.hid (HB2.out.trans (hb3.mono HB2.out.size))
        have HNN := Lib.hid hn
        have hn9 : n ≤ 9999 := hn.1
        clear hb3 hn
        by_cases hlt : n < rest.length
        · obtain ⟨x, hx⟩ : ∃ x, rest[n] = x := ⟨_, rfl⟩
          have hidx : ∀ h, (⟨rest.toArray⟩ : ByteArray)[n]'h = x := fun _ => hx
          have HX := Lib.hid hx
          have hle : ((rest.length : Int) ≤ (n : Int)) = False := by simp; omega
          clear hx
          by_cases hc : x = 10
          · have hd : ((x.toNat : Int) == 10) = true := by rw [hc]; rfl
            have hx1 : (⟨rest.toArray⟩ : ByteArray).extract 0 n = ⟨(rest.take n).toArray⟩ := by rw [extract_list]; simp
            have hx2 : (⟨rest.toArray⟩ : ByteArray).extract (n + 1) rest.length = ⟨(rest.drop (n + 1)).toArray⟩ := by rw [extract_list]; congr 2; exact List.take_of_length_le (by simp)
            have HC := Lib.hid hc
            clear hc
            go_wp2_with fail
            go_region
            all_goals
              go_wp2
              (try simp only [Exit.inBlock, Exit.then])
              refine bodyPost_ret (Kf.results_tmp4 rfl _ _ _) rfl ?_
              refine ⟨by first | exact HB3.out | exact HB3.out.drew, Or.inl ⟨p, rest.take n, rest.drop (n + 1), ?_, rfl⟩⟩
              have hbl : (rest.take n).length = n := by rw [List.length_take]; omega
              have h10n : (10 : UInt8) ∉ p := fun h => HNH.out (List.mem_append_left _ h)
              refine ⟨?_, h10n, HP.out, by omega⟩
              rw [← HS0.out]
              unfold lineL
              rw [hbl, ← HNN.out.2]
              have hr : rest = rest.take n ++ 10 :: rest.drop (n + 1) := by
                conv => lhs; rw [← List.take_append_drop n rest]
                rw [List.drop_eq_getElem_cons hlt, HX.out, HC.out]
              conv => lhs; rw [hr]
              simp
          · have hd : ((x.toNat : Int) == 10) = false := by
              have := Kf.u8_eq x 10
              rw [show ((10 : UInt8).toNat : Int) = 10 from rfl] at this
              rw [this]; simpa using hc
            have HC := Lib.hid hc
            clear hc
            go_wp2
            (try simp only [Exit.inBlock, Exit.then])
            refine bodyPost_ret (Kf.results_tmp4 rfl _ _ _) rfl ?_
            refine ⟨HB3.out, Or.inr ⟨fun p' b' t' hf => ?_, rfl⟩⟩
            rw [← HS0.out] at hf
            obtain ⟨e1, e2, e3, e4⟩ := hf.of HNH.out
            obtain ⟨-, e6⟩ := split_one e1 HP.out e3
            have hnb : n = b'.length := dec_inj hn9 e4 (by rw [← HNN.out.2]; exact e6)
            apply HC.out
            rw [← HX.out]
            simp [e2, hnb]
        · have hle : ((rest.length : Int) ≤ (n : Int)) = True := by simp; omega
          go_wp2
          (try simp only [Exit.inBlock, Exit.then])
          refine bodyPost_ret (Kf.results_tmp4 rfl _ _ _) rfl ?_
          refine ⟨HB3.out, Or.inr ⟨fun p' b' t' hf => ?_, rfl⟩⟩
          rw [← HS0.out] at hf
          obtain ⟨e1, e2, e3, e4⟩ := hf.of HNH.out
          obtain ⟨-, e6⟩ := split_one e1 HP.out e3
          have hnb : n = b'.length := dec_inj hn9 e4 (by rw [← HNN.out.2]; exact e6)
          rw [e2] at hlt
          simp at hlt
          omega
      · have HB3 := Lib.hid (HB2.out.trans (hb3.mono HB2.out.size))
        have HNO := Lib.hid hno
        clear hb3 hno
        go_wp2
        (try simp only [Exit.inBlock, Exit.then])
        refine bodyPost_ret (Kf.results_tmp4 rfl _ _ _) rfl ?_
        refine ⟨HB3.out, Or.inr ⟨fun p' b' t' hf => ?_, rfl⟩⟩
        rw [← HS0.out] at hf
        obtain ⟨e1, e2, e3, e4⟩ := hf.of HNH.out
        obtain ⟨-, e6⟩ := split_one e1 HP.out e3
        exact HNO.out _ ⟨e4, e6⟩
    · have K2 := Lib.hid (fun w1 (h : Ml w1) => strcut_miss head 32 w1 h32 (by omega) h)
      have K3 := Lib.hid (fun w1 (h1 : NErr w1) (h2 : Tab w1) => number_any [] w1 h1 h2 (by decide))
      have H32 := Lib.hid h32
      clear h32 hll
      go_enter Tryz.func50, Tryz.ntmps50
      go_wp2_with fail
      refine K1.out.mono ?_
      rintro e w1 ⟨rfl, hb1⟩
      have HB1 := Lib.hid hb1
      clear hb1
      go_wp2_with fail
      refine (K2.out w1 (HM.out.below HB1.out (Nat.le_refl _))).mono ?_
      rintro e w2 ⟨rfl, hb2⟩
      have HB2 := Lib.hid (HB1.out.trans (hb2.mono HB1.out.size))
      clear hb2
      have fin : ∀ w3, Below w2.heap.size w2 w3 → Below w.heap.size w w3 ∧ ∀ p' b' t', ¬ FileIs s0 p' b' t' := fun w3 hb3 => ⟨HB2.out.trans (hb3.mono HB2.out.size), fun p' b' t' hf => by
        rw [← HS0.out] at hf
        obtain ⟨e1, -, -, -⟩ := hf.of HNH.out
        exact H32.out (by rw [e1]; simp)⟩
      have FIN := Lib.hid fin
      clear fin
      go_wp2_with fail
      refine (K3.out w2 (HN.out.below HB2.out (Nat.le_refl _)) (tab_below HT.out HB2.out (Nat.le_refl _))).mono ?_
      rintro e w3 ⟨hb3, ⟨n, hn, rfl⟩ | ⟨hno, z, rfl⟩⟩
      all_goals
        have HF := Lib.hid (FIN.out w3 hb3)
        clear hb3
        go_wp2
        (try simp only [Exit.inBlock, Exit.then])
        refine bodyPost_ret (Kf.results_tmp4 rfl _ _ _) rfl ?_
        exact ⟨HF.out.1, Or.inr ⟨HF.out.2, rfl⟩⟩
  · have K1 := Lib.hid (strcut_miss s 10 w h10 (by omega) HM.out)
    have H10 : Hid (∀ p b t, ¬ FileIs s p b t) := Lib.hid (fun p b t hf => h10 (by rw [hf.parts.1]; simp))
    clear h10
    by_cases h32 : (32 : UInt8) ∈ s
    · obtain ⟨p, ds, rfl, hp⟩ := split_at h32
      have hdl : ds.length ≤ 100000 := by simp at hl; omega
      have K2 := Lib.hid (fun w1 (h : Ml w1) => strcut_any p ds 32 w1 hp (by simp at hl ⊢; omega) h)
      have K3 := Lib.hid (fun w1 (h1 : NErr w1) (h2 : Tab w1) => number_any ds w1 h1 h2 hdl)
      generalize p ++ 32 :: ds = s0 at *
      clear h32 hp
      go_enter Tryz.func50, Tryz.ntmps50
      go_wp2_with fail
      refine K1.out.mono ?_
      rintro e w1 ⟨rfl, hb1⟩
      have HB1 := Lib.hid hb1
      clear hb1
      go_wp2_with fail
      refine (K2.out w1 (HM.out.below HB1.out (Nat.le_refl _))).mono ?_
      rintro e w2 ⟨rfl, hb2⟩
      have HB2 := Lib.hid (HB1.out.trans (hb2.mono HB1.out.size))
      clear hb2
      go_wp2_with fail
      refine (K3.out w2 (HN.out.below HB2.out (Nat.le_refl _)) (tab_below HT.out HB2.out (Nat.le_refl _))).mono ?_
      rintro e w3 ⟨hb3, ⟨n, hn, rfl⟩ | ⟨hno, z, rfl⟩⟩
      all_goals
        have HB3 := Lib.hid (HB2.out.trans (hb3.mono HB2.out.size))
        clear hb3
        go_wp2
        (try simp only [Exit.inBlock, Exit.then])
        refine bodyPost_ret (Kf.results_tmp4 rfl _ _ _) rfl ?_
        exact ⟨HB3.out, Or.inr ⟨H10.out, rfl⟩⟩
    · have K2 := Lib.hid (fun w1 (h : Ml w1) => strcut_miss s 32 w1 h32 (by omega) h)
      have K3 := Lib.hid (fun w1 (h1 : NErr w1) (h2 : Tab w1) => number_any [] w1 h1 h2 (by decide))
      clear h32
      go_enter Tryz.func50, Tryz.ntmps50
      go_wp2_with fail
      refine K1.out.mono ?_
      rintro e w1 ⟨rfl, hb1⟩
      have HB1 := Lib.hid hb1
      clear hb1
      go_wp2_with fail
      refine (K2.out w1 (HM.out.below HB1.out (Nat.le_refl _))).mono ?_
      rintro e w2 ⟨rfl, hb2⟩
      have HB2 := Lib.hid (HB1.out.trans (hb2.mono HB1.out.size))
      clear hb2
      go_wp2_with fail
      refine (K3.out w2 (HN.out.below HB2.out (Nat.le_refl _)) (tab_below HT.out HB2.out (Nat.le_refl _))).mono ?_
      rintro e w3 ⟨hb3, ⟨n, hn, rfl⟩ | ⟨hno, z, rfl⟩⟩
      all_goals
        have HB3 := Lib.hid (HB2.out.trans (hb3.mono HB2.out.size))
        clear hb3
        go_wp2
        (try simp only [Exit.inBlock, Exit.then])
        refine bodyPost_ret (Kf.results_tmp4 rfl _ _ _) rfl ?_
        exact ⟨HB3.out, Or.inr ⟨H10.out, rfl⟩⟩
end Go.Proofs.YtmkpeopebddnjaaGreatDoor
