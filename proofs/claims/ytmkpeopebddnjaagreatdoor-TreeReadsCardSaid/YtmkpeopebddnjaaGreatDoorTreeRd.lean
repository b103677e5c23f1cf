/-
  A tree's text read back: number, file, at what Text has written.
-/
import Derived.Test.YtmkpeopebddnjaaGreatDoorTreePure
import Derived.Test.YtmkpeopebddnjaaGreatDoorShelfB
import Derived.Lib.AtoiErrMem
import Derived.Lib.IndexMore
import Derived.BigQuiet
namespace Go.Proofs.YtmkpeopebddnjaaGreatDoor
open Go Go.RowKit Go.Kf Go.Sort

theorem cut_at {c : UInt8} {a r : List UInt8} (h : c ∉ a) : Lib.cut (a ++ c :: r) [c] = (a, r, true) := by
  have hi : Lib.index (a ++ c :: r) [c] = (a.length : Int) := by
    refine Lib.index_hit (fun j hj => ?_) (by simp) ?_
    · unfold Lib.occAt
      have hd : (a ++ c :: r).drop j = a[j] :: (a ++ c :: r).drop (j + 1) := by
        rw [List.drop_eq_getElem_cons (by simp; omega), List.getElem_append_left hj]
      rw [hd]
      have hne : c ≠ a[j] := fun e => h (e ▸ List.getElem_mem hj)
      simp [List.isPrefixOf, hne]
    · unfold Lib.occAt
      rw [List.drop_left]
      simp [List.isPrefixOf]
  unfold Lib.cut
  rw [hi, if_pos (by omega)]
  simp
theorem strcut_any (a r : List UInt8) (c : UInt8) (w : World) (h : c ∉ a) (hl : (a ++ c :: r).length ≤ 4000000000) (hm : Ml w) :
    Calls Tryz.prog 66 #[str (a ++ c :: r), str [c]] w fun e w' => e = .returned (.tuple #[str a, str r, .bool true]) ∧ Below w.heap.size w w' := by
  obtain ⟨m, hm⟩ := hm
  refine (Tryz.strings_Cut ⟨(a ++ c :: r).toArray⟩ ⟨[c].toArray⟩ m w (by rw [Lib.size_eq]; simp only [List.size_toArray] at *; simp at hl ⊢; omega) hm).mono ?_
  rintro e w' ⟨rfl, q, rfl⟩
  have e1 : Lib.cut ((⟨(a ++ c :: r).toArray⟩ : ByteArray).data.toList) ((⟨[c].toArray⟩ : ByteArray).data.toList) = (a, r, true) := cut_at h
  rw [e1]
  exact ⟨rfl, below_drewN (Below.refl _ _) q⟩

theorem dec_digit (n : Nat) : ∀ d ∈ Lib.decDigits n, 48 ≤ d.toNat ∧ d.toNat ≤ 57 := by
  induction n using Nat.strongRecOn with
  | ind n ih =>
    intro d hd
    rw [Lib.decDigits] at hd
    split at hd
    · rename_i h
      rw [List.mem_singleton] at hd
      subst hd
      have : (UInt8.ofNat (48 + n)).toNat = 48 + n := by simp [UInt8.toNat_ofNat']; omega
      omega
    · rename_i h
      rcases List.mem_append.1 hd with hd | hd
      · exact ih (n / 10) (by omega) d hd
      · rw [List.mem_singleton] at hd
        subst hd
        have : (UInt8.ofNat (48 + n % 10)).toNat = 48 + n % 10 := by simp [UInt8.toNat_ofNat']; omega
        omega
theorem decFrom_app : ∀ (l r : List UInt8) (acc m : Nat), Lib.decFrom acc l = some m → Lib.decFrom acc (l ++ r) = Lib.decFrom m r
  | [], r, acc, m, h => by
    obtain rfl := Option.some.inj h
    rfl
  | b :: l, r, acc, m, h => by
    unfold Lib.decFrom at h
    show Lib.decFrom acc (b :: (l ++ r)) = _
    unfold Lib.decFrom
    cases hd : Lib.digitVal b with
    | none => rw [hd] at h; cases h
    | some d =>
      rw [hd] at h
      cases r with
      | nil => simpa [Lib.decFrom] using decFrom_app l [] _ m h
      | cons x r => exact decFrom_app l (x :: r) _ m h
theorem digitVal_dg (k : Nat) (h : k < 10) : Lib.digitVal (UInt8.ofNat (48 + k)) = some k := by
  have : (UInt8.ofNat (48 + k)).toNat = 48 + k := by simp [UInt8.toNat_ofNat']; omega
  unfold Lib.digitVal
  rw [this, if_pos (by omega)]
  congr 1
  omega
theorem decFrom_dec (n : Nat) : Lib.decFrom 0 (Lib.decDigits n) = some n := by
  induction n using Nat.strongRecOn with
  | ind n ih =>
    rw [Lib.decDigits]
    split
    · rename_i h
      simp only [Lib.decFrom, digitVal_dg n h]
      congr 1
      omega
    · rename_i h
      rw [decFrom_app _ _ _ _ (ih (n / 10) (by omega))]
      simp only [Lib.decFrom, digitVal_dg (n % 10) (by omega)]
      congr 1
      omega
theorem dec_ne (n : Nat) : Lib.decDigits n ≠ [] := by
  intro e
  have := decFrom_dec n
  have h2 : (Lib.decDigits n).length = 0 := by rw [e]; rfl
  rw [Lib.decDigits_length, Lib.nDigits] at h2
  split at h2 <;> omega
theorem atoi_dec (n : Nat) : Lib.atoi (Lib.decDigits n) = some (n : Int) := by
  cases hd : Lib.decDigits n with
  | nil => exact absurd hd (dec_ne n)
  | cons b r =>
    have hb := dec_digit n b (by rw [hd]; exact List.mem_cons_self)
    unfold Lib.atoi
    have h1 : (b == 45) = false := by
      rw [beq_eq_false_iff_ne]
      intro e; subst e
      exact absurd hb.1 (by decide)
    have h2 : (b == 43) = false := by
      rw [beq_eq_false_iff_ne]
      intro e; subst e
      exact absurd hb.1 (by decide)
    simp only [h1, h2, Bool.false_eq_true, if_false]
    unfold Lib.decNat
    rw [← hd, decFrom_dec]
    simp [hd]

set_option maxRecDepth 100000 in
theorem number_dec (n : Nat) (w : World) (hn : n ≤ 9999) (ht : Tab w) :
    Calls Tryz.prog 67 #[str (Lib.decDigits n)] w fun e w' => e = .returned (.tuple #[.int .i64 n, .bool true]) ∧ Below w.heap.size w w' := by
  have hl : (Lib.decDigits n).length ≤ 4 := digits_le 3 n (by omega)
  have K1 := Lib.hid (Tryz.strconv_Atoi ⟨(Lib.decDigits n).toArray⟩ n (by simp [ByteArray.size]; omega) (atoi_dec n) w)
  have HT := Lib.hid ht
  clear ht
  go_enter Tryz.func67, Tryz.ntmps67
  go_wp2_with fail
  refine K1.out.mono ?_
  rintro e w1 ⟨rfl, t, hw1⟩
  have HB1 : Hid (Below w.heap.size w w1) := Lib.hid (by rw [hw1]; exact Lib.bytesWorld_below w _ t)
  have K2 := Lib.hid (itoa_any n w1 (by omega) (tab_below HT.out HB1.out (Nat.le_refl _)))
  clear hw1
  go_wp2_with fail
  refine K2.out.mono ?_
  rintro e w2 ⟨rfl, hb2⟩
  go_wp2
  go_ret2
  exact ⟨rfl, HB1.out.trans (hb2.mono HB1.out.size)⟩

theorem _root_.Go.Kf.results_tmp4 {fn : Func} {t u v x : Tmp} (h : fn.results = #[.tmp t, .tmp u, .tmp v, .tmp x]) (tmps : Array Value) (P : Program) (w : World) :
    (results fn tmps).run P w = .ok (.tuple #[tmps.getD t undef, tmps.getD u undef, tmps.getD v undef, tmps.getD x undef]) w := by
  simp [results, h]
theorem letter_not {c : UInt8} (h : letterB c = true) : c ≠ 10 ∧ c ≠ 32 := by
  constructor
  · intro e; subst e; revert h; decide
  · intro e; subst e; revert h; decide
theorem spl_char {c d : UInt8} : ∀ {l : List UInt8}, d ∈ l → d = c ∨ ∃ s ∈ spl c l, d ∈ s
  | b :: l, h => by
    unfold spl
    rcases List.mem_cons.1 h with rfl | h
    · by_cases hb : d = c
      · exact Or.inl hb
      · right
        rw [if_neg hb]
        cases hs : spl c l with
        | nil => exact ⟨_, List.mem_cons_self, List.mem_cons_self⟩
        | cons x r => exact ⟨_, List.mem_cons_self, List.mem_cons_self⟩
    · rcases spl_char (c := c) h with h | ⟨s, hs, hd⟩
      · exact Or.inl h
      · right
        by_cases hb : b = c
        · rw [if_pos hb]
          exact ⟨s, List.mem_cons_of_mem _ hs, hd⟩
        · rw [if_neg hb]
          cases hq : spl c l with
          | nil => rw [hq] at hs; cases hs
          | cons x r =>
            rw [hq] at hs
            rcases List.mem_cons.1 hs with rfl | hs
            · exact ⟨_, List.mem_cons_self, List.mem_cons_of_mem _ hd⟩
            · exact ⟨s, List.mem_cons_of_mem _ hs, hd⟩
/-- A path has neither line breaks nor blanks in it. -/
theorem path_chars {p : List UInt8} (h : isPathB p = true) : 10 ∉ p ∧ 32 ∉ p := by
  have hs : partsL p false = spl 47 p ∧ namesB false (spl 47 p) = true := by
    unfold isPathB partsL at *
    split
    · rename_i hc; exact ⟨rfl, hc.2⟩
    · rename_i hc; rw [if_neg hc] at h; cases h
  have key : ∀ d ∈ p, d ≠ 10 ∧ d ≠ 32 := by
    intro d hd
    rcases spl_char (c := 47) hd with rfl | ⟨t, ht, hdt⟩
    · decide
    · have hn := (List.all_eq_true.1 hs.2) t ht
      unfold nameB at hn
      simp only [Bool.and_eq_true] at hn
      have ho := hn.2.2.2.2
      unfold okAll at ho
      have := List.all_eq_true.1 ho d hdt
      unfold okB at this
      simp only [Bool.false_and, Bool.or_false] at this
      exact letter_not this
  exact ⟨fun h => (key 10 h).1 rfl, fun h => (key 32 h).2 rfl⟩
theorem dec_chars (n : Nat) : 10 ∉ Lib.decDigits n ∧ 32 ∉ Lib.decDigits n :=
  ⟨fun h => absurd (dec_digit n _ h).1 (by decide), fun h => absurd (dec_digit n _ h).1 (by decide)⟩

set_option maxRecDepth 100000 in
set_option maxHeartbeats 1000000 in
theorem file_line (p b t : List UInt8) (w : World) (hp : isPathB p = true) (hpl : p.length ≤ 1000) (hb : b.length ≤ 2000) (htl : t.length ≤ 100000000) (ht : Tab w) (hm : Ml w) :
    Calls Tryz.prog 50 #[str (lineL p b ++ t)] w fun e w' => e = .returned (.tuple #[str p, str b, str t, .bool true]) ∧ Below w.heap.size w w' := by
  have hdl := digits_le 4 b.length (by omega)
  obtain ⟨hc1, hc2⟩ := path_chars hp
  obtain ⟨hd1, hd2⟩ := dec_chars b.length
  have es : lineL p b ++ t = (p ++ 32 :: Lib.decDigits b.length) ++ 10 :: (b ++ 10 :: t) := by unfold lineL; simp
  have h10 : (10 : UInt8) ∉ p ++ 32 :: Lib.decDigits b.length := by
    intro h
    rcases List.mem_append.1 h with h | h
    · exact hc1 h
    · rcases List.mem_cons.1 h with h | h
      · exact absurd h (by decide)
      · exact hd1 h
  have K1 := Lib.hid (strcut_any (p ++ 32 :: Lib.decDigits b.length) (b ++ 10 :: t) 10 w h10 (by simp; omega) hm)
  have HM := Lib.hid hm
  have HT := Lib.hid ht
  rw [es]
  have K2 := Lib.hid (fun w1 (h : Ml w1) => strcut_any p (Lib.decDigits b.length) 32 w1 hc2 (by simp; omega) h)
  have K3 := Lib.hid (fun w1 (h : Tab w1) => number_dec b.length w1 (by omega) h)
  obtain ⟨r, hr⟩ : ∃ r, b ++ 10 :: t = r := ⟨_, rfl⟩
  rw [hr] at K1
  rw [hr]
  have hrl : r.length = b.length + 1 + t.length := by rw [← hr]; simp; omega
  have hlt : b.length < r.length := by omega
  have hidx : ∀ h, (⟨r.toArray⟩ : ByteArray)[b.length]'h = (10 : UInt8) := fun _ => by
    show r[b.length] = 10
    simp [← hr]
  have hx1 : (⟨r.toArray⟩ : ByteArray).extract 0 b.length = ⟨b.toArray⟩ := by rw [extract_list]; simp [← hr]
  have hx2 : (⟨r.toArray⟩ : ByteArray).extract (b.length + 1) r.length = ⟨t.toArray⟩ := by
    rw [extract_list]
    congr 2
    rw [← hr, List.take_of_length_le (by simp; omega)]
    simp [List.drop_append]
  have hx3 := hx2
  rw [hrl] at hx3
  clear hc1 hc2 hd1 hd2 es h10 hm ht hr hdl
  generalize (p ++ 32 :: Lib.decDigits b.length) ++ 10 :: r = s0 at *
  generalize p ++ 32 :: Lib.decDigits b.length = h0 at *
  generalize Lib.decDigits b.length = dd at *
  go_enter Tryz.func50, Tryz.ntmps50
  go_wp2_with fail
  refine K1.out.mono ?_
  rintro e w1 ⟨rfl, hb1⟩
  have HB1 := Lib.hid hb1
  clear hb1
  go_wp2_with fail
  refine (K2.out w1 (HM.out.below HB1.out (Nat.le_refl _))).mono ?_
  rintro e w2 ⟨rfl, hb2⟩
  have HB2 := Lib.hid (HB1.out.trans (hb2.mono HB1.out.size))
  clear hb2
  go_wp2_with fail
  refine (K3.out w2 (tab_below HT.out HB2.out (Nat.le_refl _))).mono ?_
  rintro e w3 ⟨rfl, hb3⟩
  have HB3 := Lib.hid (HB2.out.trans (hb3.mono HB2.out.size))
  clear hb3
  go_wp2_with fail
  go_region
  all_goals
    go_wp2
    (try simp only [Exit.inBlock, Exit.then])
    refine bodyPost_ret (Kf.results_tmp4 rfl _ _ _) rfl ?_
    first | exact ⟨rfl, HB3.out⟩ | exact ⟨rfl, HB3.out.drew⟩
end Go.Proofs.YtmkpeopebddnjaaGreatDoor
