/-
  Decimal numbers as texts; strconv.Atoi and strings.Cut at whatever text.
-/
import Derived.Test.YtmlmogllgnfklaaGreatDoorKeyW
import Derived.Test.YtmlmogllgnfklaaGreatDoorPathW
import Derived.Test.YtmlmogllgnfklaaGreatDoorSameT
import Derived.Lib.AtoiErrMem
import Derived.Lib.AtoiTie
import Derived.Lib.IndexMore
import Derived.BigQuiet
namespace Go.Proofs.YtmlmogllgnfklaaGreatDoor
open Go Go.RowKit Go.Kf Go.Sort

theorem digits_le : ∀ (k n : Nat), n < 10 ^ (k + 1) → (Lib.decDigits n).length ≤ k + 1 := by
  have h : ∀ (k n : Nat), n < 10 ^ (k + 1) → Lib.nDigits n ≤ k + 1 := by
    intro k
    induction k with
    | zero => intro n h; rw [Lib.nDigits]; split <;> omega
    | succ k ih =>
      intro n h
      rw [Lib.nDigits]
      split
      · omega
      · have := ih (n / 10) (by rw [Nat.pow_succ] at h; omega)
        omega
  intro k n hn
  rw [Lib.decDigits_length]
  exact h k n hn
theorem cut_at {c : UInt8} {a r : List UInt8} (h : c ∉ a) : Lib.cut (a ++ c :: r) [c] = (a, r, true) := by
  have hi : Lib.index (a ++ c :: r) [c] = (a.length : Int) := by
    refine Lib.index_hit (fun j hj => ?_) (by simp) ?_
    · unfold Lib.occAt
      have hd : (a ++ c :: r).drop j = a[j] :: (a ++ c :: r).drop (j + 1) := by
        rw [List.drop_eq_getElem_cons (by simp; omega), List.getElem_append_left hj]
      rw [hd]
      have hne : c ≠ a[j] := fun e => h (e ▸ List.getElem_mem hj)
      simp [List.isPrefixOf, hne]
    · unfold Lib.occAt
      rw [List.drop_left]
      simp [List.isPrefixOf]
  unfold Lib.cut
  rw [hi, if_pos (by omega)]
  simp
theorem strcut_any (a r : List UInt8) (c : UInt8) (w : World) (h : c ∉ a) (hl : (a ++ c :: r).length ≤ 4000000000) (hm : Ml w) :
    Calls Tryz.prog 80 #[str (a ++ c :: r), str [c]] w fun e w' => e = .returned (.tuple #[str a, str r, .bool true]) ∧ Below w.heap.size w w' := by
  obtain ⟨m, hm⟩ := hm
  refine (Tryz.strings_Cut ⟨(a ++ c :: r).toArray⟩ ⟨[c].toArray⟩ m w (by rw [Lib.size_eq]; simp at hl ⊢; omega) hm).mono ?_
  rintro e w' ⟨rfl, q, rfl⟩
  have e1 : Lib.cut ((⟨(a ++ c :: r).toArray⟩ : ByteArray).data.toList) ((⟨[c].toArray⟩ : ByteArray).data.toList) = (a, r, true) := cut_at h
  rw [e1]
  exact ⟨rfl, below_drewN (Below.refl _ _) q⟩

theorem dec_digit (n : Nat) : ∀ d ∈ Lib.decDigits n, 48 ≤ d.toNat ∧ d.toNat ≤ 57 := by
  induction n using Nat.strongRecOn with
  | ind n ih =>
    intro d hd
    rw [Lib.decDigits] at hd
    split at hd
    · rename_i h
      rw [List.mem_singleton] at hd
      subst hd
      have : (UInt8.ofNat (48 + n)).toNat = 48 + n := by simp [UInt8.toNat_ofNat']; omega
      omega
    · rename_i h
      rcases List.mem_append.1 hd with hd | hd
      · exact ih (n / 10) (by omega) d hd
      · rw [List.mem_singleton] at hd
        subst hd
        have : (UInt8.ofNat (48 + n % 10)).toNat = 48 + n % 10 := by simp [UInt8.toNat_ofNat']; omega
        omega
theorem decFrom_app : ∀ (l r : List UInt8) (acc m : Nat), Lib.decFrom acc l = some m → Lib.decFrom acc (l ++ r) = Lib.decFrom m r
  | [], r, acc, m, h => by
    obtain rfl := Option.some.inj h
    rfl
  | b :: l, r, acc, m, h => by
    unfold Lib.decFrom at h
    show Lib.decFrom acc (b :: (l ++ r)) = _
    unfold Lib.decFrom
    cases hd : Lib.digitVal b with
    | none => rw [hd] at h; cases h
    | some d =>
      rw [hd] at h
      cases r with
      | nil => simpa [Lib.decFrom] using decFrom_app l [] _ m h
      | cons x r => exact decFrom_app l (x :: r) _ m h
theorem digitVal_dg (k : Nat) (h : k < 10) : Lib.digitVal (UInt8.ofNat (48 + k)) = some k := by
  have : (UInt8.ofNat (48 + k)).toNat = 48 + k := by simp [UInt8.toNat_ofNat']; omega
  unfold Lib.digitVal
  rw [this, if_pos (by omega)]
  congr 1
  omega
theorem decFrom_dec (n : Nat) : Lib.decFrom 0 (Lib.decDigits n) = some n := by
  induction n using Nat.strongRecOn with
  | ind n ih =>
    rw [Lib.decDigits]
    split
    · rename_i h
      simp only [Lib.decFrom, digitVal_dg n h]
      congr 1
      omega
    · rename_i h
      rw [decFrom_app _ _ _ _ (ih (n / 10) (by omega))]
      simp only [Lib.decFrom, digitVal_dg (n % 10) (by omega)]
      congr 1
      omega
theorem dec_ne (n : Nat) : Lib.decDigits n ≠ [] := by
  intro e
  have := decFrom_dec n
  have h2 : (Lib.decDigits n).length = 0 := by rw [e]; rfl
  rw [Lib.decDigits_length, Lib.nDigits] at h2
  split at h2 <;> omega
theorem atoi_dec (n : Nat) : Lib.atoi (Lib.decDigits n) = some (n : Int) := by
  cases hd : Lib.decDigits n with
  | nil => exact absurd hd (dec_ne n)
  | cons b r =>
    have hb := dec_digit n b (by rw [hd]; exact List.mem_cons_self)
    unfold Lib.atoi
    have h1 : (b == 45) = false := by
      rw [beq_eq_false_iff_ne]
      intro e; subst e
      exact absurd hb.1 (by decide)
    have h2 : (b == 43) = false := by
      rw [beq_eq_false_iff_ne]
      intro e; subst e
      exact absurd hb.1 (by decide)
    simp only [h1, h2, Bool.false_eq_true, if_false]
    unfold Lib.decNat
    rw [← hd, decFrom_dec]
    simp [hd]

/-- The variables of strconv's errors hold errors. -/
def NErr (w : World) : Prop := (∃ t p, w.cell? ⟨16, 0, none⟩ = some (.iface t p)) ∧ ∃ t p, w.cell? ⟨17, 0, none⟩ = some (.iface t p)
theorem NErr.below {w w' : World} {B : Nat} (h : NErr w) (hb : Below B w w') (hB : w.heap.size ≤ B) : NErr w' := by
  obtain ⟨⟨t, p, h1⟩, ⟨u, q, h2⟩⟩ := h
  exact ⟨⟨t, p, (hb.cell (Nat.lt_of_lt_of_le (lt_of_cell h1) hB)).trans h1⟩, ⟨u, q, (hb.cell (Nat.lt_of_lt_of_le (lt_of_cell h2) hB)).trans h2⟩⟩

theorem atoi_any (s : List UInt8) (w : World) (hN : NErr w) (hl : s.length ≤ 100000) :
    Calls Tryz.prog 171 #[str s] w fun e w' => Below w.heap.size w w' ∧
      ((∃ v, Lib.atoiAll s = .ok v ∧ e = .returned (.tuple #[.int .i64 v, .nilIface])) ∨ ((∀ v, Lib.atoiAll s ≠ .ok v) ∧ ∃ z t p, e = .returned (.tuple #[.int .i64 z, .iface t p]))) := by
  obtain ⟨⟨t1, p1, h1⟩, ⟨t2, p2, h2⟩⟩ := hN
  have hsz : (⟨s.toArray⟩ : ByteArray).size = s.length := by simp [ByteArray.size]
  rcases hc : Lib.atoiAll s with v | _ | _
  · refine (Tryz.strconv_Atoi_ok ⟨s.toArray⟩ (by omega) v hc w).mono ?_
    rintro e w' ⟨rfl, h⟩
    refine ⟨?_, Or.inl ⟨v, rfl, rfl⟩⟩
    rcases h with rfl | ⟨t, rfl⟩
    · exact Below.refl _ _
    · exact Lib.bytesWorld_below w _ t
  · refine (Tryz.strconv_Atoi_syntax ⟨s.toArray⟩ (by omega) ⟨_, hc, (fun v h => by cases h), (fun h => by cases h)⟩ _ w h1 (Or.inr ⟨_, _, rfl⟩)).mono ?_
    rintro e w' ⟨N, rfl, -, -, hb⟩
    exact ⟨hb, Or.inr ⟨(fun v h => by cases h), _, _, _, rfl⟩⟩
  · refine (Tryz.strconv_Atoi_range ⟨s.toArray⟩ (by omega) hc _ w h2 (Or.inr ⟨_, _, rfl⟩)).mono ?_
    rintro e w' ⟨N, rfl, -, -, hb⟩
    exact ⟨hb, Or.inr ⟨(fun v h => by cases h), _, _, _, rfl⟩⟩

theorem nDigits_lt : ∀ (k n : Nat), Lib.nDigits n ≤ k + 1 → n < 10 ^ (k + 1) := by
  intro k
  induction k with
  | zero =>
    intro n h
    rw [Lib.nDigits] at h
    split at h
    · omega
    · have : 1 ≤ Lib.nDigits (n / 10) := by rw [Lib.nDigits]; split <;> omega
      omega
  | succ k ih =>
    intro n h
    rw [Lib.nDigits] at h
    split at h
    · have : 10 ≤ 10 ^ (k + 1 + 1) := by
        have : 0 < 10 ^ (k + 1) := Nat.pow_pos (by decide)
        rw [Nat.pow_succ]; omega
      omega
    · have := ih (n / 10) (by omega)
      rw [Nat.pow_succ]; omega
theorem dec_le {n : Nat} (h : (Lib.decDigits n).length ≤ 4) : n ≤ 9999 := by
  rw [Lib.decDigits_length] at h
  have := nDigits_lt 3 n h
  omega
theorem atoiAll_dec {n : Nat} (h : n ≤ 9999) : Lib.atoiAll (Lib.decDigits n) = .ok (n : Int) := by
  have := digits_le 3 n (by omega)
  rw [Lib.atoiAll_short _ (by omega), atoi_dec]
  rfl
theorem dec_inj {n m : Nat} (_hn : n ≤ 9999) (_hm : m ≤ 9999) (h : Lib.decDigits n = Lib.decDigits m) : n = m := by
  have h1 := decFrom_dec n
  rw [h, decFrom_dec] at h1
  exact (Option.some.inj h1).symm
theorem decFrom_small {l : List UInt8} {m : Nat} (hl : l.length ≤ 4) (h : Lib.decNat l = some m) : (m : Int) ≤ 9223372036854775807 := by
  have := Lib.decNat_small (l := l) (m := m) (by omega) h
  omega
theorem atoi_small {l : List UInt8} {v : Int} (hl : l.length ≤ 4) (h : Lib.atoi l = some v) : v ≤ 9223372036854775807 := by
  cases l with
  | nil => cases h
  | cons b r =>
    have hr : r.length ≤ 4 := by simp at hl; omega
    simp only [Lib.atoi] at h
    split at h
    · obtain ⟨m, -, rfl⟩ := Option.map_eq_some_iff.1 h
      omega
    · split at h
      · obtain ⟨m, hm, rfl⟩ := Option.map_eq_some_iff.1 h
        exact decFrom_small hr hm
      · obtain ⟨m, hm, rfl⟩ := Option.map_eq_some_iff.1 h
        exact decFrom_small hl hm
theorem cut_miss {c : UInt8} {s : List UInt8} (h : c ∉ s) : Lib.cut s [c] = (s, [], false) := by
  have hi : Lib.index s [c] = -1 := by
    refine Lib.index_past (i := s.length) (by simp) (fun j hj => ?_) (by simp)
    unfold Lib.occAt
    have hd : s.drop j = s[j] :: s.drop (j + 1) := List.drop_eq_getElem_cons hj
    rw [hd]
    have hne : c ≠ s[j] := fun e => h (e ▸ List.getElem_mem hj)
    simp [List.isPrefixOf, hne]
  unfold Lib.cut
  rw [hi, if_neg (by decide)]
theorem strcut_miss (s : List UInt8) (c : UInt8) (w : World) (h : c ∉ s) (hl : s.length ≤ 4000000000) (hm : Ml w) :
    Calls Tryz.prog 80 #[str s, str [c]] w fun e w' => e = .returned (.tuple #[str s, str [], .bool false]) ∧ Below w.heap.size w w' := by
  obtain ⟨m, hm⟩ := hm
  refine (Tryz.strings_Cut ⟨s.toArray⟩ ⟨[c].toArray⟩ m w (by simp [ByteArray.size]; omega) hm).mono ?_
  rintro e w' ⟨rfl, q, rfl⟩
  have e1 : Lib.cut ((⟨s.toArray⟩ : ByteArray).data.toList) ((⟨[c].toArray⟩ : ByteArray).data.toList) = (s, [], false) := cut_miss h
  rw [e1]
  exact ⟨rfl, below_drewN (Below.refl _ _) q⟩
theorem split_at {c : UInt8} : ∀ {s : List UInt8}, c ∈ s → ∃ a r, s = a ++ c :: r ∧ c ∉ a
  | b :: s, h => by
    by_cases hb : b = c
    · exact ⟨[], s, by rw [hb]; rfl, by simp⟩
    · rcases List.mem_cons.1 h with h | h
      · exact absurd h.symm hb
      · obtain ⟨a, r, rfl, hn⟩ := split_at h
        exact ⟨b :: a, r, rfl, by
          simp only [List.mem_cons, not_or]
          exact ⟨fun e => hb e.symm, hn⟩⟩
theorem split_one {c : UInt8} : ∀ {a a' r r' : List UInt8}, a ++ c :: r = a' ++ c :: r' → c ∉ a → c ∉ a' → a = a' ∧ r = r'
  | [], [], _, _, h, _, _ => ⟨rfl, by simpa using h⟩
  | [], b :: a', _, _, h, _, h2 => by
    simp only [List.nil_append, List.cons_append, List.cons.injEq] at h
    exact absurd (by rw [h.1]; exact List.mem_cons_self) h2
  | b :: a, [], _, _, h, h1, _ => by
    simp only [List.nil_append, List.cons_append, List.cons.injEq] at h
    exact absurd (by rw [← h.1]; exact List.mem_cons_self) h1
  | b :: a, b' :: a', r, r', h, h1, h2 => by
    simp only [List.cons_append, List.cons.injEq] at h
    obtain ⟨e1, e2⟩ := split_one h.2 (fun h => h1 (List.mem_cons_of_mem _ h)) (fun h => h2 (List.mem_cons_of_mem _ h))
    exact ⟨by rw [h.1, e1], e2⟩

theorem dec_big {n : Nat} (h : 10 ≤ n) : Lib.decDigits n = Lib.decDigits (n / 10) ++ [UInt8.ofNat (48 + n % 10)] := by
  conv => lhs; rw [Lib.decDigits]
  rw [dif_neg (by omega)]
theorem ofNat_48 {k : Nat} (h : k < 10) : (UInt8.ofNat (48 + k)).toNat = 48 + k := by
  simp [UInt8.toNat_ofNat']; omega
theorem dec_head (n : Nat) (h : 10 ≤ n) : ∃ b r, Lib.decDigits n = b :: r ∧ b ≠ 48 := by
  induction n using Nat.strongRecOn with
  | ind n ih =>
    rw [dec_big h]
    by_cases h2 : 10 ≤ n / 10
    · obtain ⟨b, r, e, hb⟩ := ih (n / 10) (by omega) h2
      exact ⟨b, r ++ [UInt8.ofNat (48 + n % 10)], by rw [e]; rfl, hb⟩
    · have hk : n / 10 < 10 := by omega
      rw [Lib.decDigits_one hk]
      refine ⟨_, _, rfl, fun e => ?_⟩
      have := congrArg UInt8.toNat e
      rw [ofNat_48 hk] at this
      have e48 : (48 : UInt8).toNat = 48 := rfl
      omega
theorem digit_of {b : UInt8} {d : Nat} (h : Lib.digitVal b = some d) : d < 10 ∧ b = UInt8.ofNat (48 + d) := by
  unfold Lib.digitVal at h
  split at h
  · rename_i hc
    obtain rfl := Option.some.inj h
    refine ⟨by omega, ?_⟩
    apply UInt8.toNat_inj.1
    rw [ofNat_48 (by omega)]
    omega
  · cases h
theorem decFrom_snoc {l : List UInt8} {b : UInt8} {acc n : Nat} (h : Lib.decFrom acc (l ++ [b]) = some n) : ∃ m d, Lib.decFrom acc l = some m ∧ Lib.digitVal b = some d ∧ n = m * 10 + d := by
  induction l generalizing acc with
  | nil =>
    simp only [List.nil_append, Lib.decFrom] at h
    cases hd : Lib.digitVal b with
    | none => rw [hd] at h; cases h
    | some d =>
      rw [hd] at h
      simp only [Option.some.injEq] at h
      exact ⟨acc, d, rfl, rfl, h.symm⟩
  | cons x l ih =>
    simp only [List.cons_append, Lib.decFrom] at h ⊢
    cases hd : Lib.digitVal x with
    | none => rw [hd] at h; cases h
    | some d =>
      rw [hd] at h
      exact ih h
theorem decFrom_ge : ∀ (l : List UInt8) (acc n : Nat), Lib.decFrom acc l = some n → acc ≤ n
  | [], acc, n, h => by
    obtain rfl := Option.some.inj h
    exact Nat.le_refl _
  | b :: l, acc, n, h => by
    simp only [Lib.decFrom] at h
    cases hd : Lib.digitVal b with
    | none => rw [hd] at h; cases h
    | some d =>
      rw [hd] at h
      have := decFrom_ge l _ n h
      omega
/-- Digits, the first of which is not 0 unless it is alone, are the digits of their number. -/
theorem dec_of : ∀ (k : Nat) (b : UInt8) (r : List UInt8) (n : Nat), r.length = k → (r = [] ∨ b ≠ 48) → Lib.decFrom 0 (b :: r) = some n → b :: r = Lib.decDigits n := by
  intro k
  induction k with
  | zero =>
    intro b r n hk _ h
    obtain rfl := List.length_eq_zero_iff.1 hk
    simp only [Lib.decFrom] at h
    cases hd : Lib.digitVal b with
    | none => rw [hd] at h; cases h
    | some d =>
      rw [hd] at h
      obtain ⟨h1, h2⟩ := digit_of hd
      have : n = d := by simpa using h.symm
      subst this
      rw [Lib.decDigits_one h1, h2]
  | succ k ih =>
    intro b r n hk hb h
    have hne : r ≠ [] := fun e => by rw [e] at hk; cases hk
    have hb' : b ≠ 48 := hb.resolve_left hne
    obtain ⟨r', c, rfl⟩ : ∃ r' c, r = r' ++ [c] := ⟨r.dropLast, r.getLast hne, (List.dropLast_concat_getLast hne).symm⟩
    have hk' : r'.length = k := by simp at hk; exact hk
    obtain ⟨m, d, h1, h2, rfl⟩ := decFrom_snoc (l := b :: r') h
    obtain ⟨hd, rfl⟩ := digit_of h2
    have hm : 1 ≤ m := by
      simp only [Lib.decFrom] at h1
      cases hv : Lib.digitVal b with
      | none => rw [hv] at h1; cases h1
      | some v =>
        rw [hv] at h1
        have := decFrom_ge r' _ m h1
        obtain ⟨-, rfl⟩ := digit_of hv
        have : v ≠ 0 := fun e => hb' (by subst e; rfl)
        omega
    have := ih b r' m hk' (Or.inr hb') h1
    rw [dec_big (by omega), show (m * 10 + d) / 10 = m by omega, show (m * 10 + d) % 10 = d by omega, ← this]
    rfl
theorem decFrom_bound : ∀ (l : List UInt8) (acc n : Nat), Lib.decFrom acc l = some n → n + 1 ≤ (acc + 1) * 10 ^ l.length := fun l acc n h => by
  have := Lib.decFrom_lt l acc n h
  omega

end Go.Proofs.YtmlmogllgnfklaaGreatDoor
