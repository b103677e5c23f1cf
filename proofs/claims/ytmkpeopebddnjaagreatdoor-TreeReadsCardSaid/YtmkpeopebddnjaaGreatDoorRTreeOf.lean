/-
  The reference's NumberOf and TreeOf at any text.
-/
import Derived.Test.YtmkpeopebddnjaaGreatDoorRRead
namespace Go.Proofs.YtmkpeopebddnjaaGreatDoor
open Go Go.RowKit Go.Kf Go.Sort

theorem dec_big {n : Nat} (h : 10 ≤ n) : Lib.decDigits n = Lib.decDigits (n / 10) ++ [UInt8.ofNat (48 + n % 10)] := by
  conv => lhs; rw [Lib.decDigits]
  rw [dif_neg (by omega)]
theorem ofNat_48 {k : Nat} (h : k < 10) : (UInt8.ofNat (48 + k)).toNat = 48 + k := by
  simp [UInt8.toNat_ofNat']; omega
theorem dec_head (n : Nat) (h : 10 ≤ n) : ∃ b r, Lib.decDigits n = b :: r ∧ b ≠ 48 := by
  induction n using Nat.strongRecOn with
  | ind n ih =>
    rw [dec_big h]
    by_cases h2 : 10 ≤ n / 10
    · obtain ⟨b, r, e, hb⟩ := ih (n / 10) (by omega) h2
      exact ⟨b, r ++ [UInt8.ofNat (48 + n % 10)], by rw [e]; rfl, hb⟩
    · have hk : n / 10 < 10 := by omega
      rw [Lib.decDigits_one hk]
      refine ⟨_, _, rfl, fun e => ?_⟩
      have := congrArg UInt8.toNat e
      rw [ofNat_48 hk] at this
      have e48 : (48 : UInt8).toNat = 48 := rfl
      omega
theorem digit_of {b : UInt8} {d : Nat} (h : Lib.digitVal b = some d) : d < 10 ∧ b = UInt8.ofNat (48 + d) := by
  unfold Lib.digitVal at h
  split at h
  · rename_i hc
    obtain rfl := Option.some.inj h
    refine ⟨by omega, ?_⟩
    apply UInt8.toNat_inj.1
    rw [ofNat_48 (by omega)]
    omega
  · cases h
theorem decFrom_snoc {l : List UInt8} {b : UInt8} {acc n : Nat} (h : Lib.decFrom acc (l ++ [b]) = some n) : ∃ m d, Lib.decFrom acc l = some m ∧ Lib.digitVal b = some d ∧ n = m * 10 + d := by
  induction l generalizing acc with
  | nil =>
    simp only [List.nil_append, Lib.decFrom] at h
    cases hd : Lib.digitVal b with
    | none => rw [hd] at h; cases h
    | some d =>
      rw [hd] at h
      simp only [Option.some.injEq] at h
      exact ⟨acc, d, rfl, rfl, h.symm⟩
  | cons x l ih =>
    simp only [List.cons_append, Lib.decFrom] at h ⊢
    cases hd : Lib.digitVal x with
    | none => rw [hd] at h; cases h
    | some d =>
      rw [hd] at h
      exact ih h
theorem decFrom_ge : ∀ (l : List UInt8) (acc n : Nat), Lib.decFrom acc l = some n → acc ≤ n
  | [], acc, n, h => by
    obtain rfl := Option.some.inj h
    exact Nat.le_refl _
  | b :: l, acc, n, h => by
    simp only [Lib.decFrom] at h
    cases hd : Lib.digitVal b with
    | none => rw [hd] at h; cases h
    | some d =>
      rw [hd] at h
      have := decFrom_ge l _ n h
      omega
/-- Digits, the first of which is not 0 unless it is alone, are the digits of their number. -/
theorem dec_of : ∀ (k : Nat) (b : UInt8) (r : List UInt8) (n : Nat), r.length = k → (r = [] ∨ b ≠ 48) → Lib.decFrom 0 (b :: r) = some n → b :: r = Lib.decDigits n := by
  intro k
  induction k with
  | zero =>
    intro b r n hk _ h
    obtain rfl := List.length_eq_zero_iff.1 hk
    simp only [Lib.decFrom] at h
    cases hd : Lib.digitVal b with
    | none => rw [hd] at h; cases h
    | some d =>
      rw [hd] at h
      obtain ⟨h1, h2⟩ := digit_of hd
      have : n = d := by simpa using h.symm
      subst this
      rw [Lib.decDigits_one h1, h2]
  | succ k ih =>
    intro b r n hk hb h
    have hne : r ≠ [] := fun e => by rw [e] at hk; cases hk
    have hb' : b ≠ 48 := hb.resolve_left hne
    obtain ⟨r', c, rfl⟩ : ∃ r' c, r = r' ++ [c] := ⟨r.dropLast, r.getLast hne, (List.dropLast_concat_getLast hne).symm⟩
    have hk' : r'.length = k := by simp at hk; exact hk
    obtain ⟨m, d, h1, h2, rfl⟩ := decFrom_snoc (l := b :: r') h
    obtain ⟨hd, rfl⟩ := digit_of h2
    have hm : 1 ≤ m := by
      simp only [Lib.decFrom] at h1
      cases hv : Lib.digitVal b with
      | none => rw [hv] at h1; cases h1
      | some v =>
        rw [hv] at h1
        have := decFrom_ge r' _ m h1
        obtain ⟨-, rfl⟩ := digit_of hv
        have : v ≠ 0 := fun e => hb' (by subst e; rfl)
        omega
    have := ih b r' m hk' (Or.inr hb') h1
    rw [dec_big (by omega), show (m * 10 + d) / 10 = m by omega, show (m * 10 + d) % 10 = d by omega, ← this]
    rfl
theorem decFrom_bound : ∀ (l : List UInt8) (acc n : Nat), Lib.decFrom acc l = some n → n + 1 ≤ (acc + 1) * 10 ^ l.length := fun l acc n h => by
  have := Lib.decFrom_lt l acc n h
  omega

set_option maxRecDepth 100000 in
set_option maxHeartbeats 1000000 in
theorem numberOf_any (ds : List UInt8) (w : World) (hl : ds.length ≤ 100000) :
    Calls Tryz.prog 53 #[str ds, .int .i64 4] w fun e w' => w = w' ∧
      ((∃ n : Nat, IsNum ds n ∧ e = .returned (.int .i64 n)) ∨ ((∀ n, ¬ IsNum ds n) ∧ e = .returned (.int .i64 (-1)))) := by
  by_cases h4 : ds.length ≤ 4
  · cases ds with
    | nil =>
      have hno : Hid (∀ n, ¬ IsNum [] n) := Lib.hid (fun n h => dec_ne n h.2.symm)
      go_enter Tryz.func53, Tryz.ntmps53
      go_wp2
      go_ret
      exact ⟨rfl, Or.inr ⟨hno.out, rfl⟩⟩
    | cons b r =>
      by_cases h48 : r ≠ [] ∧ b = 48
      · obtain ⟨hr, rfl⟩ := h48
        have hno : Hid (∀ n, ¬ IsNum (48 :: r) n) := Lib.hid (fun n h => by
          by_cases hn : 10 ≤ n
          · obtain ⟨b, r', e, hb⟩ := dec_head n hn
            have := h.2
            rw [e] at this
            exact hb (List.cons.inj this).1.symm
          · have := h.2
            rw [Lib.decDigits_one (by omega)] at this
            exact hr (List.cons.inj this).2)
        have hlen : 1 < (48 :: r).length := by
          have : r.length ≠ 0 := by simpa using hr
          simp; omega
        obtain ⟨ds, hds⟩ : ∃ ds, 48 :: r = ds := ⟨_, rfl⟩
        have hidx : ∀ h, (⟨ds.toArray⟩ : ByteArray)[0]'h = (48 : UInt8) := fun _ => by
          show ds[0] = 48
          simp [← hds]
        rw [hds] at hno hlen h4 hl ⊢
        clear hds hr
        have hz1 : ((ds.length : Int) < 1) = False := by simp; omega
        have hz2 : ((4 : Int) < (ds.length : Int)) = False := by simp; omega
        have hz3 : ((1 : Int) < (ds.length : Int)) = True := by simp; omega
        go_enter Tryz.func53, Tryz.ntmps53
        go_wp2
        go_ret
        exact ⟨rfl, Or.inr ⟨hno.out, rfl⟩⟩
      · have hor : r = [] ∨ b ≠ 48 := by
          by_cases hr : r = []
          · exact Or.inl hr
          · exact Or.inr (fun e => h48 ⟨hr, e⟩)
        have HOR := Lib.hid hor
        obtain ⟨ds, hds⟩ : ∃ ds, b :: r = ds := ⟨_, rfl⟩
        have HDS := Lib.hid hds
        have hb0 : ds[0]? = some b := by rw [← hds]; rfl
        have hpos : 1 ≤ ds.length := by rw [← hds]; simp
        have hidx0 : ∀ h, (⟨ds.toArray⟩ : ByteArray)[0]'h = b := fun _ => by
          show ds[0] = b
          simp [← hds]
        rw [hds] at h4 hl ⊢
        have hz1 : ((ds.length : Int) < 1) = False := by simp; omega
        have hz2 : ((4 : Int) < (ds.length : Int)) = False := by simp; omega
        have key : (((b.toNat : Int) == 48) = false ∧ ((1 : Int) < (ds.length : Int)) = True) ∨ ((1 : Int) < (ds.length : Int)) = False := by
          by_cases h1 : 1 < ds.length
          · left
            refine ⟨?_, by simp; omega⟩
            have hb : b ≠ 48 := HOR.out.resolve_left (fun e => by rw [← HDS.out, e] at h1; simp at h1)
            have := Kf.u8_eq b 48
            rw [show ((48 : UInt8).toNat : Int) = 48 from rfl] at this
            rw [this]; simpa using hb
          · right
            simp; omega
        have FIN : Hid (∀ m : Nat, Lib.decFrom 0 ds = some m → IsNum ds m) := Lib.hid (fun m hm => by
          rw [← HDS.out] at hm ⊢
          have e := dec_of r.length b r m rfl HOR.out hm
          refine ⟨dec_le ?_, e⟩
          rw [← e, HDS.out]; exact h4)
        clear hor hds hb0
        rcases key with ⟨hz4, hz3⟩ | hz3
        all_goals
          go_enter Tryz.func53, Tryz.ntmps53
          go_wp2_with fail
          go_loopw [5, 6] (fun nv iv wl => ∃ m i : Nat, i ≤ ds.length ∧ nv = .int .i64 m ∧ iv = .int .i64 i ∧ Lib.decFrom 0 (ds.take i) = some m ∧ wl = w) (fun _ iv _ => ds.length - (intOf iv).toNat)
          case atStart => exact ⟨0, 0, by omega, rfl, rfl, by simp [Lib.decFrom], rfl⟩
          case round =>
            obtain ⟨m, i, hi, rfl, rfl, hm, rfl⟩ := hrel
            have HMM := Lib.hid hm
            clear hm
            by_cases hlt : i < ds.length
            · obtain ⟨c, hc⟩ : ∃ c, ds[i] = c := ⟨_, rfl⟩
              have hidx : ∀ h, (⟨ds.toArray⟩ : ByteArray)[i]'h = c := fun _ => hc
              have HC := Lib.hid hc
              clear hc
              by_cases hlo : c.toNat < 48
              · have hd1 : ((c.toNat : Int) < 48) = True := by simp; omega
                have HNO : Hid (∀ n, ¬ IsNum ds n) := Lib.hid (fun n h => by
                  have := dec_digit n c (by rw [← h.2, ← HC.out]; exact List.getElem_mem hlt)
                  omega)
                go_wp2
                go_ret
                exact ⟨rfl, Or.inr ⟨HNO.out, rfl⟩⟩
              · have hd1 : ((c.toNat : Int) < 48) = False := by simp; omega
                by_cases hhi : 57 < c.toNat
                · have hd2 : ((57 : Int) < (c.toNat : Int)) = True := by simp; omega
                  have HNO : Hid (∀ n, ¬ IsNum ds n) := Lib.hid (fun n h => by
                    have := dec_digit n c (by rw [← h.2, ← HC.out]; exact List.getElem_mem hlt)
                    omega)
                  go_wp2
                  go_ret
                  exact ⟨rfl, Or.inr ⟨HNO.out, rfl⟩⟩
                · have hd2 : ((57 : Int) < (c.toNat : Int)) = False := by simp; omega
                  obtain ⟨d, hd⟩ : ∃ d, c.toNat = 48 + d := ⟨c.toNat - 48, by omega⟩
                  have hm9 : m ≤ 9999 := by
                    have h1 := Lib.decFrom_lt _ _ _ HMM.out
                    have h2 : (ds.take i).length ≤ 4 := by rw [List.length_take]; omega
                    have h3 := Nat.pow_le_pow_right (n := 10) (by decide) h2
                    omega
                  have HST : Hid (Lib.decFrom 0 (ds.take (i + 1)) = some (m * 10 + d)) := Lib.hid (by
                    rw [List.take_succ_eq_append_getElem hlt, decFrom_app _ _ _ _ HMM.out, HC.out]
                    have hv : Lib.digitVal c = some d := by
                      unfold Lib.digitVal
                      rw [if_pos (by omega)]
                      congr 1
                      omega
                    simp only [Lib.decFrom, hv])
                  have hs0 : (c.toNat : Int) - 48 = (d : Int) := by omega
                  have hs1 : IntKind.u8.wrap ((c.toNat : Int) - 48) = (d : Int) := by
                    rw [hs0]
                    simp [IntKind.wrap, IntKind.signed, IntKind.bits]
                    omega
                  have hs2 : IntKind.i64.wrap (d : Int) = (d : Int) := IntWalk.i64_in _ (by omega)
                  have hs3 : IntKind.i64.wrap (10 * (m : Int)) = 10 * (m : Int) := IntWalk.i64_in _ (by omega)
                  have hs4 : IntKind.i64.wrap (10 * (m : Int) + (d : Int)) = 10 * (m : Int) + (d : Int) := IntWalk.i64_in _ (by omega)
                  go_wp2
                  go_roundw
                  case rel => exact ⟨m * 10 + d, i + 1, by omega, by go_num, by go_num, HST.out, by first | rfl | trivial⟩
                  case measure => simp [intOf]; omega
            · obtain rfl : i = ds.length := by omega
              have hM := HMM.out
              rw [List.take_length] at hM
              have HN := Lib.hid (FIN.out m hM)
              clear hM
              go_wp2
              go_ret
              exact ⟨rfl, Or.inl ⟨m, HN.out, rfl⟩⟩
  · have hno : Hid (∀ n, ¬ IsNum ds n) := Lib.hid (fun n h => by
      have := digits_le 3 n (by have := h.1; omega)
      rw [← h.2] at this
      exact h4 this)
    have hz1 : ((ds.length : Int) < 1) = False := by simp; omega
    have hz2 : ((4 : Int) < (ds.length : Int)) = True := by simp; omega
    clear h4
    go_enter Tryz.func53, Tryz.ntmps53
    go_wp2
    go_ret
    exact ⟨rfl, Or.inr ⟨hno.out, rfl⟩⟩

theorem seg_cut {l : List UInt8} {i j : Nat} (h : i ≤ j) (hj : j < l.length) : l.drop i = (l.take j).drop i ++ l[j] :: l.drop (j + 1) := by
  conv => lhs; rw [← List.take_append_drop j l]
  rw [List.drop_append_of_le_length (by simp; omega), List.drop_eq_getElem_cons hj]
theorem seg_snoc {l : List UInt8} {i j : Nat} (h : i ≤ j) (hj : j < l.length) : (l.take (j + 1)).drop i = (l.take j).drop i ++ [l[j]] := by
  rw [List.take_succ_eq_append_getElem hj, List.drop_append_of_le_length (by simp; omega)]
theorem not_snoc {x c : UInt8} {l : List UInt8} (h : x ∉ l) (hc : c ≠ x) : x ∉ l ++ [c] := by
  simp only [List.mem_append, List.mem_singleton, not_or]
  exact ⟨h, fun e => hc e.symm⟩
theorem no_line {s : List UInt8} {a : Nat} (h : (10 : UInt8) ∉ (s.take s.length).drop a) : ∀ p b t, ¬ FileIs (s.drop a) p b t := fun p b t hf => by
  rw [List.take_length] at h
  exact h (by rw [hf.parts.1]; simp)

/-- What the first line of a text says of a file. -/
structure Ln (s : List UInt8) (a bl ln : Nat) (p ds : List UInt8) : Prop where
  le1 : a ≤ bl
  le2 : bl < ln
  le3 : ln < s.length
  eq : s.drop a = (p ++ 32 :: ds) ++ 10 :: s.drop (ln + 1)
  no10 : 10 ∉ p ++ 32 :: ds
  no32 : 32 ∉ p
theorem Ln.mk_ {s : List UInt8} {a bl ln : Nat} (h1 : a ≤ bl) (h2 : bl < ln) (h3 : ln < s.length) (hb : s[bl]'(by omega) = 32) (hn : s[ln] = 10) (n10 : 10 ∉ (s.take ln).drop a) (n32 : 32 ∉ (s.take bl).drop a) :
    Ln s a bl ln ((s.take bl).drop a) ((s.take ln).drop (bl + 1)) := by
  have hh : (s.take ln).drop a = (s.take bl).drop a ++ 32 :: (s.take ln).drop (bl + 1) := by
    rw [seg_cut (l := s.take ln) h1 (by rw [List.length_take]; omega), List.take_take, show min bl ln = bl by omega, List.getElem_take, hb]
  refine ⟨h1, h2, h3, ?_, by rw [← hh]; exact n10, n32⟩
  rw [← hh, seg_cut (l := s) (i := a) (j := ln) (by omega) h3, hn]
theorem Ln.is {s : List UInt8} {a bl ln : Nat} {p ds p' b' t' : List UInt8} (h : Ln s a bl ln p ds) (hf : FileIs (s.drop a) p' b' t') : IsNum ds b'.length ∧ s.drop (ln + 1) = b' ++ 10 :: t' := by
  rw [h.eq] at hf
  obtain ⟨e1, e2, e3, e4⟩ := hf.of h.no10
  obtain ⟨-, e6⟩ := split_one e1 h.no32 e3
  exact ⟨⟨e4, e6⟩, e2⟩
theorem Ln.file {s : List UInt8} {a bl ln n : Nat} {p ds : List UInt8} (h : Ln s a bl ln p ds) (hn : IsNum ds n) (hl : ln + 1 + n < s.length) (hc : s[ln + 1 + n] = 10) :
    FileIs (s.drop a) p ((s.take (ln + 1 + n)).drop (ln + 1)) (s.drop (ln + n + 2)) := by
  have hbl : ((s.take (ln + 1 + n)).drop (ln + 1)).length = n := by rw [List.length_drop, List.length_take]; omega
  refine ⟨?_, fun hm => h.no10 (List.mem_append_left _ hm), h.no32, by rw [hbl]; exact hn.1⟩
  rw [h.eq, seg_cut (l := s) (i := ln + 1) (j := ln + 1 + n) (by omega) hl, hc, show ln + 1 + n + 1 = ln + n + 2 by omega]
  unfold lineL
  rw [hbl, ← hn.2]
  simp
theorem Ln.long {s : List UInt8} {a bl ln n : Nat} {p ds : List UInt8} (h : Ln s a bl ln p ds) (hn : IsNum ds n) (hl : s.length ≤ ln + 1 + n) : ∀ p' b' t', ¬ FileIs (s.drop a) p' b' t' := fun p' b' t' hf => by
  obtain ⟨hi, he⟩ := h.is hf
  have hnb : n = b'.length := dec_inj hn.1 hi.1 (by rw [← hn.2]; exact hi.2)
  have := congrArg List.length he
  rw [List.length_drop] at this
  simp at this
  omega
theorem Ln.bad {s : List UInt8} {a bl ln n : Nat} {p ds : List UInt8} (h : Ln s a bl ln p ds) (hn : IsNum ds n) (hl : ln + 1 + n < s.length) (hc : s[ln + 1 + n] ≠ 10) : ∀ p' b' t', ¬ FileIs (s.drop a) p' b' t' := fun p' b' t' hf => by
  obtain ⟨hi, he⟩ := h.is hf
  have hnb : n = b'.length := dec_inj hn.1 hi.1 (by rw [← hn.2]; exact hi.2)
  apply hc
  have h1 : (s.drop (ln + 1))[n]? = some s[ln + 1 + n] := by
    rw [List.getElem?_drop]
    exact List.getElem?_eq_getElem hl
  subst hnb
  rw [he] at h1
  simp at h1
  exact h1.symm
theorem Ln.none {s : List UInt8} {a bl ln : Nat} {p ds : List UInt8} (h : Ln s a bl ln p ds) (hno : ∀ n, ¬ IsNum ds n) : ∀ p' b' t', ¬ FileIs (s.drop a) p' b' t' := fun _ _ _ hf => hno _ (h.is hf).1
theorem no_blank {s : List UInt8} {a ln : Nat} (h1 : a ≤ ln) (h3 : ln < s.length) (hn : s[ln] = 10) (n10 : 10 ∉ (s.take ln).drop a) (n32 : 32 ∉ (s.take ln).drop a) : ∀ p b t, ¬ FileIs (s.drop a) p b t := fun p b t hf => by
  rw [seg_cut (l := s) h1 h3, hn] at hf
  obtain ⟨e1, -, -, -⟩ := hf.of n10
  exact n32 (by rw [e1]; simp)

set_option maxRecDepth 100000 in
set_option maxHeartbeats 4000000 in
theorem treeOf_any (s : List UInt8) (w : World) (hl : s.length ≤ 3000) :
    Calls Tryz.prog 31 #[str s] w fun e w' => Below w.heap.size w w' ∧ ∃ c M, Ans s c M ∧
      ((c ≠ 0 ∧ e = .returned (.tuple #[.pointer none, .int .i64 c])) ∨ (c = 0 ∧ ∃ B rb lv, e = .returned (.tuple #[.pointer (some ⟨rb, 0, none⟩), .int .i64 0]) ∧ RTAt B w' rb lv M ∧ ∃ m, Tw m M)) := by
  go_enter Tryz.func31, Tryz.ntmps31
  go_wp2_with fail
  go_loopw [4, 5] (fun lv av wl => ∃ (P : List Ent) (a : Nat), av = .int .i64 a ∧ a ≤ s.length ∧ Rd s P (s.drop a) ∧ wl.ownsRow w.heap.size 45 2 lv P.length (fileCells P) ∧ Below w.heap.size w wl) (fun _ av _ => s.length - (intOf av).toNat)
  case atStart => exact ⟨[], 0, rfl, by omega, by simpa using Rd.init s, by simpa [fileCells] using World.ownsRow_nil w _ _ _, Below.refl _ _⟩
  case round =>
    obtain ⟨P, a, rfl, ha, hrd, hown, hbl⟩ := hrel
    have HRD := Lib.hid hrd
    have hPl := hrd.len
    have HO := Lib.hid hown
    have HB := Lib.hid hbl
    have hszr := hbl.size
    clear hown hbl hrd
    by_cases hlt : a < s.length
    · have HBAD : Hid ((∀ p b t, ¬ FileIs (s.drop a) p b t) → Ans s 1 []) := Lib.hid (fun h => Or.inl ⟨HRD.out.fail (fun e => by
        have := congrArg List.length e
        rw [List.length_drop] at this
        simp at this
        omega) h, rfl⟩)
      go_wp2_with fail
      go_loop [6] (fun iv => ∃ ln : Nat, a ≤ ln ∧ ln ≤ s.length ∧ iv = .int .i64 ln ∧ 10 ∉ (s.take ln).drop a) (fun iv => s.length - (intOf iv).toNat)
      case atStart => exact ⟨a, by omega, by omega, rfl, by rw [List.drop_eq_nil_of_le (by simp; omega)]; simp⟩
      case round =>
        obtain ⟨ln, hl1, hl2, rfl, hn10⟩ := hrel
        have HN10 := Lib.hid hn10
        clear hn10
        by_cases hll : ln < s.length
        · obtain ⟨c, hc⟩ : ∃ c, s[ln] = c := ⟨_, rfl⟩
          have hidx : ∀ h, (⟨s.toArray⟩ : ByteArray)[ln]'h = c := fun _ => hc
          have HC := Lib.hid hc
          clear hc
          by_cases h10 : c = 10
          · have hd : ((c.toNat : Int) == 10) = true := by rw [h10]; rfl
            have HC10 : Hid (s[ln] = 10) := Lib.hid (by rw [HC.out, h10])
            clear h10
            go_wp2_with fail
            go_loop [7] (fun iv => ∃ bl : Nat, a ≤ bl ∧ bl ≤ ln ∧ iv = .int .i64 bl ∧ 32 ∉ (s.take bl).drop a) (fun iv => s.length - (intOf iv).toNat)
            case atStart => exact ⟨a, by omega, by omega, rfl, by rw [List.drop_eq_nil_of_le (by simp; omega)]; simp⟩
            case round =>
              obtain ⟨bl, hb1, hb2, rfl, hn32⟩ := hrel
              have HN32 := Lib.hid hn32
              clear hn32 hidx hd HC
              by_cases hbb : bl < ln
              · obtain ⟨c', hc⟩ : ∃ c, s[bl] = c := ⟨_, rfl⟩
                have hidx : ∀ h, (⟨s.toArray⟩ : ByteArray)[bl]'h = c' := fun _ => hc
                have HC := Lib.hid hc
                clear hc
                by_cases h32 : c' = 32
                · have hd : ((c'.toNat : Int) == 32) = true := by rw [h32]; rfl
                  have HLN := Lib.hid (Ln.mk_ hb1 hbb hll (by rw [HC.out, h32]) HC10.out HN10.out HN32.out)
                  have hdl : ((s.take ln).drop (bl + 1)).length ≤ 100000 := by rw [List.length_drop, List.length_take]; omega
                  have hx0 : (⟨s.toArray⟩ : ByteArray).extract (bl + 1) ln = ⟨((s.take ln).drop (bl + 1)).toArray⟩ := by rw [extract_list, List.drop_take]
                  have hx1 : (⟨s.toArray⟩ : ByteArray).extract a bl = ⟨((s.take bl).drop a).toArray⟩ := by rw [extract_list, List.drop_take]
                  have K1 := Lib.hid (fun w1 => numberOf_any ((s.take ln).drop (bl + 1)) w1 hdl)
                  obtain ⟨ds, hds⟩ : ∃ ds, (s.take ln).drop (bl + 1) = ds := ⟨_, rfl⟩
                  obtain ⟨p, hp⟩ : ∃ p, (s.take bl).drop a = p := ⟨_, rfl⟩
                  rw [hds] at K1 hx0 HLN
                  rw [hp] at hx1 HLN
                  have hne : ((ln : Int) == (s.length : Int)) = false := by rw [beq_eq_false_iff_ne]; omega
                  have hne2 : ((bl : Int) == (ln : Int)) = false := by rw [beq_eq_false_iff_ne]; omega
                  have hw0 : IntKind.i64.wrap ((bl : Int) + 1) = (bl : Int) + 1 := IntWalk.i64_in _ (by omega)
                  clear h32 HC hds hp hdl
                  go_wp2_with fail
                  refine (K1.out _).mono ?_
                  rintro e w1 ⟨rfl, ⟨n, hn, rfl⟩ | ⟨hno, rfl⟩⟩
                  · have HNN := Lib.hid hn
                    have hn9 := hn.1
                    have hn0 : ((n : Int) < 0) = False := by simp
                    have hw1 : IntKind.i64.wrap ((ln : Int) + 1) = (ln : Int) + 1 := IntWalk.i64_in _ (by omega)
                    have hw2 : IntKind.i64.wrap ((ln : Int) + 1 + (n : Int)) = (ln : Int) + 1 + (n : Int) := IntWalk.i64_in _ (by omega)
                    have htn : ((ln : Int) + 1 + (n : Int)).toNat = ln + 1 + n := by omega
                    clear hn hidx hd
                    by_cases hlen : ln + 1 + n < s.length
                    · have hge : ((s.length : Int) ≤ (ln : Int) + 1 + (n : Int)) = False := by simp; omega
                      obtain ⟨x, hx⟩ : ∃ c, s[ln + 1 + n] = c := ⟨_, rfl⟩
                      have hidx : ∀ h, (⟨s.toArray⟩ : ByteArray)[ln + 1 + n]'h = x := fun _ => hx
                      have HX := Lib.hid hx
                      clear hx
                      by_cases hx10 : x = 10
                      · have hd : ((x.toNat : Int) == 10) = true := by rw [hx10]; rfl
                        have HF := Lib.hid (HLN.out.file HNN.out hlen (by rw [HX.out, hx10]))
                        have hx2 : (⟨s.toArray⟩ : ByteArray).extract (ln + 1) (ln + 1 + n) = ⟨((s.take (ln + 1 + n)).drop (ln + 1)).toArray⟩ := by rw [extract_list, List.drop_take]
                        obtain ⟨b, hb⟩ : ∃ b, (s.take (ln + 1 + n)).drop (ln + 1) = b := ⟨_, rfl⟩
                        rw [hb] at HF hx2
                        have HSN : Hid (fileCells (P ++ [(p, b)]) = fileCells P ++ [str p, str b]) := Lib.hid (by simp [fileCells])
                        have hw3 : IntKind.i64.wrap ((ln : Int) + (n : Int)) = (ln : Int) + (n : Int) := IntWalk.i64_in _ (by omega)
                        have hw4 : IntKind.i64.wrap ((ln : Int) + (n : Int) + 2) = (ln : Int) + (n : Int) + 2 := IntWalk.i64_in _ (by omega)
                        have hy1 : bl ≤ s.length := by omega
                        have hy2 : (0 ≤ (ln : Int) + 1 + (n : Int)) = True := eq_true (by omega)
                        have hy3 : ((ln : Int) + 1 + (n : Int) ≤ (s.length : Int)) = True := eq_true (by omega)
                        have hy4 : (0 ≤ (ln : Int) + 1) = True := eq_true (by omega)
                        have hy5 : ((ln : Int) + 1 ≤ (ln : Int) + 1 + (n : Int)) = True := eq_true (by omega)
                        clear hx10 hb
                        go_wp2_with fail
                        go_region_law (first
                          | (refine step_appK rfl (.tmp 75) (.tmp 89) 27 rfl tyFiles w.heap.size u4 _ _ rfl (by first | exact HO.out.alloc _ | exact HO.out.drew.alloc _ | exact (HO.out.alloc _).drew) ⟨wr.heap.size, 0, none⟩ 1 1 [str p, str b] rfl rfl ?_ ?_ (by decide) ?_ ?_ ?_
                             · first | exact news_block wr [str p, str b] _ | exact news_block wr.drew [str p, str b] _
                             · intro u hu; simp at hu; rcases hu with rfl | rfl <;> rfl
                             · omega
                             · simp; omega
                             intro v5 w5 ho5 hg5 hloc5))
                        all_goals
                          go_wp2
                          go_roundw
                          case rel =>
                            refine ⟨P ++ [(p, b)], ln + n + 2, by go_num, by omega, HRD.out.step HF.out, ?_, ?_⟩
                            · rw [HSN.out, List.length_append]
                              exact ho5
                            · first
                              | exact ((HB.out.alloc hszr _).drew).grown hg5 (by simp; omega) (fun r hr => owned_from HO.out hr)
                              | exact (HB.out.alloc hszr _).grown hg5 (by simp; omega) (fun r hr => owned_from HO.out hr)
                          case measure => simp [intOf]; omega
                      · have hd : ((x.toNat : Int) == 10) = false := by
                          have := Kf.u8_eq x 10
                          rw [show ((10 : UInt8).toNat : Int) = 10 from rfl] at this
                          rw [this]; simpa using hx10
                        have HA := Lib.hid (HBAD.out (HLN.out.bad HNN.out hlen (by rw [HX.out]; exact hx10)))
                        clear hx10
                        go_wp2
                        go_ret2
                        exact ⟨HB.out, 1, [], HA.out, Or.inl ⟨by decide, rfl⟩⟩
                    · have hge : ((s.length : Int) ≤ (ln : Int) + 1 + (n : Int)) = True := by simp; omega
                      have HA := Lib.hid (HBAD.out (HLN.out.long HNN.out (by omega)))
                      go_wp2
                      go_ret2
                      exact ⟨HB.out, 1, [], HA.out, Or.inl ⟨by decide, rfl⟩⟩
                  · have HA := Lib.hid (HBAD.out (HLN.out.none hno))
                    clear hno
                    go_wp2
                    go_ret2
                    exact ⟨HB.out, 1, [], HA.out, Or.inl ⟨by decide, rfl⟩⟩
                · have hd : ((c'.toNat : Int) == 32) = false := by
                    have := Kf.u8_eq c' 32
                    rw [show ((32 : UInt8).toNat : Int) = 32 from rfl] at this
                    rw [this]; simpa using h32
                  have HST : Hid (32 ∉ (s.take (bl + 1)).drop a) := Lib.hid (by
                    rw [seg_snoc hb1 (by omega), HC.out]
                    exact not_snoc HN32.out h32)
                  clear h32
                  go_wp2
                  go_round
                  case rel => exact ⟨bl + 1, by omega, by omega, by go_num, HST.out⟩
                  case measure => simp [intOf]; omega
              · obtain rfl : bl = ln := by omega
                have HA := Lib.hid (HBAD.out (no_blank hl1 hll HC10.out HN10.out HN32.out))
                have hne : ((bl : Int) == (s.length : Int)) = false := by rw [beq_eq_false_iff_ne]; omega
                go_wp2
                go_ret2
                exact ⟨HB.out, 1, [], HA.out, Or.inl ⟨by decide, rfl⟩⟩
          · have hd : ((c.toNat : Int) == 10) = false := by
              have := Kf.u8_eq c 10
              rw [show ((10 : UInt8).toNat : Int) = 10 from rfl] at this
              rw [this]; simpa using h10
            have HST : Hid (10 ∉ (s.take (ln + 1)).drop a) := Lib.hid (by
              rw [seg_snoc hl1 hll, HC.out]
              exact not_snoc HN10.out h10)
            clear h10
            go_wp2
            go_round
            case rel => exact ⟨ln + 1, by omega, by omega, by go_num, HST.out⟩
            case measure => simp [intOf]; omega
        · obtain rfl : ln = s.length := by omega
          have HA := Lib.hid (HBAD.out (no_line HN10.out))
          go_wp2_with fail
          go_loop [7] (fun iv => ∃ bl : Nat, a ≤ bl ∧ bl ≤ s.length ∧ iv = .int .i64 bl) (fun iv => s.length - (intOf iv).toNat)
          case atStart => exact ⟨a, by omega, by omega, rfl⟩
          case round =>
            obtain ⟨bl, hb1, hb2, rfl⟩ := hrel
            by_cases hbb : bl < s.length
            · obtain ⟨c', hc⟩ : ∃ c, s[bl] = c := ⟨_, rfl⟩
              have hidx : ∀ h, (⟨s.toArray⟩ : ByteArray)[bl]'h = c' := fun _ => hc
              clear hc
              by_cases h32 : c' = 32
              · have hd : ((c'.toNat : Int) == 32) = true := by rw [h32]; rfl
                clear h32
                go_wp2
                go_ret2
                exact ⟨HB.out, 1, [], HA.out, Or.inl ⟨by decide, rfl⟩⟩
              · have hd : ((c'.toNat : Int) == 32) = false := by
                  have := Kf.u8_eq c' 32
                  rw [show ((32 : UInt8).toNat : Int) = 32 from rfl] at this
                  rw [this]; simpa using h32
                clear h32
                go_wp2
                go_round
                case rel => exact ⟨bl + 1, by omega, by omega, by go_num⟩
                case measure => simp [intOf]; omega
            · obtain rfl : bl = s.length := by omega
              go_wp2
              go_ret2
              exact ⟨HB.out, 1, [], HA.out, Or.inl ⟨by decide, rfl⟩⟩
    · obtain rfl : a = s.length := by omega
      have hrd := HRD.out
      rw [List.drop_length] at hrd
      have HPRS := Lib.hid hrd.fin
      have HPT := Lib.hid hrd.path
      have hO := HO.out
      have hrk := ownsRow_readsK hO (by simp) fileRow_len
      obtain ⟨ad, cap, rfl, -, -⟩ := id hrk
      rw [List.length_map] at hrk ⊢
      have HR := Lib.hid hrk
      clear hrd hO hrk HRD
      obtain ⟨W0, rfl⟩ : ∃ W, W = wr := ⟨_, rfl⟩
      have hA := (Below.refl W0.heap.size W0).alloc (Nat.le_refl _) (.cells #[.slice none 0 0] 29)
      have HRT0 : Hid (RTAt W0.heap.size (W0.alloc (.cells #[.slice none 0 0] 29)) W0.heap.size (.slice none 0 0) []) := Lib.hid ⟨heap_alloc_here W0 _, by simpa [fileCells] using World.ownsRow_nil _ _ _ _, by simp [Value.ownBlock]⟩
      have HA := Lib.hid hA
      clear hA
      go_wp2_with fail
      go_loopw [10] (fun iv wl => ∃ (j : Nat) (m M : List Ent) (lv : Value), j ≤ P.length ∧ iv = .int .i64 j ∧ RTAt W0.heap.size wl W0.heap.size lv M ∧ Tw m M ∧ putsR (P.drop j) M = putsR P [] ∧ Below W0.heap.size W0 wl) (fun iv _ => P.length - (intOf iv).toNat)
      case atStart => exact ⟨0, [], [], _, by omega, rfl, HRT0.out, Tw.init, rfl, HA.out⟩
      case round =>
        obtain ⟨j, m, M, lv, hj, rfl, hRT, htw, hpj, hbj⟩ := hrel
        have HRT := Lib.hid hRT
        have HTW := Lib.hid htw
        have HPj := Lib.hid hpj
        have HBj := Lib.hid hbj
        have hzj := hbj.size
        have HWW := Lib.hid (HB.out.trans (hbj.mono hszr))
        clear hRT htw hpj hbj
        by_cases hlt : j < P.length
        · obtain ⟨b, o, hix, -, hce⟩ := HR.out.at (P := Tryz.prog) Tryz.underlying27 (by kernel_rfl) j (by simpa using hlt)
          have e0 : W0.cell? ⟨b, o, none⟩ = some (str P[j].1) := hce 0 _ (by simp)
          have e1 : W0.cell? ⟨b, o + 1, none⟩ = some (str P[j].2) := hce 1 _ (by simp)
          have CELLS : Hid (∀ w', Below W0.heap.size W0 w' → w'.cell? ⟨b, o, none⟩ = some (str P[j].1) ∧ w'.cell? ⟨b, o + 1, none⟩ = some (str P[j].2)) := Lib.hid (fun w' hb => ⟨(hb.cell (p := ⟨b, o, none⟩) (lt_of_cell e0)).trans e0, (hb.cell (p := ⟨b, o + 1, none⟩) (lt_of_cell e1)).trans e1⟩)
          obtain ⟨d0, d1⟩ := CELLS.out _ HBj.out
          have hx := HPT.out _ (List.getElem_mem hlt)
          have hd : putsR (P.drop j) M = putsR (P[j] :: P.drop (j + 1)) M := by rw [List.drop_eq_getElem_cons hlt]
          obtain ⟨q, hq⟩ : ∃ q, putC P[j].1 P[j].2 M = q := ⟨_, rfl⟩
          have STEP : Hid (q = 0 → putsR (P.drop (j + 1)) (rputM P[j].1 P[j].2 M) = putsR P [] ∧ Tw (putM P[j].1 P[j].2 m) (rputM P[j].1 P[j].2 M)) := Lib.hid (fun h => by
            rw [h] at hq
            exact ⟨by rw [← HPj.out, hd, putsR_ok hq], HTW.out.put (putC_path hq)⟩)
          have FAIL : Hid (q ≠ 0 → Ans s q []) := Lib.hid (fun h => Or.inr ⟨P, HPRS.out, Or.inl (by
            rw [← HPj.out, hd, putsR_bad (by rw [hq]; exact h)]
            exact ⟨by rw [hq]; exact h, hq.symm⟩)⟩)
          have HQ := Lib.hid hq
          clear e0 e1 hce hd hq
          generalize putM P[j].1 P[j].2 m = m2 at *
          obtain ⟨M2, hM2⟩ : ∃ M2, rputM P[j].1 P[j].2 M = M2 := ⟨_, rfl⟩
          have HM2 := Lib.hid hM2
          rw [hM2] at STEP
          clear hM2
          generalize P[j].1 = p at *
          generalize P[j].2 = c at *
          have hml : M.length ≤ 1000 := by have := HTW.out.many; have := HTW.out.len; omega
          by_cases hq0 : q = 0
          · have hqf : ((0 : Int) < (q : Int)) = False := by simp; omega
            have hqz : (0 < q) = False := eq_false (by omega)
            have HST := Lib.hid (STEP.out hq0)
            clear hq0
            go_wp2_with fail
            go_region_held3 (fun w' => w'.cell? ⟨b, o, none⟩ = some (str p) ∧ w'.cell? ⟨b, o + 1, none⟩ = some (str c))
              (first | exact CELLS.out _ HB4.out | exact CELLS.out _ HBj.out.drew | exact CELLS.out _ HBj.out)
              (first
                | (go_at_call 13
                   refine (rput_any W0.heap.size W0.heap.size lv M p c _ (by first | exact HRT.out | exact HRT.out.below (Below.refl _ _).drew) (by first | exact hzj | (simp; exact hzj)) hml (by omega)).mono ?_
                   rintro e w4 ⟨rfl, lv4, hR4, hF4, hl4⟩
                   rw [HQ.out]
                   have HR4 : Hid (RTAt W0.heap.size w4 W0.heap.size lv4 M2) := Lib.hid (by rw [← HM2.out]; exact hR4)
                   have HB4 : Hid (Below W0.heap.size W0 w4) := Lib.hid (by
                     have hk : ∀ k, k < W0.heap.size → ¬ (k = W0.heap.size ∨ lv.ownBlock = some k) := fun k hk e => by
                       rcases e with e | e
                       · omega
                       · have := owned_from HRT.out.row e
                         omega
                     first
                     | exact HBj.out.trans ((hF4.mono (S' := fun k => k = W0.heap.size ∨ lv.ownBlock = some k) hzj (fun _ _ h => h)).below hk)
                     | exact HBj.out.drew.trans ((hF4.mono (S' := fun k => k = W0.heap.size ∨ lv.ownBlock = some k) (by simp; exact hzj) (fun _ _ h => h)).below hk))
                   clear hR4 hF4 hl4))
            all_goals
              go_wp2
              go_roundw
              case rel => exact ⟨j + 1, m2, M2, lv4, by omega, by go_num, HR4.out, HST.out.2, HST.out.1, HB4.out⟩
              case measure => simp [intOf]; omega
          · have hqf : ((0 : Int) < (q : Int)) = True := by simp; omega
            have hqz : (0 < q) = True := eq_true (by omega)
            have HAN := Lib.hid (FAIL.out hq0)
            have HQN := Lib.hid hq0
            clear hq0
            go_wp2_with fail
            go_region_held3 (fun w' => w'.cell? ⟨b, o, none⟩ = some (str p) ∧ w'.cell? ⟨b, o + 1, none⟩ = some (str c))
              (first | exact CELLS.out _ HB4.out | exact CELLS.out _ HBj.out.drew | exact CELLS.out _ HBj.out)
              (first
                | (go_at_call 13
                   refine (rput_any W0.heap.size W0.heap.size lv M p c _ (by first | exact HRT.out | exact HRT.out.below (Below.refl _ _).drew) (by first | exact hzj | (simp; exact hzj)) hml (by omega)).mono ?_
                   rintro e w4 ⟨rfl, lv4, hR4, hF4, hl4⟩
                   rw [HQ.out]
                   have HB4 : Hid (Below W0.heap.size W0 w4) := Lib.hid (by
                     have hk : ∀ k, k < W0.heap.size → ¬ (k = W0.heap.size ∨ lv.ownBlock = some k) := fun k hk e => by
                       rcases e with e | e
                       · omega
                       · have := owned_from HRT.out.row e
                         omega
                     first
                     | exact HBj.out.trans ((hF4.mono (S' := fun k => k = W0.heap.size ∨ lv.ownBlock = some k) hzj (fun _ _ h => h)).below hk)
                     | exact HBj.out.drew.trans ((hF4.mono (S' := fun k => k = W0.heap.size ∨ lv.ownBlock = some k) (by simp; exact hzj) (fun _ _ h => h)).below hk))
                   clear hR4 hF4 hl4))
            all_goals
              go_wp2
              go_ret2
              exact ⟨HB.out.trans (HB4.out.mono hszr), q, [], HAN.out, Or.inl ⟨HQN.out, rfl⟩⟩
        · obtain rfl : j = P.length := by omega
          have hP := HPj.out
          rw [List.drop_length] at hP
          have HP : Hid ((putsR P []).1 = 0 ∧ (putsR P []).2 = M) := Lib.hid (by rw [← hP]; exact ⟨rfl, rfl⟩)
          clear hP
          go_wp2_with fail
          go_loopw [12] (fun iv wl => ∃ i : Nat, (i + 1 ≤ P.length ∨ i = 0) ∧ iv = .int .i64 ((i : Int) + 1) ∧ Rises (P.take (i + 1)) ∧ Below wr.heap.size wr wl) (fun iv _ => P.length + 1 - (intOf iv).toNat)
          case atStart =>
            refine ⟨0, Or.inr rfl, rfl, ?_, Below.refl _ _⟩
            cases P with
            | nil => simp [Rises, ksOf]
            | cons x r => simp [Rises, ksOf]
          case round =>
            obtain ⟨i, hi, rfl, hri, hbi⟩ := hrel
            have HBi := Lib.hid hbi
            have HRI := Lib.hid hri
            have HBW := Lib.hid (HBj.out.trans (hbi.mono hzj))
            clear hbi hri
            by_cases hlt : i + 1 < P.length
            · obtain ⟨b, o, hix, -, hce⟩ := HR.out.at (P := Tryz.prog) Tryz.underlying27 (by kernel_rfl) (i + 1) (by simpa using hlt)
              obtain ⟨b2, o2, hix2, -, hce2⟩ := HR.out.at (P := Tryz.prog) Tryz.underlying27 (by kernel_rfl) i (by simp; omega)
              have hix1 : ∀ w', (Instr.indexAt 27 (.slice ad P.length cap) (.int .i64 ((i : Int) + 1))).run Tryz.prog w' = .ok (.pointer (some ⟨b, o, none⟩)) w' := hix
              have f0 : W0.cell? ⟨b, o, none⟩ = some (str P[i + 1].1) := hce 0 _ (by simp)
              have f2 : W0.cell? ⟨b2, o2, none⟩ = some (str P[i].1) := hce2 0 _ (by simp)
              have e0 := (HBW.out.cell (p := ⟨b, o, none⟩) (lt_of_cell f0)).trans f0
              have e2 := (HBW.out.cell (p := ⟨b2, o2, none⟩) (lt_of_cell f2)).trans f2
              have hsub : (i : Int) + 1 - 1 = (i : Int) := by omega
              have hw1 : IntKind.i64.wrap ((i : Int) + 1 - 1) = (i : Int) := by rw [hsub]; exact IntWalk.i64_in _ (by omega)
              have hw2 : IntKind.i64.wrap (i : Int) = (i : Int) := IntWalk.i64_in _ (by omega)
              have hw3 : IntKind.i64.wrap ((i : Int) + 1 + 1) = (i : Int) + 1 + 1 := IntWalk.i64_in _ (by omega)
              have hlc : ((i : Int) + 1 < (P.length : Int)) = True := eq_true (by omega)
              by_cases hlt2 : P[i].1 < P[i + 1].1
              · have hle : (Op.bytesLess P[i + 1].1 P[i].1 || P[i + 1].1 == P[i].1) = false := by
                  rw [bytesLess_eq, Bool.or_eq_false_iff, decide_eq_false_iff_not, beq_eq_false_iff_ne]
                  exact ⟨fun h => List.lt_irrefl _ (List.lt_trans h hlt2), fun h => lt_ne hlt2 h.symm⟩
                have hle1 := (Bool.or_eq_false_iff.1 hle).1
                have hle2 := (Bool.or_eq_false_iff.1 hle).2
                have HR1 := Lib.hid (HRI.out.step hlt (fun i' h => by
                  obtain rfl : i' = i := by omega
                  exact hlt2))
                clear hce hce2 hlt2 hle f0 f2
                generalize P[i + 1].1 = p at *
                generalize P[i].1 = c at *
                go_wp2_with fail
                go_quiet (fail)
                go_wp2
                go_roundw
                case rel => exact ⟨i + 1, Or.inl (by omega), by go_num, HR1.out, by first | exact HBi.out | exact below_drewN HBi.out _⟩
                case measure => simp [intOf]; omega
              · have HNR := Lib.hid (Rises.not hlt hlt2)
                have hor : (Op.bytesLess P[i + 1].1 P[i].1 = true) ∨ (Op.bytesLess P[i + 1].1 P[i].1 = false ∧ (P[i + 1].1 == P[i].1) = true) := by
                  rw [bytesLess_eq]
                  by_cases h : P[i + 1].1 < P[i].1
                  · left; simpa using h
                  · right
                    refine ⟨by simpa using h, ?_⟩
                    rw [beq_iff_eq]
                    rcases List.le_iff_lt_or_eq.1 (List.not_lt.1 hlt2) with h' | h'
                    · exact absurd h' h
                    · exact h'
                clear hce hce2 hlt2 f0 f2
                generalize P[i + 1].1 = p at *
                generalize P[i].1 = c at *
                rcases hor with hle1 | ⟨hle1, hle2⟩
                all_goals
                  go_wp2_with fail
                  go_quiet (fail)
                  go_wp2
                  go_ret2
                  exact ⟨by first | exact HB.out.trans (HBW.out.mono hszr) | exact below_drewN (HB.out.trans (HBW.out.mono hszr)) _, 3, [], Or.inr ⟨P, HPRS.out, Or.inr (Or.inl ⟨HP.out.1, HNR.out, rfl⟩)⟩, Or.inl ⟨by decide, rfl⟩⟩
            · have hri := HRI.out
              rw [List.take_of_length_le (by omega)] at hri
              have HANS : Hid (Ans s 0 M) := Lib.hid (Or.inr ⟨P, HPRS.out, Or.inr (Or.inr ⟨HP.out.1, hri, rfl, by
                have := putsR_rises (M := []) hri HP.out.1
                rw [HP.out.2] at this
                exact this⟩)⟩)
              have hlc : ((i : Int) + 1 < (P.length : Int)) = False := eq_false (by omega)
              clear hri
              go_wp2
              go_ret2
              exact ⟨HB.out.trans (HBW.out.mono hszr), 0, M, HANS.out, Or.inr ⟨rfl, W0.heap.size, W0.heap.size, lv, rfl, HRT.out.below HBi.out, m, HTW.out⟩⟩
end Go.Proofs.YtmkpeopebddnjaaGreatDoor
