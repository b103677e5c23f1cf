/-
  The plain law of keys: counted texts, one behind the other, tell the texts. The walks of the reference: Cut, isName, partsOf, IsPath. strings.Builder, written beside other slices of the call's own. General lemmas: slices whose elements have several cells, owned by a call: appends, reads.
-/
import Derived.Lib.ItoaNum
import Derived.Test.YtgjialbmlhbngaaGreatDoorPkB
import Derived.Test.YtgjialbmlhbngaaGreatDoorPkH0
import Derived.Test.YtgjialbmlhbngaaGreatDoorPkA
import Derived.Lib.AppendIntMem
import Derived.Laws.AppendOwnNone
import Derived.Laws.IdiomStrings

set_option maxRecDepth 100000
namespace Go.Kf
open Go
def cnt (s : List UInt8) : List UInt8 := Lib.decDigits s.length ++ 58 :: s
def keyL (k w : List UInt8) (l : List (List UInt8)) : List UInt8 := cnt k ++ cnt w ++ (l.map cnt).flatten
theorem digits_range : ∀ u, ∀ c ∈ Lib.decDigits u, 48 ≤ c.toNat ∧ c.toNat ≤ 57 := by
  intro u
  induction u using Nat.strongRecOn with
  | _ u ih =>
    intro c hc
    rw [Lib.decDigits] at hc
    by_cases h : u < 10
    · rw [dif_pos h] at hc
      simp only [List.mem_singleton] at hc
      subst hc
      rw [UInt8.toNat_ofNat']
      omega
    · rw [dif_neg h] at hc
      simp only [List.mem_append, List.mem_singleton] at hc
      rcases hc with hc | rfl
      · exact ih (u / 10) (by omega) c hc
      · rw [UInt8.toNat_ofNat']
        omega
def valOf (l : List UInt8) : Nat := l.foldl (fun a c => 10 * a + (c.toNat - 48)) 0
theorem valOf_digits : ∀ u, valOf (Lib.decDigits u) = u := by
  intro u
  induction u using Nat.strongRecOn with
  | _ u ih =>
    rw [Lib.decDigits]
    by_cases h : u < 10
    · rw [dif_pos h]
      simp only [valOf, List.foldl_cons, List.foldl_nil, UInt8.toNat_ofNat']
      omega
    · rw [dif_neg h]
      have := ih (u / 10) (by omega)
      unfold valOf at this ⊢
      rw [List.foldl_append, this]
      simp only [List.foldl_cons, List.foldl_nil, UInt8.toNat_ofNat']
      omega
theorem digits_inj {a b : Nat} (h : Lib.decDigits a = Lib.decDigits b) : a = b := by
  rw [← valOf_digits a, ← valOf_digits b, h]
theorem not58 (u : Nat) : (58 : UInt8) ∉ Lib.decDigits u := by
  intro h
  have := digits_range u 58 h
  simp at this
theorem split_at {x : UInt8} : ∀ {a b c d : List UInt8}, x ∉ a → x ∉ b → a ++ x :: c = b ++ x :: d → a = b ∧ c = d
  | [], [], _, _, _, _, h => by simpa using h
  | [], y :: b, _, _, _, hb, h => by
    simp only [List.nil_append, List.cons_append, List.cons.injEq] at h
    exact absurd (by rw [h.1]; exact List.mem_cons_self) hb
  | y :: a, [], _, _, ha, _, h => by
    simp only [List.nil_append, List.cons_append, List.cons.injEq] at h
    exact absurd (by rw [h.1]; exact List.mem_cons_self) ha
  | y :: a, z :: b, c, d, ha, hb, h => by
    simp only [List.cons_append, List.cons.injEq] at h
    obtain ⟨rfl, h2⟩ := split_at (a := a) (b := b) (c := c) (d := d) (fun h => ha (List.mem_cons_of_mem _ h)) (fun h => hb (List.mem_cons_of_mem _ h)) h.2
    exact ⟨by rw [h.1], h2⟩
theorem cnt_inj {s t x y : List UInt8} (h : cnt s ++ x = cnt t ++ y) : s = t ∧ x = y := by
  unfold cnt at h
  simp only [List.append_assoc, List.cons_append] at h
  obtain ⟨h1, h2⟩ := split_at (not58 _) (not58 _) h
  exact List.append_inj h2 (digits_inj h1)
theorem cnt_ne (s : List UInt8) : cnt s ≠ [] := by unfold cnt; simp
theorem flat_inj : ∀ {l m : List (List UInt8)}, (l.map cnt).flatten = (m.map cnt).flatten → l = m
  | [], [], _ => rfl
  | [], t :: m, h => by
    simp only [List.map_nil, List.flatten_nil, List.map_cons, List.flatten_cons] at h
    have := h.symm
    rw [List.append_eq_nil_iff] at this
    exact absurd this.1 (cnt_ne t)
  | s :: l, [], h => by
    simp only [List.map_nil, List.flatten_nil, List.map_cons, List.flatten_cons] at h
    rw [List.append_eq_nil_iff] at h
    exact absurd h.1 (cnt_ne s)
  | s :: l, t :: m, h => by
    simp only [List.map_cons, List.flatten_cons] at h
    obtain ⟨rfl, h2⟩ := cnt_inj h
    rw [flat_inj h2]
theorem keyL_inj {k w k' w' : List UInt8} {l l' : List (List UInt8)} : keyL k w l = keyL k' w' l' ↔ k = k' ∧ w = w' ∧ l = l' := by
  refine ⟨fun h => ?_, fun ⟨a, b, c⟩ => by rw [a, b, c]⟩
  unfold keyL at h
  simp only [List.append_assoc] at h
  obtain ⟨h1, h2⟩ := cnt_inj h
  obtain ⟨h3, h4⟩ := cnt_inj h2
  exact ⟨h1, h3, flat_inj h4⟩
theorem keyL_snoc (k w : List UInt8) (l : List (List UInt8)) (s : List UInt8) : keyL k w (l ++ [s]) = keyL k w l ++ cnt s := by
  unfold keyL; simp
theorem keyL_nil (k w : List UInt8) : keyL k w [] = cnt k ++ cnt w := by unfold keyL; simp
theorem digits_short {n : Nat} (h : n ≤ 1000) : (Lib.decDigits n).length ≤ 4 := by
  rw [Lib.decDigits_length, Lib.nDigits]
  split
  · omega
  · rw [Lib.nDigits]
    split
    · omega
    · rw [Lib.nDigits]
      split
      · omega
      · rw [Lib.nDigits_small (by omega)]
        omega
theorem cnt_short {s : List UInt8} (h : s.length ≤ 1000) : (cnt s).length ≤ s.length + 5 := by
  unfold cnt
  have := digits_short h
  simp
  omega
end Go.Kf
namespace Go.Proofs.YtgjialbmlhbngaaGreatDoor
open Go Go.RowKit Go.Kf
abbrev Tab (w : World) : Prop := Lib.TabIs Tryz.prog w "internal/strconv.uint64pow10" .u64 Lib.pow10Tab
theorem tab_below {B : Nat} {w w' : World} (h : Tab w) (hb : Below B w w') (hB : w.heap.size ≤ B) : Tab w' := by
  have hgn : Tryz.prog.globalNamed "internal/strconv.uint64pow10" = some 13 := by kernel_rfl
  unfold Tab Lib.TabIs World.var? at h ⊢
  rw [hgn] at h ⊢
  simp only [Option.bind_some] at h ⊢
  have hlt : 13 < w.heap.size := by
    rcases Nat.lt_or_ge 13 w.heap.size with h' | h'
    · exact h'
    · rw [Array.getElem?_eq_none h'] at h; cases h
  rw [hb.block _ (by omega)]
  exact h
theorem itoa_any (n : Nat) (w : World) (hn : n ≤ 1000000) (ht : Tab w) : Calls Tryz.prog 80 #[.int .i64 n] w fun e w' => e = .returned (str (Lib.decDigits n)) ∧ Below w.heap.size w w' := by
  refine (Tryz.strconv_Itoa n (by omega) (by omega) w ht).mono ?_
  rintro e w' ⟨rfl, k, os, rfl⟩
  exact ⟨by rw [Lib.itoa_nonneg], Lib.below_grow _ w (Nat.le_refl _) k os⟩
theorem counted_any (s : List UInt8) (w : World) (hs : s.length ≤ 1000) (ht : Tab w) : Calls Tryz.prog 163 #[str s] w fun e w' => e = .returned (str (cnt s)) ∧ Below w.heap.size w w' := by
  have HT := Hd ht
  clear ht
  go_enter Tryz.func163, Tryz.ntmps163
  go_wp2_with fail
  refine (itoa_any s.length w (by omega) HT.out).mono ?_
  rintro e w1 ⟨rfl, hb⟩
  have hd := digits_short hs
  go_wp2
  go_ret
  refine ⟨?_, hb⟩
  simp only [str_app, cnt]
  simp
def NilOr (v : Value) : Prop := v = .slice none 0 0 ∨ ∃ a n c, v = .slice (some a) n c
theorem tyStrsK : SliceTy Tryz.prog 33 9 (str []) 16 := ⟨Tryz.underlying33, by kernel_rfl, rfl⟩
theorem byte_any (m : Nat) (w : World) (h : m < 256) : Calls Tryz.prog 175 #[.int .i64 m] w fun e w' => e = .returned (str [UInt8.ofNat m]) ∧ Below w.heap.size w w' := by
  have hcv : (convert 136 9 (.slice (some ⟨w.heap.size, 0, none⟩) 1 1)).run Tryz.prog (w.alloc (.cells #[.int .u8 m] 5)) = .ok (str [UInt8.ofNat m]) (w.alloc (.cells #[.int .u8 m] 5)) := by
    refine run_convert_bytes_back _ _ _ 5 ⟨w.heap.size, 0, none⟩ 1 [UInt8.ofNat m] Tryz.underlying136 Tryz.underlying5 Tryz.underlying9 ?_
    intro j hj
    obtain rfl : j = 0 := by simpa using hj
    rw [addr_add rfl, cell_of_heap (heap_alloc_here w _)]
    simp [UInt8.toNat_ofNat', Nat.mod_eq_of_lt h]
  go_enter Tryz.func175, Tryz.ntmps175
  go_wp2
  go_ret
  exact ⟨rfl, (Below.refl _ _).alloc (Nat.le_refl _) _⟩
theorem _root_.Go.Kf.u8_eq (c d : UInt8) : ((c.toNat : Int) == (d.toNat : Int)) = (c == d) := by
  rw [Bool.eq_iff_iff]
  simp only [beq_iff_eq]
  constructor
  · intro h; exact UInt8.toNat_inj.1 (by omega)
  · intro h; rw [h]
theorem pre_snoc {s : List UInt8} {f i : Nat} (h : f ≤ i) (hi : i < s.length) : (s.drop f).take (i + 1 - f) = (s.drop f).take (i - f) ++ [s[i]] := by
  have e : i + 1 - f = (i - f) + 1 := by omega
  have hl : i - f < (s.drop f).length := by simp; omega
  rw [e, List.take_succ_eq_append_getElem hl]
  congr 2
  simp [List.getElem_drop]
  congr 1
  omega
theorem drop_split {s : List UInt8} {f i : Nat} (h : f ≤ i) (hi : i < s.length) : s.drop f = (s.drop f).take (i - f) ++ s[i] :: s.drop (i + 1) := by
  conv => lhs; rw [← List.take_append_drop (i - f) (s.drop f)]
  congr 1
  rw [List.drop_drop, show f + (i - f) = i by omega, List.drop_eq_getElem_cons hi]
set_option maxHeartbeats 1000000 in
theorem cut_any (s : List UInt8) (c : UInt8) (w : World) (hs : s.length ≤ 1000000) :
    Calls Tryz.prog 133 #[str s, byteV c] w fun e w' => ∃ v, e = .returned v ∧ w'.ownsRow w.heap.size 9 1 v (spl c s).length ((spl c s).map str) ∧ Below w.heap.size w w' := by
  go_enter Tryz.func133, Tryz.ntmps133
  go_wp2
  go_loopw [5, 6, 7] (fun v f i wl => ∃ (fn k : Nat) (out : List (List UInt8)), f = .int .i64 fn ∧ i = .int .i64 k ∧ fn ≤ k ∧ k ≤ s.length ∧ c ∉ (s.drop fn).take (k - fn) ∧ spl c s = out ++ spl c (s.drop fn) ∧ out.length ≤ k ∧
      wl.ownsRow w.heap.size 9 1 v out.length (out.map str) ∧ Below w.heap.size w wl) (fun _ _ i _ => s.length - (intOf i).toNat)
  case atStart => exact ⟨0, 0, [], rfl, rfl, by omega, by omega, by simp, by simp, by simp, World.ownsRow_nil _ _ _ _, Below.refl _ _⟩
  case round =>
    obtain ⟨fn, k, out, rfl, rfl, hfk, hk, hno, hsp, hol, hown, hb⟩ := hrel
    have HN := Hd hno
    have HS := Hd hsp
    clear hno hsp
    by_cases hlt : k < s.length
    · obtain ⟨x, hx⟩ : ∃ x, s[k] = x := ⟨_, rfl⟩
      have hidx : ∀ h, (⟨s.toArray⟩ : ByteArray)[k]'h = x := fun _ => hx
      have hps := pre_snoc hfk hlt
      have hds := drop_split hfk hlt
      rw [hx] at hps hds
      have hex : (⟨s.toArray⟩ : ByteArray).extract fn k = ⟨((s.drop fn).take (k - fn)).toArray⟩ := extract_list s fn k
      clear hx
      generalize hpc : (s.drop fn).take (k - fn) = piece at *
      clear hpc
      have HP := Hd hps
      have HD := Hd hds
      clear hps hds
      by_cases hc : x = c
      · have hd : ((x.toNat : Int) == (c.toNat : Int)) = true := by rw [hc]; simp
        have HC := Hd hc
        clear hc
        go_wp2_with (
          at_builtin
          refine wpList_app _ rfl _ _ 33 rfl tyStrsK w.heap.size _ out.length (out.map str) rfl (hown.alloc _) ⟨wr.heap.size, 0, none⟩ 1 1 [str piece] rfl rfl (news_one ?_) ?_ (by decide) ?_ ?_ ?_
          · simp [go_sem]
          · intro u hu; simp at hu; subst hu; rfl
          · omega
          · have := hb.size; simp; omega
          intro v5 w5 ho5 hg5 hloc5
          have b5 : Below w.heap.size w w5 := (hb.alloc hb.size _).grown hg5 (by have := hb.size; simp; omega) (fun k hk => (hown.lt k hk).1)
          have HO5 := Hd ho5
          clear ho5 hg5 hloc5)
        go_roundw
        case rel =>
          refine ⟨k + 1, k + 1, out ++ [piece], by go_num, by go_num, by omega, by omega, by simp, ?_, by simp; omega, by simpa using HO5.out, b5⟩
          rw [HS.out, HD.out, HC.out, spl_hit HN.out]
          simp
        case measure => simp [intOf]; omega
      · have hd : ((x.toNat : Int) == (c.toNat : Int)) = false := by
          rw [Kf.u8_eq]
          simpa using hc
        have HC := Hd hc
        clear hc
        go_wp2
        go_roundw
        case rel =>
          refine ⟨fn, k + 1, out, rfl, by go_num, by omega, by omega, ?_, HS.out, by omega, hown, hb⟩
          rw [HP.out]
          intro hm
          rcases List.mem_append.1 hm with hm | hm
          · exact HN.out hm
          · simp only [List.mem_singleton] at hm
            exact HC.out hm.symm
        case measure => simp [intOf]; omega
    · obtain rfl : k = s.length := by omega
      have hex : (⟨s.toArray⟩ : ByteArray).extract fn s.length = ⟨((s.drop fn).take (s.length - fn)).toArray⟩ := extract_list s fn s.length
      have hall : (s.drop fn).take (s.length - fn) = s.drop fn := List.take_of_length_le (by simp)
      have HN2 := HN.out
      rw [hall] at hex HN2
      have HN3 := Hd HN2
      clear HN2 hall HN
      generalize hpc : s.drop fn = piece at *
      clear hpc
      go_wp2_with (
        at_builtin
        refine wpList_app _ rfl _ _ 33 rfl tyStrsK w.heap.size _ out.length (out.map str) rfl (hown.alloc _) ⟨wr.heap.size, 0, none⟩ 1 1 [str piece] rfl rfl (news_one ?_) ?_ (by decide) ?_ ?_ ?_
        · simp [go_sem]
        · intro u hu; simp at hu; subst hu; rfl
        · omega
        · have := hb.size; simp; omega
        intro v5 w5 ho5 hg5 hloc5
        have b5 : Below w.heap.size w w5 := (hb.alloc hb.size _).grown hg5 (by have := hb.size; simp; omega) (fun k hk => (hown.lt k hk).1)
        have HO5 := Hd ho5
        clear ho5 hg5 hloc5)
      go_ret
      refine ⟨_, rfl, ?_, b5⟩
      rw [HS.out, spl_miss HN3.out]
      simpa using HO5.out
set_option maxHeartbeats 2000000 in
theorem isName_f (s : List UInt8) (w : World) (hpre : s ≠ [] ∧ s.length ≤ 12 ∧ s ≠ [46] ∧ s ≠ [46, 46]) :
    Calls Tryz.prog 241 #[str s, .bool false] w fun e w' => e = .returned (.bool (nameB s false)) ∧ w = w' := by
  obtain ⟨n1, n2, n3, n4⟩ := hpre
  have hpos : 0 < s.length := List.length_pos_iff.2 n1
  have hnb : nameB s false = okAll false s := by
    unfold nameB
    rw [show (s == []) = false by simpa using n1, show (s == [46]) = false by simpa using n3, show (s == [46, 46]) = false by simpa using n4]
    simp [n2]
  rw [hnb]
  have d1 : ((s.length : Int) < 1) = False := by simp; omega
  have d2 : ((12 : Int) < s.length) = False := by simp; omega
  have d3 : (s == [46]) = false := by simpa using n3
  have d4 : (s == [46, 46]) = false := by simpa using n4
  clear hnb n1 n3 n4
  go_enter Tryz.func241, Tryz.ntmps241
  go_wp2
  go_loop [5] (fun i => ∃ k : Nat, k ≤ s.length ∧ okAll false (s.take k) = true ∧ i = .int .i64 k) (fun i => s.length - (intOf i).toNat)
  case atStart => exact ⟨0, by omega, by simp [okAll], rfl⟩
  case round =>
    obtain ⟨k, hk, hok, rfl⟩ := hrel
    have HK := Hd hok
    clear hok d1 d2 d3 d4
    by_cases hlt : k < s.length
    · have HC := Hd (show s.take (k + 1) = s.take k ++ [s[k]] from List.take_succ_eq_append_getElem hlt)
      have HM := Hd (List.getElem_mem hlt)
      obtain ⟨x, hx⟩ : ∃ x, s[k] = x := ⟨_, rfl⟩
      have hidx : ∀ h, (⟨s.toArray⟩ : ByteArray)[k]'h = x := fun _ => hx
      rw [hx] at HC HM
      clear hx
      have hx8 : x.toNat < 256 := x.toNat_lt
      obtain ⟨n, hn⟩ : ∃ n : Nat, n = x.toNat := ⟨_, rfl⟩
      have hidx2 : ∀ h, ((⟨s.toArray⟩ : ByteArray)[k]'h).toNat = n := fun h => by rw [hidx h, hn]
      have HN := Hd hn
      rw [← hn] at hx8
      clear hidx hn
      have yes : letterB x = true → Hid (okAll false (s.take (k + 1)) = true) := fun h => Hd (okAll_take HC.out HK.out (by unfold okB; rw [h]; rfl))
      have star : (false = true) → n = 42 → Hid (okAll false (s.take (k + 1)) = true) := fun h1 h2 => Hd (okAll_take HC.out HK.out (by unfold okB; rw [h1, ← HN.out, h2]; simp))
      have no : letterB x = false → ((false = false) ∨ n ≠ 42) → Hid (okAll false s = false) := fun h1 h2 => Hd (okAll_not HM.out (by
        unfold okB; rw [h1, ← HN.out]
        rcases h2 with h0 | h2
        · first | (cases h0; done) | rfl
        · simp [h2]))
      have lt : letterB x = ((decide (97 ≤ n) && decide (n ≤ 122)) || (decide (48 ≤ n) && decide (n ≤ 57)) || decide (n = 45) || decide (n = 46) || decide (n = 95)) := by unfold letterB; rw [← HN.out]
      have YES := Hd yes
      have STAR := Hd star
      have NO := Hd no
      have LT := Hd lt
      clear yes star no lt
      obtain ⟨b1, h1⟩ : ∃ b, decide ((97 : Int) ≤ (n : Int)) = b := ⟨_, rfl⟩
      obtain ⟨b2, h2⟩ : ∃ b, decide ((n : Int) ≤ 122) = b := ⟨_, rfl⟩
      obtain ⟨b3, h3⟩ : ∃ b, decide ((48 : Int) ≤ (n : Int)) = b := ⟨_, rfl⟩
      obtain ⟨b4, h4⟩ : ∃ b, decide ((n : Int) ≤ 57) = b := ⟨_, rfl⟩
      obtain ⟨b5, h5⟩ : ∃ b, ((n : Int) == 45) = b := ⟨_, rfl⟩
      obtain ⟨b6, h6⟩ : ∃ b, ((n : Int) == 46) = b := ⟨_, rfl⟩
      obtain ⟨b7, h7⟩ : ∃ b, ((n : Int) == 95) = b := ⟨_, rfl⟩
      obtain ⟨b8, h8⟩ : ∃ b, ((n : Int) == 42) = b := ⟨_, rfl⟩
      have hL : Hid (letterB x = ((b1 && b2) || (b3 && b4) || b5 || b6 || b7)) := Hd (by
        rw [LT.out, ← h1, ← h2, ← h3, ← h4, ← h5, ← h6, ← h7, Bool.eq_iff_iff]
        simp
        omega)
      have h42 : Hid (b8 = true → n = 42) := Hd (fun h => by rw [h] at h8; simp at h8; omega)
      have h42' : Hid (b8 = false → n ≠ 42) := Hd (fun h => by rw [h] at h8; simp at h8; omega)
      clear hx8
      cases b1 <;> cases b2 <;> cases b3 <;> cases b4 <;> cases b5 <;> cases b6 <;> cases b7 <;> cases b8 <;> first
        | (exfalso; clear YES STAR NO LT hL h42 h42' hidx2 HN HC HM HK; simp at h1 h2 h3 h4 h5 h6 h7 h8; omega)
        | (have hyes : Hid (okAll false (s.take (k + 1)) = true) := (by first | exact YES.out hL.out | exact STAR.out rfl (h42.out rfl))
           go_wp2
           go_round
           case rel => exact ⟨k + 1, by omega, hyes.out, by go_num⟩
           case measure => simp [intOf]; omega)
        | (have hno := (NO.out hL.out (by first | exact Or.inl rfl | exact Or.inr (h42'.out rfl)))
           go_wp2
           go_ret
           refine ⟨?_, rfl⟩
           rw [hno.out]
           rfl)
    · obtain rfl : k = s.length := by omega
      rw [List.take_length] at HK
      go_wp2
      go_ret
      exact ⟨by rw [HK.out]; rfl, rfl⟩
set_option maxHeartbeats 2000000 in
theorem isName_t (s : List UInt8) (w : World) (hpre : s ≠ [] ∧ s.length ≤ 12 ∧ s ≠ [46] ∧ s ≠ [46, 46]) :
    Calls Tryz.prog 241 #[str s, .bool true] w fun e w' => e = .returned (.bool (nameB s true)) ∧ w = w' := by
  obtain ⟨n1, n2, n3, n4⟩ := hpre
  have hpos : 0 < s.length := List.length_pos_iff.2 n1
  have hnb : nameB s true = okAll true s := by
    unfold nameB
    rw [show (s == []) = false by simpa using n1, show (s == [46]) = false by simpa using n3, show (s == [46, 46]) = false by simpa using n4]
    simp [n2]
  rw [hnb]
  have d1 : ((s.length : Int) < 1) = False := by simp; omega
  have d2 : ((12 : Int) < s.length) = False := by simp; omega
  have d3 : (s == [46]) = false := by simpa using n3
  have d4 : (s == [46, 46]) = false := by simpa using n4
  clear hnb n1 n3 n4
  go_enter Tryz.func241, Tryz.ntmps241
  go_wp2
  go_loop [5] (fun i => ∃ k : Nat, k ≤ s.length ∧ okAll true (s.take k) = true ∧ i = .int .i64 k) (fun i => s.length - (intOf i).toNat)
  case atStart => exact ⟨0, by omega, by simp [okAll], rfl⟩
  case round =>
    obtain ⟨k, hk, hok, rfl⟩ := hrel
    have HK := Hd hok
    clear hok d1 d2 d3 d4
    by_cases hlt : k < s.length
    · have HC := Hd (show s.take (k + 1) = s.take k ++ [s[k]] from List.take_succ_eq_append_getElem hlt)
      have HM := Hd (List.getElem_mem hlt)
      obtain ⟨x, hx⟩ : ∃ x, s[k] = x := ⟨_, rfl⟩
      have hidx : ∀ h, (⟨s.toArray⟩ : ByteArray)[k]'h = x := fun _ => hx
      rw [hx] at HC HM
      clear hx
      have hx8 : x.toNat < 256 := x.toNat_lt
      obtain ⟨n, hn⟩ : ∃ n : Nat, n = x.toNat := ⟨_, rfl⟩
      have hidx2 : ∀ h, ((⟨s.toArray⟩ : ByteArray)[k]'h).toNat = n := fun h => by rw [hidx h, hn]
      have HN := Hd hn
      rw [← hn] at hx8
      clear hidx hn
      have yes : letterB x = true → Hid (okAll true (s.take (k + 1)) = true) := fun h => Hd (okAll_take HC.out HK.out (by unfold okB; rw [h]; rfl))
      have star : true = true → n = 42 → Hid (okAll true (s.take (k + 1)) = true) := fun h1 h2 => Hd (okAll_take HC.out HK.out (by unfold okB; rw [h1, ← HN.out, h2]; simp))
      have no : letterB x = false → (true = false ∨ n ≠ 42) → Hid (okAll true s = false) := fun h1 h2 => Hd (okAll_not HM.out (by
        unfold okB; rw [h1, ← HN.out]
        rcases h2 with h0 | h2
        · first | (cases h0; done) | rfl
        · simp [h2]))
      have lt : letterB x = ((decide (97 ≤ n) && decide (n ≤ 122)) || (decide (48 ≤ n) && decide (n ≤ 57)) || decide (n = 45) || decide (n = 46) || decide (n = 95)) := by unfold letterB; rw [← HN.out]
      have YES := Hd yes
      have STAR := Hd star
      have NO := Hd no
      have LT := Hd lt
      clear yes star no lt
      obtain ⟨b1, h1⟩ : ∃ b, decide ((97 : Int) ≤ (n : Int)) = b := ⟨_, rfl⟩
      obtain ⟨b2, h2⟩ : ∃ b, decide ((n : Int) ≤ 122) = b := ⟨_, rfl⟩
      obtain ⟨b3, h3⟩ : ∃ b, decide ((48 : Int) ≤ (n : Int)) = b := ⟨_, rfl⟩
      obtain ⟨b4, h4⟩ : ∃ b, decide ((n : Int) ≤ 57) = b := ⟨_, rfl⟩
      obtain ⟨b5, h5⟩ : ∃ b, ((n : Int) == 45) = b := ⟨_, rfl⟩
      obtain ⟨b6, h6⟩ : ∃ b, ((n : Int) == 46) = b := ⟨_, rfl⟩
      obtain ⟨b7, h7⟩ : ∃ b, ((n : Int) == 95) = b := ⟨_, rfl⟩
      obtain ⟨b8, h8⟩ : ∃ b, ((n : Int) == 42) = b := ⟨_, rfl⟩
      have hL : Hid (letterB x = ((b1 && b2) || (b3 && b4) || b5 || b6 || b7)) := Hd (by
        rw [LT.out, ← h1, ← h2, ← h3, ← h4, ← h5, ← h6, ← h7, Bool.eq_iff_iff]
        simp
        omega)
      have h42 : Hid (b8 = true → n = 42) := Hd (fun h => by rw [h] at h8; simp at h8; omega)
      have h42' : Hid (b8 = false → n ≠ 42) := Hd (fun h => by rw [h] at h8; simp at h8; omega)
      clear hx8
      cases b1 <;> cases b2 <;> cases b3 <;> cases b4 <;> cases b5 <;> cases b6 <;> cases b7 <;> cases b8 <;> first
        | (exfalso; clear YES STAR NO LT hL h42 h42' hidx2 HN HC HM HK; simp at h1 h2 h3 h4 h5 h6 h7 h8; omega)
        | (have hyes : Hid (okAll true (s.take (k + 1)) = true) := (by first | exact YES.out hL.out | exact STAR.out rfl (h42.out rfl))
           go_wp2
           go_round
           case rel => exact ⟨k + 1, by omega, hyes.out, by go_num⟩
           case measure => simp [intOf]; omega)
        | (have hno := (NO.out hL.out (by first | exact Or.inl rfl | exact Or.inr (h42'.out rfl)))
           go_wp2
           go_ret
           refine ⟨?_, rfl⟩
           rw [hno.out]
           rfl)
    · obtain rfl : k = s.length := by omega
      rw [List.take_length] at HK
      go_wp2
      go_ret
      exact ⟨by rw [HK.out]; rfl, rfl⟩
theorem isName_any (s : List UInt8) (stars : Bool) (w : World) :
    Calls Tryz.prog 241 #[str s, .bool stars] w fun e w' => e = .returned (.bool (nameB s stars)) ∧ w = w' := by
  by_cases hpre : s ≠ [] ∧ s.length ≤ 12 ∧ s ≠ [46] ∧ s ≠ [46, 46]
  · cases stars
    · exact isName_f s w hpre
    · exact isName_t s w hpre
  · have hf : nameB s stars = false := by
      cases h : nameB s stars with
      | false => rfl
      | true =>
        unfold nameB at h
        simp only [Bool.and_eq_true, Bool.not_eq_true', beq_eq_false_iff_ne, decide_eq_true_eq] at h
        exact absurd ⟨h.1, h.2.1, h.2.2.1, h.2.2.2.1⟩ hpre
    rw [hf]
    have hor : s = [] ∨ s = [46] ∨ s = [46, 46] ∨ 12 < s.length := by
      by_cases h1 : s = []
      · exact Or.inl h1
      by_cases h2 : s = [46]
      · exact Or.inr (Or.inl h2)
      by_cases h3 : s = [46, 46]
      · exact Or.inr (Or.inr (Or.inl h3))
      refine Or.inr (Or.inr (Or.inr ?_))
      rcases Nat.lt_or_ge 12 s.length with h | h
      · exact h
      · exact absurd ⟨h1, h, h2, h3⟩ hpre
    clear hf hpre
    rcases hor with rfl | rfl | rfl | h
    case inr.inr.inr =>
      have d1 : ((s.length : Int) < 1) = False := by simp; omega
      have d2 : ((12 : Int) < s.length) = True := by simp; omega
      go_enter Tryz.func241, Tryz.ntmps241
      go_wp2
      go_ret
      exact ⟨rfl, rfl⟩
    all_goals
      go_enter Tryz.func241, Tryz.ntmps241
      go_wp2
      go_ret
      exact ⟨rfl, rfl⟩
def BldAt (p : Value) (lim b : Nat) (bs : List Value) (w : World) : Prop :=
  ∃ v, w.heap[b]? = some (.cells #[p, v] 138 (0, 0)) ∧ w.ownsRow lim 5 1 v bs.length bs ∧ b < lim
def Bld (lim b : Nat) (bs : List Value) (w : World) : Prop := BldAt (.pointer none) lim b bs w ∨ BldAt (.pointer (some ⟨b, 0, none⟩)) lim b bs w
theorem BldAt.is {p : Value} {lim b : Nat} {bs : List Value} {w : World} (h : BldAt p lim b bs w) : Lib.BuilderAt 138 5 b b p bs w := by
  obtain ⟨v, hb, ho, hl⟩ := h
  refine ⟨Nat.le_refl _, v, hb, ownsRow_base ho (by omega), fun e => ?_⟩
  have := (ho.lt b e).1
  omega
theorem Bld.is {lim b : Nat} {bs : List Value} {w : World} (h : Bld lim b bs w) : Lib.IsBuilder 138 5 b b bs w := h.imp BldAt.is BldAt.is
theorem Bld.fresh {lim b : Nat} {w : World} (h : w.heap[b]? = some (.cells #[.pointer none, .slice none 0 0] 138 (0, 0))) (hl : b < lim) : Bld lim b [] w :=
  Or.inl ⟨_, h, World.ownsRow_nil _ _ _ _, hl⟩
theorem copyCheck_bld (lim b : Nat) (bs : List Value) (w : World) (h : Bld lim b bs w) :
    Calls Tryz.prog 145 #[.pointer (some ⟨b, 0, none⟩)] w fun e w' => e = .returned (.tuple #[]) ∧ BldAt (.pointer (some ⟨b, 0, none⟩)) lim b bs w' ∧ Fr lim (fun k => k = b) w w' ∧ w'.heap.size = w.heap.size := by
  rcases h with h | h
  · refine (copyCheck_fresh b w h.is.cell0 h.is.shape h.is.frozen0).mono ?_
    rintro e w' ⟨rfl, rfl⟩
    obtain ⟨v, hb, ho, hl⟩ := h
    have hF : Fr w.heap.size (fun k => k = b) w (w.setCell ⟨b, 0, none⟩ (.pointer (some ⟨b, 0, none⟩))) := Fr.setCell (S := fun k => k = b) (p := ⟨b, 0, none⟩) (.refl _ _ _) (fun _ => rfl) _
    refine ⟨rfl, ⟨v, (Kf.heap_setCell_same hb _).trans rfl, ownsRow_fr ho hF (fun k hk => ⟨(ho.lt k hk).2, fun e => ?_⟩), hl⟩, Fr.setCell (S := fun k => k = b) (p := ⟨b, 0, none⟩) (.refl _ _ _) (fun _ => rfl) _, by simp [World.setCell]⟩
    have := (ho.lt k hk).1
    omega
  · refine (copyCheck_used b w h.is.cell0).mono ?_
    rintro e w' ⟨rfl, rfl⟩
    exact ⟨rfl, h, .refl _ _ _, rfl⟩
set_option maxHeartbeats 2000000 in
theorem writeString_bld (lim b : Nat) (bs : List Value) (s : ByteArray) (w : World) (h : Bld lim b bs w) (hlen : bs.length + s.size ≤ 140737488355328) (hlw : lim ≤ w.heap.size) :
    Calls Tryz.prog 79 #[.pointer (some ⟨b, 0, none⟩), .string s] w fun e w' => e = .returned (.tuple #[.int .i64 s.size, .nilIface]) ∧ Bld lim b (bs ++ Lib.strCells s) w' ∧ Fr lim (fun k => k = b) w w' := by
  obtain ⟨i0, hi, hz0, hz1, hz2⟩ := info_parts byteInfo
  go_enter Tryz.func79, Tryz.ntmps79
  go_wp2_with fail
  refine (copyCheck_bld lim b bs _ h).mono ?_
  rintro e w1 ⟨rfl, h1, hf1, hz1'⟩
  obtain ⟨v, hbk, hown, hbl⟩ := h1
  have hne : v.ownBlock ≠ some b := fun e => by have := (hown.lt b e).1; omega
  have hlw1 : lim ≤ w1.heap.size := by omega
  clear hz1'
  have c0 : w1.cell? ⟨b, 0, none⟩ = some (.pointer (some ⟨b, 0, none⟩)) := by rw [Lib.cell_of_heap hbk]; rfl
  have c1 : w1.cell? ⟨b, 1, none⟩ = some v := by rw [Lib.cell_of_heap hbk]; rfl
  go_wp2_with (at_builtin; refine Lib.wpList_append_own_string _ rfl _ _ 136 9 rfl lim 5 i0 Tryz.underlying136 Tryz.underlying9 hi hz0 hz1 hz2 _ _ _ rfl hown s rfl ?c3 ?c4 ?c5 ?_)
  case c3 => unfold maxLen; omega
  case c4 => omega
  case c5 => exact hlw1
  intro v' w2 hown' hgrow _
  have hlt : b < w1.heap.size := by omega
  have hb2 : w2.heap[b]? = some (.cells #[.pointer (some ⟨b, 0, none⟩), v] 138 (0, 0)) := by
    rw [hgrow.block b hlt (fun e => hne e.symm)]
    exact hbk
  have d0 : w2.cell? ⟨b, 0, none⟩ = some (.pointer (some ⟨b, 0, none⟩)) := by rw [Lib.cell_of_heap hb2]; rfl
  have d1 : w2.cell? ⟨b, 1, none⟩ = some v := by rw [Lib.cell_of_heap hb2]; rfl
  have f1 : w2.frozen? ⟨b, 1, none⟩ = false := Lib.frozen_of_heap hb2 1
  have hf2 : Fr lim (fun k => k = b) w w2 := hf1.grown hgrow hlw1 (fun k hk hkl => by have := (hown.lt k hk).1; omega)
  obtain ⟨ao, n', cap, rfl⟩ : ∃ ao n' cap, v' = .slice ao n' cap := by
    rcases hown'.2 with ⟨hv, _⟩ | ⟨g, cap, cur, hv, _⟩
    · exact ⟨_, _, _, hv⟩
    · exact ⟨_, _, _, hv⟩
  have H2 := Hd hb2
  have HO := Hd hown'
  have HF := Hd hf2
  clear hf1 hgrow hown hb2 hown' hf2
  go_wp2
  go_ret2
  have hF : Fr w2.heap.size (fun k => k = b) w2 (w2.setCell ⟨b, 1, none⟩ (.slice ao n' cap)) := Fr.setCell (S := fun k => k = b) (p := ⟨b, 1, none⟩) (.refl _ _ _) (fun _ => rfl) _
  refine ⟨rfl, Or.inr ⟨.slice ao n' cap, (Kf.heap_setCell_same H2.out _).trans rfl, ?_, hbl⟩, Fr.setCell (S := fun k => k = b) (p := ⟨b, 1, none⟩) HF.out (fun _ => rfl) _⟩
  refine ownsRow_fr (by simpa [Lib.strCells_length] using HO.out) hF (fun k hk => ⟨(HO.out.lt k hk).2, fun e => ?_⟩)
  have := (HO.out.lt k hk).1
  omega
theorem string_bld (lim b : Nat) (l : List UInt8) (w : World) (h : Bld lim b (Lib.byteCells l) w) (hbw : b ≤ w.heap.size) :
    Calls Tryz.prog 81 #[.pointer (some ⟨b, 0, none⟩)] w fun e w' => e = .returned (str l) ∧ Below b w w' :=
  Tryz.Builder_String_any b b l w h.is hbw
end Go.Proofs.YtgjialbmlhbngaaGreatDoor

namespace Go.Kf
open Go Go.RowKit
structure SliceTyK (P : Program) (T e : TypeId) (z : Value) (s bytes : Nat) : Prop where
  und : P.underlying T = some (.slice e)
  info : (P.info? e).map (fun i => (i.zero, i.size, i.bytes)) = some (some z, s, bytes)
  num : z.cells.size = s
  pos : 0 < s
theorem wpList_appK {P : Program} (w : World) {ops : Array Oper} {rest : List Oper} {o : Oper} {a : Act} {Q : Exit → Act → World → Prop}
    (hg : o.guard = none) (s x : Operand) (T : TypeId) (hop : o.op = Op.call { callee := Callee.builtin Builtin.append, args := #[s, x], argTypes := #[T, T] })
    {e : TypeId} {z : Value} {sz bytes : Nat} (hT : SliceTyK P T e z sz bytes) (base : Nat) (v : Value) (n : Nat) (xs : List Value) (hs : a.eval s = v) (hown : w.ownsRow base e sz v n xs)
    (ad : Addr) (m c : Nat) (news : List Value) (hx : a.eval x = .slice (some ad) m c) (hl : news.length = m * sz) (hnews : ∀ j u, news[j]? = some u → w.cell? (ad.add j) = some u) (h1 : ∀ u ∈ news, u.oneCell' = true)
    (hby : bytes ≤ 128) (hlen : n + m ≤ 1000000000) (hbase : base ≤ w.heap.size)
    (h : ∀ v' w', w'.ownsRow base e sz v' (n + m) (xs ++ news) → w.grownBy w' v.ownBlock → (v'.ownBlock = v.ownBlock ∨ v'.ownBlock = some w.heap.size) → wpList P ops Q rest (a.put o.dst v') w') :
    wpList P ops Q (o :: rest) a w := by
  obtain ⟨i, hi, hz0, hz1, hz2⟩ := info_parts hT.info
  have hb : (n + m) * bytes ≤ 140737488355328 := Nat.le_trans (Nat.mul_le_mul hlen hby) (by decide)
  exact wpList_append_own_at w hg s x T hop base e i z sz bytes hT.und hi hz0 hz1 hz2 hT.num hT.pos v n xs hs hown ad m c news hx hl hnews h1 (by unfold maxLen; omega) hb hbase
    fun v' w' h2 h3 _ h4 => h v' w' h2 h3 h4
theorem step_appK {P : Program} {ops : Array Oper} {o : Oper} {a : Act} {w : World} {K : Act → World → Prop} {Q : Exit → Act → World → Prop} {E : Prop}
    (hg : o.guard = none) (s x : Operand) (T : TypeId) (hop : o.op = Op.call { callee := Callee.builtin Builtin.append, args := #[s, x], argTypes := #[T, T] })
    {e : TypeId} {z : Value} {sz bytes : Nat} (hT : SliceTyK P T e z sz bytes) (base : Nat) (v : Value) (n : Nat) (xs : List Value) (hs : a.eval s = v) (hown : w.ownsRow base e sz v n xs)
    (ad : Addr) (m c : Nat) (news : List Value) (hx : a.eval x = .slice (some ad) m c) (hl : news.length = m * sz) (hnews : ∀ j u, news[j]? = some u → w.cell? (ad.add j) = some u) (h1 : ∀ u ∈ news, u.oneCell' = true)
    (hby : bytes ≤ 128) (hlen : n + m ≤ 1000000000) (hbase : base ≤ w.heap.size)
    (h : ∀ v' w', w'.ownsRow base e sz v' (n + m) (xs ++ news) → w.grownBy w' v.ownBlock → (v'.ownBlock = v.ownBlock ∨ v'.ownBlock = some w.heap.size) → K (a.put o.dst v') w') :
    if Region.wanted o (yielded ops a.tmps) = true then Oper.wp P o a w K Q else E := by
  have hw : Region.wanted o (yielded ops a.tmps) = true := by simp [Region.wanted, hg]
  rw [if_pos hw]
  obtain ⟨i, hi, hz0, hz1, hz2⟩ := info_parts hT.info
  have hb : (n + m) * bytes ≤ 140737488355328 := Nat.le_trans (Nat.mul_le_mul hlen hby) (by decide)
  obtain ⟨v', w', hr, h2, h3, -, h4⟩ := run_append_own_at (P := P) w base T o.type e i z sz bytes hT.und hi hz0 hz1 hz2 hT.num hT.pos v n xs hown ad m c news hl hnews h1 (by unfold maxLen; omega) hb hbase
  unfold Oper.wp execOp
  simp only [hop, resolve, invoke, builtin, Sem.run_bind, Sem.run_pure, Result.andThen_ok, List.map_toArray, List.map_cons, List.map_nil, hs, hx, hr]
  exact h v' w' h2 h3 h4
theorem owned_from {w : World} {base e s n : Nat} {v : Value} {xs : List Value} (h : w.ownsRow base e s v n xs) {k : Nat} (hk : v.ownBlock = some k) : base ≤ k := by
  rcases h.2 with ⟨rfl, -⟩ | ⟨g, cap, cur, rfl, hg, -⟩
  · cases hk
  · simp only [Value.ownBlock, Option.some.injEq] at hk
    omega
theorem flat_at {s : Nat} : ∀ (rows : List (List Value)), (∀ r ∈ rows, r.length = s) → ∀ (i : Nat) (r : List Value) (j : Nat) (u : Value), rows[i]? = some r → r[j]? = some u → rows.flatten[i * s + j]? = some u
  | [], _, i, r, j, u, h, _ => by simp at h
  | x :: rows, hs, i, r, j, u, h, hj => by
    have hx : x.length = s := hs x (List.mem_cons_self)
    cases i with
    | zero =>
      simp only [List.getElem?_cons_zero, Option.some.injEq] at h
      subst h
      have : j < x.length := by
        rcases Nat.lt_or_ge j x.length with h' | h'
        · exact h'
        · rw [List.getElem?_eq_none h'] at hj; cases hj
      rw [List.flatten_cons, List.getElem?_append_left (by omega)]
      simpa using hj
    | succ i =>
      simp only [List.getElem?_cons_succ] at h
      have := flat_at rows (fun r hr => hs r (List.mem_cons_of_mem _ hr)) i r j u h hj
      rw [List.flatten_cons, List.getElem?_append_right (by rw [hx, Nat.add_mul]; omega), hx]
      rw [show (i + 1) * s + j - s = i * s + j by rw [Nat.add_mul]; omega]
      exact this
theorem ownsRow_readsK {w : World} {base : Nat} {e : TypeId} {s : Nat} {v : Value} {n : Nat} {rows : List (List Value)} (h : w.ownsRow base e s v n rows.flatten) (hn : rows.length = n) (hs : ∀ r ∈ rows, r.length = s) : ReadsK s w v rows := by
  rcases h.2 with ⟨rfl, h0⟩ | ⟨g, cap, cur, rfl, hg, hh, hnc, hcap, hsz, htake⟩
  · obtain rfl : rows = [] := List.length_eq_zero_iff.1 (by omega)
    exact ⟨none, 0, rfl, by simp, fun i u hi => by simp at hi⟩
  · refine ⟨some ⟨g, 0, none⟩, cap, by rw [hn], by unfold maxLen at hcap; omega, fun i r hi => ⟨g, 0, rfl, fun j u hj => ?_⟩⟩
    have := flat_at rows hs i r j u hi hj
    rw [← htake] at this
    rw [Nat.zero_add, cell_of_heap hh, ← Array.getElem?_toList]
    rw [List.getElem?_take] at this
    split at this
    · exact this
    · cases this
end Go.Kf
