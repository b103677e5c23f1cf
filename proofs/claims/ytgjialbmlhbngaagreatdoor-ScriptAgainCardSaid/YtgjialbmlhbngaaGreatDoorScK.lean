/-
  Scripts' lines: swapped bytes. The reference: Joined. Scripts' lines: a rule as the reference writes it. Scripts' lines: longLine, lineOf.
-/
import Derived.Test.YtgjialbmlhbngaaGreatDoorScA
import Derived.Test.YtgjialbmlhbngaaGreatDoorPkC
import Derived.Test.YtgjialbmlhbngaaGreatDoorRsB
import Derived.Test.YtgjialbmlhbngaaGreatDoorPkF
import Derived.Test.YtgjialbmlhbngaaGreatDoorPkI
import Derived.Test.YtgjialbmlhbngaaGreatDoorYdB

set_option maxRecDepth 100000
namespace Go.Proofs.YtgjialbmlhbngaaGreatDoor
open Go Go.RowKit Go.Kf Go.Sort Go.Proofs
set_option maxHeartbeats 1000000 in
theorem swapped_any (s : List UInt8) (w : World) (hs : s.length ≤ 100000) : Calls Tryz.prog 123 #[str s, .int .u8 10, .int .u8 59] w fun e w' => ∃ t, e = .returned (str t) ∧ t.length = s.length ∧ Below w.heap.size w w' := by
  go_enter Tryz.func123, Tryz.ntmps123
  go_wp2
  go_loopw [7, 8] (fun ov iv wl => ∃ (i : Nat) (t : List UInt8), i ≤ s.length ∧ ov = str t ∧ iv = .int .i64 (i : Int) ∧ t.length = i ∧ Below w.heap.size w wl) (fun _ iv _ => s.length - (intOf iv).toNat)
  case atStart => exact ⟨0, [], by omega, rfl, rfl, rfl, Below.refl _ _⟩
  case round =>
    obtain ⟨i, t, hi, rfl, rfl, htl, hb⟩ := hrel
    have HB := Hd hb
    have HTL := Hd htl
    clear htl
    have htb : t.length ≤ 100000 := by have := HTL.out; omega
    by_cases hlt : i < s.length
    · have hlc : ((i : Int) < (s.length : Int)) = True := eq_true (by omega)
      have hlc2 : (i < s.length) = True := eq_true hlt
      obtain ⟨x, hx⟩ : ∃ x, s[i] = x := ⟨_, rfl⟩
      have hidx : ∀ h, (⟨s.toArray⟩ : ByteArray)[i]'h = x := fun _ => hx
      obtain ⟨n, hn⟩ : ∃ n : Nat, n = x.toNat := ⟨_, rfl⟩
      have hidx2 : ∀ h, ((⟨s.toArray⟩ : ByteArray)[i]'h).toNat = n := fun h => by rw [hidx h, hn]
      have hn8 : n < 256 := by rw [hn]; exact x.toNat_lt
      have hs1 : (⟨s.toArray⟩ : ByteArray).extract i (i + 1) = ⟨[x].toArray⟩ := by
        apply ByteArray.ext
        simp only [ByteArray.data_extract, List.extract_toArray, List.extract_eq_take_drop]
        rw [List.drop_eq_getElem_cons hlt, hx, show i + 1 - i = 1 by omega]
        rfl
      have hc1 : (⟨t.toArray⟩ : ByteArray) ++ (⟨[x].toArray⟩ : ByteArray) = ⟨(t ++ [x]).toArray⟩ := str_app _ _
      have hc2 : (⟨t.toArray⟩ : ByteArray) ++ (⟨[UInt8.ofNat 59].toArray⟩ : ByteArray) = ⟨(t ++ [UInt8.ofNat 59]).toArray⟩ := str_app _ _
      have hbd : ¬ (9223372036854775807 < t.length + 1) := by omega
      have h1 : ((i : Int) ≤ (i : Int) + 1) = True := eq_true (by omega)
      have h2 : ((i : Int) + 1 ≤ (s.length : Int)) = True := eq_true (by omega)
      have KB := Hd (byte_any 59 wr (by decide))
      have HN := Hd hn
      clear hidx hn hx
      by_cases h10 : n = 10
      · subst h10
        go_wp2_with fail
        refine KB.out.mono ?_
        rintro e w3 ⟨rfl, hb3⟩
        have HB3 := Hd (HB.out.trans (hb3.mono HB.out.size))
        clear hb3
        go_wp2
        go_roundw
        case rel => exact ⟨i + 1, t ++ [UInt8.ofNat 59], by omega, rfl, by go_num, by rw [List.length_append, HTL.out]; rfl, HB3.out⟩
        case measure => simp [intOf]; omega
      · have e10 : ((n : Int) == 10) = false := by simp; omega
        have e10' : ((n : Int) = 10) = False := eq_false (by omega)
        go_wp2
        go_roundw
        case rel => exact ⟨i + 1, t ++ [x], by omega, rfl, by go_num, by rw [List.length_append, HTL.out]; rfl, HB.out⟩
        case measure => simp [intOf]; omega
    · obtain rfl : i = s.length := by omega
      have hlc : ((s.length : Int) < (s.length : Int)) = False := eq_false (by omega)
      go_wp2
      go_ret
      exact ⟨t, rfl, HTL.out, hb⟩
theorem join_bound (l : List (List UInt8)) (h : ∀ s ∈ l, s.length ≤ 10000) : (Lib.join l [32]).length ≤ 10001 * l.length := by
  cases l with
  | nil => simp [Lib.join, List.intercalate]
  | cons a l =>
    rw [Lib.join_length]
    have h2 : ∀ (k : List (List UInt8)), (∀ s ∈ k, s.length ≤ 10000) → Lib.lens k ≤ 10000 * k.length := by
      intro k
      induction k with
      | nil => intro _; simp [Lib.lens]
      | cons b k ih =>
        intro hk
        have h3 := ih (fun s hs => hk s (List.mem_cons_of_mem _ hs))
        have h4 := hk b List.mem_cons_self
        simp only [Lib.lens, List.map_cons, List.sum_cons, List.length_cons] at h3 ⊢
        omega
    have h5 := h2 _ h
    simp only [List.length_cons, List.length_nil] at h5 ⊢
    omega
set_option maxHeartbeats 2000000 in
theorem rjoined_any (l : List (List UInt8)) (v : Value) (w : World) (h : Reads w v (l.map str)) (hn : l.length ≤ 50) (hx : ∀ s ∈ l, s.length ≤ 10000) :
    Calls Tryz.prog 122 #[v] w fun e w' => e = .returned (str (Lib.join l [32])) ∧ w' = w := by
  obtain ⟨a, c, hv, -, -⟩ := id h
  rw [List.length_map] at hv
  subst hv
  have H := Hd h
  have HX := Hd hx
  clear h hx
  go_enter Tryz.func122, Tryz.ntmps122
  go_wp2
  go_loopw [3, 4] (fun ov iv wl => ∃ i : Nat, i ≤ l.length ∧ iv = .int .i64 i ∧ ov = str (Lib.join (l.take i) [32]) ∧ wl = w) (fun _ iv _ => l.length - (intOf iv).toNat)
  case atStart => exact ⟨0, by omega, rfl, by simp [Lib.join], rfl⟩
  case round =>
    obtain ⟨i, hi, rfl, rfl, rfl⟩ := hrel
    by_cases hlt : i < l.length
    · have hlc : ((i : Int) < (l.length : Int)) = True := eq_true (by omega)
      obtain ⟨b, o, hix, hce⟩ := H.out.at (P := Tryz.prog) Tryz.underlying33 (by kernel_rfl) i (by simpa using hlt)
      simp only [List.getElem_map] at hce
      have hem : l.take i = [] ↔ i = 0 := by
        rw [List.take_eq_nil_iff]
        constructor
        · rintro (h | h)
          · exact h
          · subst h; simp at hlt
        · exact Or.inl
      have HTK : Hid (Lib.join (l.take (i + 1)) [32] = if l.take i = [] then l[i] else Lib.join (l.take i) [32] ++ ([32] ++ l[i])) := Hd (by
        rw [List.take_succ_eq_append_getElem hlt]
        split
        · rename_i h; rw [h, List.nil_append, Lib.join_one]
        · rename_i h; rw [join_snoc _ _ h]; simp)
      have hb := join_bound (l.take i) (fun s hs => HX.out s (List.mem_of_mem_take hs))
      rw [List.length_take] at hb
      have hs := HX.out _ (List.getElem_mem hlt)
      have ht0 : i = 0 → Lib.join (l.take i) [32] = [] := fun h => by rw [h]; rfl
      generalize l[i] = x at *
      generalize Lib.join (l.take i) [32] = t at *
      by_cases h0 : i = 0
      · rw [if_pos (hem.2 h0)] at HTK
        have hgt : ((i : Int) > 0) = False := eq_false (by omega)
        have hgt2 : ((0 : Int) < (i : Int)) = False := eq_false (by omega)
        have hgt3 : (0 < i) = False := eq_false (by omega)
        have l1 : ¬ (9223372036854775807 < t.length + x.length) := by omega
        have HT0 := Hd (ht0 h0)
        clear hem h0 ht0
        go_wp2
        go_roundw
        case rel => exact ⟨i + 1, by omega, by go_num, by rw [HTK.out, HT0.out]; exact congrArg Value.string (by apply ByteArray.ext; simp), by first | rfl | trivial⟩
        case measure => simp [intOf]; omega
      · rw [if_neg (fun e => h0 (hem.1 e))] at HTK
        have hgt : ((i : Int) > 0) = True := eq_true (by omega)
        have hgt2 : ((0 : Int) < (i : Int)) = True := eq_true (by omega)
        have hgt3 : (0 < i) = True := eq_true (by omega)
        have l1 : ¬ (9223372036854775807 < t.length + 1) := by omega
        have l2 : ¬ (9223372036854775807 < t.length + 1 + x.length) := by omega
        clear hem h0 ht0
        go_wp2
        go_roundw
        case rel => exact ⟨i + 1, by omega, by go_num, by rw [HTK.out]; exact congrArg Value.string (by apply ByteArray.ext; simp), by first | rfl | trivial⟩
        case measure => simp [intOf]; omega
    · obtain rfl : i = l.length := by omega
      have hlc : ((l.length : Int) < (l.length : Int)) = False := eq_false (by omega)
      rw [List.take_length]
      go_wp2
      go_ret
      exact ⟨rfl, rfl⟩
def sumLen (l : List (List UInt8)) : Nat := (l.map List.length).sum
theorem sumLen_snoc (l : List (List UInt8)) (s : List UInt8) : sumLen (l ++ [s]) = sumLen l + s.length := by
  unfold sumLen
  rw [List.map_append, List.sum_append]
  simp
theorem sumLen_take : ∀ (l : List (List UInt8)) (k : Nat), sumLen (l.take k) ≤ sumLen l
  | [], k => by simp
  | x :: l, 0 => by simp [sumLen]
  | x :: l, k + 1 => by
    have := sumLen_take l k
    unfold sumLen at *
    simp only [List.take_succ_cons, List.map_cons, List.sum_cons]
    omega
set_option maxHeartbeats 2000000 in
theorem rsheetText_any (o kd wd : List UInt8) (ins : List (List UInt8)) (a0 : Option Addr) (g c0 : Nat) (w : World) (hg : w.heap[g]? = some (.cells #[str o, str kd, str wd, .slice a0 ins.length c0] 35 (0, 0))) (hi : Reads w (.slice a0 ins.length c0) (ins.map str)) (hb : o.length + kd.length + wd.length + sumLen ins + ins.length ≤ 100000) :
    Calls Tryz.prog 124 #[.slice (some ⟨g, 0, none⟩) 1 1] w fun e w' => ∃ t, e = .returned (str t) ∧ 1 ≤ t.length ∧ t.length ≤ o.length + kd.length + 2 * wd.length + sumLen ins + ins.length + 8 ∧ Below w.heap.size w w' := by
  have HC := Hd (fun wl (hb : Below w.heap.size w wl) => (four_free ((hb.block g (lt_of_heap hg)).trans hg)).1)
  have HI := Hd (fun wl (hb : Below w.heap.size w wl) => hi.below0 hb)
  have hix := idx_at4 g 1 1 0 (by omega)
  clear hg hi
  go_enter Tryz.func124, Tryz.ntmps124
  go_wp2_with fail
  go_loopw [3, 4] (fun ov iv wl => ∃ (i : Nat) (t : List UInt8), i ≤ 1 ∧ ov = str t ∧ iv = .int .i64 (i : Int) ∧ (i = 0 → t = []) ∧ (i = 1 → 1 ≤ t.length ∧ t.length ≤ o.length + kd.length + 2 * wd.length + sumLen ins + ins.length + 8) ∧ Below w.heap.size w wl) (fun _ iv _ => 1 - (intOf iv).toNat)
  case atStart => exact ⟨0, [], by omega, rfl, rfl, fun _ => rfl, fun h => by omega, Below.refl _ _⟩
  case round =>
    obtain ⟨i, t, hi1, rfl, rfl, h0, h1, hbl⟩ := hrel
    have HB := Hd hbl
    by_cases hlt : i < 1
    · obtain rfl : i = 0 := by omega
      obtain rfl := h0 rfl
      obtain ⟨k0, k1, k2, k3⟩ := HC.out wr hbl
      obtain ⟨t0, ht0⟩ : ∃ t, o ++ [32, 61, 32] = t := ⟨_, rfl⟩
      obtain ⟨t1, ht1⟩ : ∃ t, t0 ++ kd = t := ⟨_, rfl⟩
      have hl1 : t1.length = o.length + 3 + kd.length := by rw [← ht1, ← ht0]; simp; omega
      have ca : (⟨#[]⟩ : ByteArray) ++ (⟨o.toArray⟩ : ByteArray) = ⟨o.toArray⟩ := str_app [] o
      have cb : (⟨o.toArray⟩ : ByteArray) ++ (⟨#[32, 61, 32]⟩ : ByteArray) = ⟨t0.toArray⟩ := by rw [← ht0]; exact str_app o [32, 61, 32]
      have cc : (⟨t0.toArray⟩ : ByteArray) ++ (⟨kd.toArray⟩ : ByteArray) = ⟨t1.toArray⟩ := by rw [← ht1]; exact str_app t0 kd
      have ln0 : t0.length = o.length + 3 := by rw [← ht0]; simp
      have HL1 := Hd hl1
      clear h0 h1 hbl hi1 ht0 ht1
      go_wp2_with fail
      go_quiet (fail)
      have HBN := Hd (below_drewN HB.out nq)
      clear ca cb cc
      obtain ⟨W3, hW3⟩ : ∃ W, wr.drewN nq = W := ⟨_, rfl⟩
      rw [hW3] at HBN ⊢
      obtain ⟨k0, k1, k2, k3⟩ := HC.out W3 HBN.out
      have hlb : t1.length ≤ 200000 := by have := HL1.out; omega
      by_cases hwd : wd = []
      case' pos =>
        have w1' : (wd == []) = true := by simpa using hwd
        have w2' : (wd = []) = True := eq_true hwd
        have HL4 : Hid (1 ≤ t1.length ∧ t1.length ≤ o.length + kd.length + 2 * wd.length + 6) := Hd (by have := HL1.out; omega)
        clear hwd HL1
        go_wp2_with fail
        clear w1' w2'
        generalize t1 = t4 at *
      case' neg =>
        have w1' : (wd == []) = false := by simpa using hwd
        have w2' : (wd = []) = False := eq_false hwd
        obtain ⟨t2, ht2⟩ : ∃ t, t1 ++ [32, 34] = t := ⟨_, rfl⟩
        have cd : (⟨t1.toArray⟩ : ByteArray) ++ (⟨#[32, 34]⟩ : ByteArray) = ⟨t2.toArray⟩ := by rw [← ht2]; exact str_app t1 [32, 34]
        have ln2 : ¬ (9223372036854775807 < t1.length + 2) := by omega
        have HL2 : Hid (t2.length = o.length + kd.length + 5) := Hd (by rw [← ht2, List.length_append]; have := HL1.out; simp; omega)
        clear hwd HL1 ht2
        go_wp2_with fail
        clear w1' w2' cd ln2
        go_loopw [3, 6] (fun ov kv wl => ∃ (k : Nat) (t : List UInt8), k ≤ wd.length ∧ ov = str t ∧ kv = .int .i64 (k : Int) ∧ 1 ≤ t.length ∧ t.length ≤ t2.length + 2 * k ∧ Below w.heap.size w wl) (fun _ kv _ => wd.length - (intOf kv).toNat)
        case atStart => exact ⟨0, t2, by omega, rfl, rfl, by have := HL2.out; omega, by omega, HBN.out⟩
        case' round =>
          clear k0 k1 k2 k3
          obtain ⟨k, t, hk, rfl, rfl, htp, htl, hbk⟩ := hrel
          have HBK := Hd hbk
          have HTL : Hid (1 ≤ t.length ∧ t.length ≤ t2.length + 2 * k) := Hd ⟨htp, htl⟩
          have htb : t.length ≤ 500000 := by have := HL2.out; omega
          clear htp htl
          by_cases hlt : k < wd.length
          case pos =>
            have hlc : ((k : Int) < (wd.length : Int)) = True := eq_true (by omega)
            have hlc2 : (k < wd.length) = True := eq_true hlt
            obtain ⟨x, hx⟩ : ∃ x, wd[k] = x := ⟨_, rfl⟩
            have hidx : ∀ h, (⟨wd.toArray⟩ : ByteArray)[k]'h = x := fun _ => hx
            obtain ⟨n, hn⟩ : ∃ n : Nat, n = x.toNat := ⟨_, rfl⟩
            have hidx2 : ∀ h, ((⟨wd.toArray⟩ : ByteArray)[k]'h).toNat = n := fun h => by rw [hidx h, hn]
            have hn8 : n < 256 := by rw [hn]; exact x.toNat_lt
            have hs1 : (⟨wd.toArray⟩ : ByteArray).extract k (k + 1) = ⟨[x].toArray⟩ := by
              apply ByteArray.ext
              simp only [ByteArray.data_extract, List.extract_toArray, List.extract_eq_take_drop]
              rw [List.drop_eq_getElem_cons hlt, hx, show k + 1 - k = 1 by omega]
              rfl
            have e1 : (⟨t.toArray⟩ : ByteArray) ++ (⟨[x].toArray⟩ : ByteArray) = ⟨(t ++ [x]).toArray⟩ := str_app _ _
            have e2 : (⟨t.toArray⟩ : ByteArray) ++ (⟨#[92]⟩ : ByteArray) = ⟨(t ++ [92]).toArray⟩ := str_app t [92]
            have e3 : (⟨(t ++ [92]).toArray⟩ : ByteArray) ++ (⟨[x].toArray⟩ : ByteArray) = ⟨((t ++ [92]) ++ [x]).toArray⟩ := str_app _ _
            have e4 : (⟨t.toArray⟩ : ByteArray) ++ (⟨#[92, 110]⟩ : ByteArray) = ⟨(t ++ [92, 110]).toArray⟩ := str_app t [92, 110]
            have g1 : ((k : Int) ≤ (k : Int) + 1) = True := eq_true (by omega)
            have g2 : ((k : Int) + 1 ≤ (wd.length : Int)) = True := eq_true (by omega)
            have g3 : ¬ (9223372036854775807 < t.length + 1) := by omega
            have g4 : ¬ (9223372036854775807 < t.length + 2) := by omega
            have g5 : ¬ (9223372036854775807 < (t ++ [92]).length + 1) := by rw [List.length_append]; simp; omega
            have HN := Hd hn
            clear hidx hn hx
            by_cases h34 : n = 34 ∨ n = 92
            · rcases h34 with rfl | rfl
              all_goals
                go_wp2
                go_roundw
                case rel => exact ⟨k + 1, t ++ [92, x], by omega, rfl, by go_num, by simp, by have := HTL.out.2; simp; omega, HBK.out⟩
                case measure => simp [intOf]; omega
            · have a34 : ((n : Int) == 34) = false := by simp; omega
              have b34 : ((n : Int) = 34) = False := eq_false (by omega)
              have a92 : ((n : Int) == 92) = false := by simp; omega
              have b92 : ((n : Int) = 92) = False := eq_false (by omega)
              by_cases h10 : n = 10
              · subst h10
                go_wp2
                go_roundw
                case rel => exact ⟨k + 1, t ++ [92, 110], by omega, rfl, by go_num, by simp, by have := HTL.out.2; simp; omega, HBK.out⟩
                case measure => simp [intOf]; omega
              · have a10 : ((n : Int) == 10) = false := by simp; omega
                have b10 : ((n : Int) = 10) = False := eq_false (by omega)
                go_wp2
                go_roundw
                case rel => exact ⟨k + 1, t ++ [x], by omega, rfl, by go_num, by simp, by have := HTL.out.2; simp; omega, HBK.out⟩
                case measure => simp [intOf]; omega
          obtain rfl : k = wd.length := by omega
          have hlc : ((wd.length : Int) < (wd.length : Int)) = False := eq_false (by omega)
          obtain ⟨t4, ht4⟩ : ∃ t', t ++ [34] = t' := ⟨_, rfl⟩
          have e1 : (⟨t.toArray⟩ : ByteArray) ++ (⟨#[34]⟩ : ByteArray) = ⟨t4.toArray⟩ := by rw [← ht4]; exact str_app t [34]
          have g3 : ¬ (9223372036854775807 < t.length + 1) := by omega
          have HL4 : Hid (1 ≤ t4.length ∧ t4.length ≤ o.length + kd.length + 2 * wd.length + 6) := Hd (by
            rw [← ht4, List.length_append]
            have h1 := HTL.out
            have h2 := HL2.out
            simp
            omega)
          obtain ⟨k0, k1, k2, k3⟩ := HC.out wr hbk
          have hlb : t4.length ≤ 500000 := by rw [← ht4, List.length_append]; simp; have := HTL.out; have := HL2.out; omega
          clear htb hbk hlt ht4
          go_wp2_with fail
          clear e1 g3
          have HBN := HBK
          obtain ⟨W3, rfl⟩ : ∃ W, W = wr := ⟨_, rfl⟩
      all_goals
        go_loopw [3, 7] (fun ov kv wl => ∃ (k : Nat) (t : List UInt8), k ≤ ins.length ∧ ov = str t ∧ kv = .int .i64 (k : Int) ∧ 1 ≤ t.length ∧ t.length ≤ t4.length + sumLen (ins.take k) + k ∧ sumLen (ins.take k) ≤ sumLen ins ∧ Below w.heap.size w wl) (fun _ kv _ => ins.length - (intOf kv).toNat)
        case atStart => exact ⟨0, t4, by omega, rfl, rfl, HL4.out.1, by omega, by simp [sumLen], HBN.out⟩
        case round =>
          clear k0 k1 k2 k3
          obtain ⟨k, t, hk, rfl, rfl, htp, htl, hsm, hbk⟩ := hrel
          have HBK := Hd hbk
          have HTL : Hid (1 ≤ t.length ∧ t.length ≤ t4.length + sumLen (ins.take k) + k) := Hd ⟨htp, htl⟩
          have HLL := HL4.out
          have htb : t.length ≤ 900000 := by omega
          obtain ⟨k0, k1, k2, k3⟩ := HC.out wr hbk
          by_cases hlt : k < ins.length
          · have hlc : ((k : Int) < (ins.length : Int)) = True := eq_true (by omega)
            obtain ⟨bx, ox, hixi, hce⟩ := (HI.out wr hbk).at (P := Tryz.prog) Tryz.underlying33 (by kernel_rfl) k (by simpa using hlt)
            simp only [List.getElem_map] at hce
            have HTK : Hid (sumLen (ins.take (k + 1)) = sumLen (ins.take k) + ins[k].length) := Hd (by rw [List.take_succ_eq_append_getElem hlt, sumLen_snoc])
            have HSM : Hid (sumLen (ins.take (k + 1)) ≤ sumLen ins) := Hd (sumLen_take ins (k + 1))
            generalize ins[k] = q at *
            have hq := HSM.out
            rw [HTK.out] at hq
            obtain ⟨t5, ht5⟩ : ∃ t', t ++ [32] = t' := ⟨_, rfl⟩
            have e1 : (⟨t.toArray⟩ : ByteArray) ++ (⟨#[32]⟩ : ByteArray) = ⟨t5.toArray⟩ := by rw [← ht5]; exact str_app t [32]
            have e2 : (⟨t5.toArray⟩ : ByteArray) ++ (⟨q.toArray⟩ : ByteArray) = ⟨(t5 ++ q).toArray⟩ := str_app _ _
            have l5 : t5.length = t.length + 1 := by rw [← ht5]; simp
            have g3 : ¬ (9223372036854775807 < t.length + 1) := by omega
            have g4 : ¬ (9223372036854775807 < t5.length + q.length) := by omega
            have HL5 := Hd l5
            clear htp htl ht5 l5 hbk
            go_wp2
            go_roundw
            case rel => exact ⟨k + 1, t5 ++ q, by omega, rfl, by go_num, by rw [List.length_append, HL5.out]; omega, by rw [List.length_append, HL5.out, HTK.out]; have := HTL.out.2; omega, HSM.out, HBK.out⟩
            case measure => simp [intOf]; omega
          · obtain rfl : k = ins.length := by omega
            have hlc : ((ins.length : Int) < (ins.length : Int)) = False := eq_false (by omega)
            have e1 : (⟨t.toArray⟩ : ByteArray) ++ (⟨#[10]⟩ : ByteArray) = ⟨(t ++ [10]).toArray⟩ := str_app t [10]
            have g3 : ¬ (9223372036854775807 < t.length + 1) := by omega
            have HF : Hid (1 ≤ (t ++ [10]).length ∧ (t ++ [10]).length ≤ o.length + kd.length + 2 * wd.length + sumLen ins + ins.length + 8) := Hd (by
              rw [List.length_append]
              have h1 := HTL.out
              rw [List.take_length] at h1
              simp
              omega)
            clear htp htl hbk
            go_wp2
            go_roundw
            case rel => exact ⟨1, t ++ [10], by omega, rfl, by go_num, fun h => by omega, fun _ => HF.out, HBK.out⟩
            case measure => simp [intOf]
    · obtain rfl : i = 1 := by omega
      obtain ⟨q1, q2⟩ := h1 rfl
      have HQ : Hid (1 ≤ t.length ∧ t.length ≤ o.length + kd.length + 2 * wd.length + sumLen ins + ins.length + 8) := Hd ⟨q1, q2⟩
      clear h0 h1 q1 q2 hix
      go_wp2
      go_ret
      exact ⟨t, rfl, HQ.out.1, HQ.out.2, hbl⟩
theorem txt_ne {s t : List UInt8} (h : s ≠ t) : (s == t) = false ∧ (s = t) = False := ⟨by simpa using h, eq_false h⟩
structure Ln where
  wd : List UInt8
  p : List (List UInt8)
  pv : Value
  tx : List UInt8
  r : RV
def lnRow (x : Ln) : List Value := [str x.wd, x.pv, str x.tx, str x.r.1.out, str x.r.1.kind, str x.r.1.word, x.r.2]
def lnV (x : Ln) : Value := .agg #[str x.wd, x.pv, str x.tx, str x.r.1.out, str x.r.1.kind, str x.r.1.word, x.r.2]
def ShortL (x : Ln) : Prop := x.wd.length ≤ 60 ∧ x.tx.length ≤ 300 ∧ FewTexts x.p 6 300 ∧ ShortR x.r.1
def LnIn (w : World) (x : Ln) : Prop := Reads w x.pv (x.p.map str) ∧ Reads w x.r.2 (x.r.1.ins.map str)
theorem LnIn.below0 {w w' : World} {x : Ln} (h : LnIn w x) (hb : Below w.heap.size w w') : LnIn w' x := ⟨h.1.below0 hb, h.2.below0 hb⟩
theorem join_sum (l : List (List UInt8)) : (Lib.join l [32]).length ≤ (l.map List.length).sum + l.length := by
  cases l with
  | nil => simp [Lib.join, List.intercalate]
  | cons a l =>
    have h : Lib.lens (a :: l) = ((a :: l).map List.length).sum := rfl
    rw [Lib.join_length, h]
    simp only [List.length_cons, List.length_nil]
    omega
set_option maxHeartbeats 1000000 in
theorem longLine_any (x : Ln) (w : World) (h : LnIn w x) :
    Calls Tryz.prog 58 #[lnV x] w fun e w' => ∃ b, e = .returned (.bool b) ∧ (b = false → ShortL x) ∧ Below w.heap.size w w' := by
  obtain ⟨wd, P, pv, tx, ⟨⟨o, kd, rw', ins⟩, rv⟩⟩ := x
  obtain ⟨hp, hi⟩ := h
  simp only [lnV] at hp hi ⊢
  obtain ⟨ap, cp, hpv, -, -⟩ := id hp
  obtain ⟨ar, cr, hrv, -, -⟩ := id hi
  rw [List.length_map] at hpv hrv
  subst hpv hrv
  obtain ⟨W1, hW1⟩ : ∃ W, w.alloc (.cells #[str wd, .slice ap P.length cp, str tx, str o, str kd, str rw', .slice ar ins.length cr] 108) = W := ⟨_, rfl⟩
  have hA1 : Below w.heap.size w W1 := hW1 ▸ (Below.refl _ w).alloc (Nat.le_refl _) _
  have hz1 : W1.heap.size = w.heap.size + 1 := by rw [← hW1]; simp
  have hcl : ∀ k, W1.cell? ⟨w.heap.size, k, none⟩ = (#[str wd, .slice ap P.length cp, str tx, str o, str kd, str rw', .slice ar ins.length cr] : Array Value)[k]? := fun k => by
    rw [← hW1, cell_of_heap (heap_alloc_here w _)]
  obtain ⟨W2, hW2⟩ : ∃ W, W1.alloc (.cells #[str o, str kd, str rw', .slice ar ins.length cr] 35) = W := ⟨_, rfl⟩
  have hA2 : Below W1.heap.size W1 W2 := hW2 ▸ (Below.refl _ W1).alloc (Nat.le_refl _) _
  have hrow2 : W2.ownsRow W1.heap.size 35 4 (.slice (some ⟨W1.heap.size, 0, none⟩) 1 1) 1 (([((⟨o, kd, rw', ins⟩ : RuleL), Value.slice ar ins.length cr)] : List RV).map rvRow).flatten := row_laid (hW2 ▸ heap_alloc_here W1 _) rfl (by omega) (Nat.le_refl _)
  have hB2 : Below w.heap.size w W2 := hA1.trans (hA2.mono hA1.size)
  have KT := Hd (longTexts_any _ P 6 300 W2 (hp.below0 hB2) (by decide) (by decide))
  have KR := Hd (longRules_any [((⟨o, kd, rw', ins⟩ : RuleL), Value.slice ar ins.length cr)] _ 1 W2 (ownsRow_readsK hrow2 rfl (fun r hr => by simp only [List.map_cons, List.map_nil, List.mem_singleton] at hr; subst hr; rfl)) (fun x hx => by rw [List.mem_singleton.1 hx]; exact hi.below0 hB2) (by decide))
  have k0 : W1.cell? ⟨w.heap.size, 0, none⟩ = some (str wd) := hcl 0
  have k1 : W1.cell? ⟨w.heap.size, 1, none⟩ = some (.slice ap P.length cp) := hcl 1
  have k2 : W1.cell? ⟨w.heap.size, 2, none⟩ = some (str tx) := hcl 2
  have k3 : W1.cell? ⟨w.heap.size, 3, none⟩ = some (str o) := hcl 3
  have k4 : W1.cell? ⟨w.heap.size, 4, none⟩ = some (str kd) := hcl 4
  have k5 : W1.cell? ⟨w.heap.size, 5, none⟩ = some (str rw') := hcl 5
  have k6 : W1.cell? ⟨w.heap.size, 6, none⟩ = some (.slice ar ins.length cr) := hcl 6
  have hlt : w.heap.size < W1.heap.size := by omega
  have q0 : W2.cell? ⟨w.heap.size, 0, none⟩ = some (str wd) := (hA2.cell (p := ⟨w.heap.size, 0, none⟩) hlt).trans k0
  have q1 : W2.cell? ⟨w.heap.size, 1, none⟩ = some (.slice ap P.length cp) := (hA2.cell (p := ⟨w.heap.size, 1, none⟩) hlt).trans k1
  have q2 : W2.cell? ⟨w.heap.size, 2, none⟩ = some (str tx) := (hA2.cell (p := ⟨w.heap.size, 2, none⟩) hlt).trans k2
  have HB2 := Hd hB2
  clear hp hi hA1 hA2 hrow2 hB2 hcl hz1 hlt
  by_cases h60 : 60 < wd.length
  · have d1 : ((wd.length : Int) > 60) = True := eq_true (by omega)
    have d2 : (60 < (wd.length : Int)) = True := eq_true (by omega)
    clear h60
    go_enter Tryz.func58, Tryz.ntmps58
    go_wp2
    go_ret
    exact ⟨true, rfl, (fun h => by cases h), HB2.out⟩
  have d1 : ((wd.length : Int) > 60) = False := eq_false (by omega)
  have d2 : (60 < (wd.length : Int)) = False := eq_false (by omega)
  have HD : Hid (wd.length ≤ 60) := Hd (by omega)
  clear h60
  by_cases h300 : 300 < tx.length
  · have d3 : ((tx.length : Int) > 300) = True := eq_true (by omega)
    have d4 : (300 < (tx.length : Int)) = True := eq_true (by omega)
    clear h300
    go_enter Tryz.func58, Tryz.ntmps58
    go_wp2
    go_ret
    exact ⟨true, rfl, (fun h => by cases h), HB2.out⟩
  have d3 : ((tx.length : Int) > 300) = False := eq_false (by omega)
  have d4 : (300 < (tx.length : Int)) = False := eq_false (by omega)
  have HX : Hid (tx.length ≤ 300) := Hd (by omega)
  clear h300
  go_enter Tryz.func58, Tryz.ntmps58
  go_wp2_with fail
  refine KT.out.mono ?_
  rintro e w3 ⟨rfl, rfl | ⟨rfl, hf⟩⟩
  · go_wp2_with fail
    refine KR.out.mono ?_
    rintro e w3 ⟨rfl, rfl | ⟨rfl, -⟩⟩
    all_goals
      go_wp2
      go_ret
      exact ⟨true, rfl, (fun h => by cases h), HB2.out⟩
  · have HF := Hd hf
    clear hf
    go_wp2_with fail
    refine KR.out.mono ?_
    rintro e w3 ⟨rfl, rfl | ⟨rfl, hr⟩⟩
    · go_wp2
      go_ret
      exact ⟨true, rfl, (fun h => by cases h), HB2.out⟩
    · have HR := Hd hr
      clear hr
      go_wp2
      go_ret
      exact ⟨false, rfl, fun _ => ⟨HD.out, HX.out, HF.out, HR.out.2 _ (List.mem_singleton.2 rfl)⟩, HB2.out⟩
end Go.Proofs.YtgjialbmlhbngaaGreatDoor
