/-
  The law CacheNew: its walk.
-/
import Derived.Test.YtklcamhplhepfaaDoorCacheNew
namespace Go.Proofs.YtklcamhplhepfaaDoor
open Go Go.RowKit Go.Kf

theorem putKeys_again (many : Nat) (x : List UInt8) (K : List (List UInt8)) : putKeys many x (without x K ++ [x]) = putKeys many x K := by
  unfold putKeys
  rw [without_snoc]
theorem putMapL_again (many : Nat) (x b : List UInt8) (K : List (List UInt8)) (M : List (List UInt8 × List UInt8)) : putMapL many x b (without x K ++ [x]) M = putMapL many x b K M := by
  unfold putMapL
  rw [without_snoc]

/-- An element's address is known: what lies there, in a later world. -/
theorem reads_again {P : Program} {T E : TypeId} (hT : P.underlying T = some (.slice E)) (hE : (P.info? E).map (·.size) = some 1) {w : World} {a : Option Addr} {n cap : Nat} {l : List (List UInt8)}
    (h : Reads w (.slice a n cap) (l.map str)) {i b o : Nat} (hi : i < l.length) (hix : ∀ w', (Instr.indexAt T (.slice a n cap) (.int .i64 i)).run P w' = .ok (.pointer (some ⟨b, o, none⟩)) w') : w.cell? ⟨b, o, none⟩ = some (str l[i]) := by
  obtain ⟨b', o', hix', hce'⟩ := h.at hT hE i (by simpa using hi)
  have e := (hix w).symm.trans (hix' w)
  cases e
  simpa using hce'
theorem recent_le : ∀ l : List (List UInt8), (recent l).length ≤ l.length
  | [] => Nat.le_refl _
  | x :: l => by
    unfold recent
    have := recent_le l
    by_cases h : x ∈ l <;> simp [h] <;> omega
/-- Another row has been written, or new blocks laid. -/
theorem St.grown {B : Nat} {w0 w w' : World} {pb mb : Nat} {lv lastv bytesv : Value} {many : Nat} {K : List (List UInt8)} {M : List (List UInt8 × List UInt8)} {L Bs : List (List UInt8)} (h : St B w0 w pb mb lv lastv bytesv many K M L Bs) (hB : B ≤ w.heap.size) {row : Option Nat}
    (hg : w.grownBy w' row) (hr : ∀ k, row = some k → ¬ foot pb mb lv k ∧ lastv.ownBlock ≠ some k ∧ bytesv.ownBlock ≠ some k ∧ B ≤ k) : St B w0 w' pb mb lv lastv bytesv many K M L Bs := by
  have hf := Fr.of_grown hg
  exact ⟨h.c.of_fr hf (fun k hk hs => (hr k hs).1 hk), ownsRow_fr h.last hf (fun k hk => ⟨(h.last.lt k hk).2, fun e => (hr k e).2.1 hk⟩), ownsRow_fr h.bytes hf (fun k hk => ⟨(h.bytes.lt k hk).2, fun e => (hr k e).2.2.1 hk⟩),
    h.ff, h.s1, h.s2, h.s3, h.b.grown hg hB (fun k hk => (hr k hk).2.2.2)⟩

/-- Index: where a text first stands. -/
def idx (l : List (List UInt8)) (s : List UInt8) : Int := if s ∈ l then (l.idxOf s : Int) else -1
theorem idx_lt {l : List (List UInt8)} {s : List UInt8} (h : s ∉ l) : idx l s = -1 := if_neg h
theorem idx_ge {l : List (List UInt8)} {s : List UInt8} (h : s ∈ l) : 0 ≤ idx l s := by rw [idx, if_pos h]; omega

theorem idxOf_at {s : List UInt8} : ∀ {l : List (List UInt8)} {k : Nat} (h : k < l.length), l[k] = s → s ∉ l.take k → l.idxOf s = k
  | x :: l, 0, _, he, _ => by
    have he' : x = s := he
    subst he'
    simp [List.idxOf, List.findIdx_cons]
  | x :: l, k + 1, h, he, hno => by
    have he' : l[k]'(by simpa using h) = s := he
    rw [List.take_succ_cons, List.mem_cons, not_or] at hno
    have hx : ¬ x = s := fun e => hno.1 e.symm
    have hb : (x == s) = false := by simpa using hx
    rw [List.idxOf_cons, idxOf_at (by simpa using h) he' hno.2, hb]
    rfl
theorem idx_at {s : List UInt8} {l : List (List UInt8)} {k : Nat} (h : k < l.length) (he : l[k] = s) (hno : s ∉ l.take k) : idx l s = k := by
  rw [idx, if_pos (by rw [← he]; exact List.getElem_mem h), idxOf_at h he hno]

set_option maxRecDepth 100000 in
theorem index_any (v : Value) (l : List (List UInt8)) (s : List UInt8) (w : World) (hr : Reads w v (l.map str)) :
    Calls Tryd.prog 16 #[v, str s] w fun e w' => e = .returned (.int .i64 (idx l s)) ∧ w = w' := by
  have hle := hr.le
  have hr' := hr
  obtain ⟨a, cap, rfl, -, -⟩ := hr'
  simp only [List.length_map] at *
  go_enter Tryd.func16, Tryd.ntmps16
  go_wp2
  go_loop [5] (fun i => ∃ k : Nat, k ≤ l.length ∧ s ∉ l.take k ∧ i = .int .i64 k) (fun i => l.length - (intOf i).toNat)
  case atStart => exact ⟨0, by omega, by simp, rfl⟩
  case round =>
    obtain ⟨k, hkl, hno, rfl⟩ := hrel
    by_cases hlt : k < l.length
    · obtain ⟨b, o, hix, hce⟩ := hr.at Tryd.underlying29 (by kernel_rfl) k (by simpa using hlt)
      simp only [List.getElem_map] at hce
      have hno' := Lib.hid hno
      clear hr hno
      by_cases he : l[k] = s
      · have hd : (l[k] == s) = true := by simpa using he
        have HE := Lib.hid he
        clear he
        go_wp2
        go_ret
        exact ⟨by show Ending.returned (.int .i64 (k : Int)) = _; rw [idx_at hlt HE.out hno'.out], rfl⟩
      · have hd : (l[k] == s) = false := by simpa using he
        have HE := Lib.hid he
        clear he
        go_wp2
        go_round
        case rel => exact ⟨k + 1, by omega, not_mem_take hlt hno'.out HE.out, by go_num⟩
        case measure => simp [intOf]; omega
    · clear hr
      go_wp2
      go_ret
      rw [List.take_of_length_le (by omega)] at hno
      exact ⟨by rw [idx_lt hno]; rfl, rfl⟩

set_option maxRecDepth 100000 in
set_option maxHeartbeats 2000000 in
theorem cacheNew_main (many : Nat) (v : Value) (asks : List AskL) (w : World) (h1 : 1 ≤ many) (h2 : many ≤ 100) (h3 : asks.length ≤ 100) (hr : ReadsK 3 w v (asks.map askRow)) :
    Calls Tryd.prog 3 #[.int .i64 many, v] w fun e w' => e = .returned (.bool true) ∧ Below w.heap.size w w' := by
  have hr' := hr
  obtain ⟨a, cap, rfl, -, -⟩ := hr'
  simp only [List.length_map] at *
  go_enter Tryd.func3, Tryd.ntmps3
  go_wp2_with fail
  refine (cached_any w).mono ?_
  rintro e w1 ⟨rfl, hb1⟩
  go_wp2_with fail
  refine (new_ok many w1 h1 h2).mono ?_
  rintro e w2 ⟨pb, mb, rfl, hpb, hmb, hC2, hb2⟩
  have hs1 := hb1.size
  have hst : St w.heap.size w w2 pb mb (.slice none 0 0) (.slice none 0 0) (.slice none 0 0) many [] [] [] [] :=
    ⟨hC2, World.ownsRow_nil _ _ _ _, World.ownsRow_nil _ _ _ _, ⟨by omega, by omega, fun k hk => (by cases hk)⟩, (fun k hk => (by cases hk)), (fun k hk => (by cases hk)), (fun k hk => (by cases hk)), hb1.trans (hb2.mono hs1)⟩
  clear hC2 hb2 hb1
  have hinv := Inv.init many
  have hm1 : ((many : Int) < 1) = False := by simp; omega
  go_wp2_with fail
  go_loopw [8, 9, 10] (fun lastv bytesv iv wr => ∃ (i : Nat) (lv : Value) (K : List (List UInt8)) (M : List (List UInt8 × List UInt8)) (L Bs : List (List UInt8)), iv = .int .i64 i ∧ i ≤ asks.length ∧ L.length ≤ i ∧ Inv many K M L Bs ∧
      St w.heap.size w wr pb mb lv lastv bytesv many K M L Bs) (fun _ _ iv _ => asks.length - (intOf iv).toNat)
  case atStart => exact ⟨0, _, [], [], [], [], rfl, by omega, by simp, hinv, hst⟩
  case round =>
    obtain ⟨i, lv, K, M, L, Bs, rfl, hi, hLi, hinv, hst⟩ := hrel
    by_cases hlt : i < asks.length
    · obtain ⟨b, o, hix, ha, hce⟩ := hr.at Tryd.underlying22 (by kernel_rfl) i (by simpa using hlt)
      have hbw : b < w.heap.size := lt_of_cell (hce 0 _ (by simp [askRow]; rfl))
      obtain ⟨p, key, by', hask⟩ : ∃ p key by', asks[i] = (p, key, by') := ⟨_, _, _, rfl⟩
      have k0 : wr.cell? ⟨b, o, none⟩ = some (.bool p) := (hst.b.cell (p := ⟨b, o, none⟩) hbw).trans (hce 0 _ (by simp [hask, askRow]))
      have k1 : wr.cell? ⟨b, o + 1, none⟩ = some (str key) := (hst.b.cell (p := ⟨b, o + 1, none⟩) hbw).trans (hce 1 _ (by simp [hask, askRow]))
      have k2 : wr.cell? ⟨b, o + 2, none⟩ = some (str by') := (hst.b.cell (p := ⟨b, o + 2, none⟩) hbw).trans (hce 2 _ (by simp [hask, askRow]))
      clear hce hask ha
      have hB := hst.b.size
      by_cases hbad : 100 < key.length ∨ 100 < by'.length
      · rcases hbad with hbad | hbad
        · go_wp2_with fail
          go_ret
          exact ⟨rfl, hst.b.alloc hB _⟩
        · by_cases hbad2 : 100 < key.length
          · go_wp2_with fail
            go_ret
            exact ⟨rfl, hst.b.alloc hB _⟩
          · go_wp2_with fail
            go_ret
            exact ⟨rfl, hst.b.alloc hB _⟩
      obtain ⟨hg1, hg2⟩ : key.length ≤ 100 ∧ by'.length ≤ 100 := by omega
      clear hbad
      have hKle := hinv.le
      have hst0 := hst.alloc hB (.cells #[.bool p, str key, str by'] 31)
      have hA0 := heap_alloc_here wr (.cells #[.bool p, str key, str by'] 31)
      go_wp2_with fail
      refine (get_any pb mb lv many K M key _ hst0.c (by omega)).mono ?_
      rintro e w3 ⟨rfl, lv3, hC3, hF3, hl3⟩
      have hst3 := hst0.step (by simp; omega) hC3 hF3 hl3
      have hA3 : w3.heap[wr.heap.size]? = some (.cells #[.bool p, str key, str by'] 31 (0, 0)) :=
        (hF3.block _ (by simp) (fun hf => Nat.lt_irrefl _ (hst.c.foot_lt _ hf))).trans hA0
      have hnf3 : ¬ foot pb mb lv3 wr.heap.size := by
        have hlt' := hst.c.foot_lt
        rintro (h | h | h)
        · have := hlt' pb (Or.inl rfl); omega
        · have := hlt' mb (Or.inr (Or.inl rfl)); omega
        · rcases hl3 _ h with h' | h'
          · have := hlt' _ (Or.inr (Or.inr h')); omega
          · simp at h'; omega
      clear hC3 hF3 hl3 hst0 hA0 k0 k1 k2 hst
      have j0 : w3.cell? ⟨wr.heap.size, 0, none⟩ = some (.bool p) := by rw [cell_of_heap hA3]; rfl
      have j1 : w3.cell? ⟨wr.heap.size, 1, none⟩ = some (str key) := by rw [cell_of_heap hA3]; rfl
      have j2 : w3.cell? ⟨wr.heap.size, 2, none⟩ = some (str by') := by rw [cell_of_heap hA3]; rfl
      have HA := Lib.hid hA3
      clear hA3
      cases hlk : mlook key M with
      | none =>
        rw [hlk] at hst3
        simp only [Option.isSome_none, Bool.false_eq_true, if_false, Option.getD_none] at hst3 ⊢
        cases p with
        | false =>
          have HST := Lib.hid hst3
          have HI := Lib.hid hinv
          clear hst3 hinv
          go_wp2_with fail
          go_roundw
          case rel => exact ⟨i + 1, lv3, K, M, L, Bs, by go_num, by omega, by omega, HI.out, HST.out⟩
          case measure => simp [intOf]; omega
        | true =>
          have hB3 := hst3.b.size
          go_wp2_with fail
          refine (put_any pb mb lv3 many K M key by' w3 hst3.c (by omega)).mono ?_
          rintro e w4 ⟨rfl, lv4, hC4, hF4, hl4⟩
          have hst4 := hst3.step hB3 hC4 hF4 hl4
          have hsz3 := lt_of_heap HA.out
          have hA4 : w4.heap[wr.heap.size]? = some (.cells #[.bool true, str key, str by'] 31 (0, 0)) :=
            (hF4.block _ hsz3 hnf3).trans HA.out
          clear hC4 hF4 hl4 hst3 j0 j1 j2
          have j1 : w4.cell? ⟨wr.heap.size, 1, none⟩ = some (str key) := by rw [cell_of_heap hA4]; rfl
          have j2 : w4.cell? ⟨wr.heap.size, 2, none⟩ = some (str by') := by rw [cell_of_heap hA4]; rfl
          have hinv4 := hinv.put h1 key by'
          have hKle4 := hinv4.le
          have hLB : Bs.length = L.length := hinv.len
          have HI := Lib.hid hinv4
          have HNF := Lib.hid hnf3
          have HLB := Lib.hid hLB
          have HST := Lib.hid hst4
          have hB4 := hst4.b.size
          clear hA4 hinv hinv4 hnf3 hLB hst4 hlk
          go_wp2_with (first
            | (at_builtin
               refine wpList_app _ rfl (.tmp 90) (.tmp 93) 29 rfl tyStrs w.heap.size u8 L.length (L.map str) rfl (HST.out.last.alloc _) ⟨w4.heap.size, 0, none⟩ 1 1 [str key] rfl rfl (news_one ?_) ?_ (by decide) ?_ ?_ ?_
               · simp [go_sem]
               · intro u hu; simp at hu; subst hu; rfl
               · omega
               · simp; omega
               intro v5 w5 ho5 hg5 hloc5
               have hst5 := (HST.out.alloc hB4 _).app1 (by simp; omega) ho5 hg5 hloc5
               have HST5 := Lib.hid hst5
               have hB5 := hst5.b.size
               clear hst5 ho5 hg5 hloc5 j1 j2)
            | (at_builtin
               refine wpList_app _ rfl (.tmp 95) (.tmp 97) 29 rfl tyStrs w.heap.size u9 Bs.length (Bs.map str) rfl (HST5.out.bytes.alloc _) ⟨w5.heap.size, 0, none⟩ 1 1 [str by'] rfl rfl (news_one ?_) ?_ (by decide) ?_ ?_ ?_
               · simp [go_sem]
               · intro u hu; simp at hu; subst hu; rfl
               · have := HLB.out; omega
               · simp; omega
               intro v6 w6 ho6 hg6 hloc6
               have hst6 := (HST5.out.alloc hB5 _).app2 (by simp; omega) ho6 hg6 hloc6
               have HST6 := Lib.hid hst6
               clear hst6 ho6 hg6 hloc6)
            | (go_at_call 15
               refine (len_any pb mb _ many _ _ _ HST6.out.c).mono ?_
               rintro e w' ⟨rfl, rfl⟩))
          go_roundw
          case rel => exact ⟨i + 1, lv4, _, _, _, _, by go_num, by omega, by simp; omega, HI.out, HST6.out⟩
          case measure => simp [intOf]; omega
      | some v3 =>
        rw [hlk] at hst3
        simp only [Option.isSome_some, if_true, Option.getD_some] at hst3 ⊢
        have hinv3 := hinv.got h1 hlk
        cases p with
        | false =>
          have hinv4 := hinv3
          have hst4 := hst3
          clear hst3 hinv3 j0 j2
          generalize without key K ++ [key] = K3 at *
          have j0 : w3.cell? ⟨wr.heap.size, 0, none⟩ = some (.bool false) := by rw [cell_of_heap HA.out]; rfl
          have hKle4 := hinv4.le
          have hLB : Bs.length = L.length := hinv.len
          have HI := Lib.hid hinv4
          have HNF := Lib.hid hnf3
          have HLB := Lib.hid hLB
          have HST := Lib.hid hst4
          have hB4 := hst4.b.size
          clear hinv hinv4 hnf3 hLB hst4 hlk
          go_wp2_with (first
            | (at_builtin
               refine wpList_app _ rfl (.tmp 90) (.tmp 93) 29 rfl tyStrs w.heap.size u8 L.length (L.map str) rfl (HST.out.last.alloc _) ⟨w3.heap.size, 0, none⟩ 1 1 [str key] rfl rfl (news_one ?_) ?_ (by decide) ?_ ?_ ?_
               · simp [go_sem]
               · intro u hu; simp at hu; subst hu; rfl
               · omega
               · simp; omega
               intro v5 w5 ho5 hg5 hloc5
               have hst5 := (HST.out.alloc hB4 _).app1 (by simp; omega) ho5 hg5 hloc5
               have HST5 := Lib.hid hst5
               have hB5 := hst5.b.size
               clear hst5 ho5 hg5 hloc5 j0 j1)
            | (at_builtin
               refine wpList_app _ rfl (.tmp 95) (.tmp 97) 29 rfl tyStrs w.heap.size u9 Bs.length (Bs.map str) rfl (HST5.out.bytes.alloc _) ⟨w5.heap.size, 0, none⟩ 1 1 [str v3] rfl rfl (news_one ?_) ?_ (by decide) ?_ ?_ ?_
               · simp [go_sem]
               · intro u hu; simp at hu; subst hu; rfl
               · have := HLB.out; omega
               · simp; omega
               intro v6 w6 ho6 hg6 hloc6
               have hst6 := (HST5.out.alloc hB5 _).app2 (by simp; omega) ho6 hg6 hloc6
               have HST6 := Lib.hid hst6
               clear hst6 ho6 hg6 hloc6)
            | (go_at_call 15
               refine (len_any pb mb _ many _ _ _ HST6.out.c).mono ?_
               rintro e w' ⟨rfl, rfl⟩))
          go_roundw
          case rel => exact ⟨i + 1, lv3, _, _, _, _, by go_num, by omega, by simp; omega, HI.out, HST6.out⟩
          case measure => simp [intOf]; omega
        | true =>
          have hB3 := hst3.b.size
          go_wp2_with fail
          refine (put_any pb mb lv3 many _ M key by' w3 hst3.c (by have := hinv3.le; omega)).mono ?_
          rintro e w4 ⟨rfl, lv4, hC4, hF4, hl4⟩
          have hst4 := hst3.step hB3 hC4 hF4 hl4
          have hsz3 := lt_of_heap HA.out
          have hA4 : w4.heap[wr.heap.size]? = some (.cells #[.bool true, str key, str by'] 31 (0, 0)) :=
            (hF4.block _ hsz3 hnf3).trans HA.out
          clear hC4 hF4 hl4 hst3 j0 j1 j2
          have j1 : w4.cell? ⟨wr.heap.size, 1, none⟩ = some (str key) := by rw [cell_of_heap hA4]; rfl
          have j2 : w4.cell? ⟨wr.heap.size, 2, none⟩ = some (str by') := by rw [cell_of_heap hA4]; rfl
          have hinv4 := hinv.put h1 key by'
          rw [putKeys_again, putMapL_again] at hst4
          have hKle4 := hinv4.le
          have hLB : Bs.length = L.length := hinv.len
          have HI := Lib.hid hinv4
          have HNF := Lib.hid hnf3
          have HLB := Lib.hid hLB
          have HST := Lib.hid hst4
          have hB4 := hst4.b.size
          clear hA4 hinv hinv4 hnf3 hLB hst4 hlk
          go_wp2_with (first
            | (at_builtin
               refine wpList_app _ rfl (.tmp 90) (.tmp 93) 29 rfl tyStrs w.heap.size u8 L.length (L.map str) rfl (HST.out.last.alloc _) ⟨w4.heap.size, 0, none⟩ 1 1 [str key] rfl rfl (news_one ?_) ?_ (by decide) ?_ ?_ ?_
               · simp [go_sem]
               · intro u hu; simp at hu; subst hu; rfl
               · omega
               · simp; omega
               intro v5 w5 ho5 hg5 hloc5
               have hst5 := (HST.out.alloc hB4 _).app1 (by simp; omega) ho5 hg5 hloc5
               have HST5 := Lib.hid hst5
               have hB5 := hst5.b.size
               clear hst5 ho5 hg5 hloc5 j1 j2)
            | (at_builtin
               refine wpList_app _ rfl (.tmp 95) (.tmp 97) 29 rfl tyStrs w.heap.size u9 Bs.length (Bs.map str) rfl (HST5.out.bytes.alloc _) ⟨w5.heap.size, 0, none⟩ 1 1 [str by'] rfl rfl (news_one ?_) ?_ (by decide) ?_ ?_ ?_
               · simp [go_sem]
               · intro u hu; simp at hu; subst hu; rfl
               · have := HLB.out; omega
               · simp; omega
               intro v6 w6 ho6 hg6 hloc6
               have hst6 := (HST5.out.alloc hB5 _).app2 (by simp; omega) ho6 hg6 hloc6
               have HST6 := Lib.hid hst6
               clear hst6 ho6 hg6 hloc6)
            | (go_at_call 15
               refine (len_any pb mb _ many _ _ _ HST6.out.c).mono ?_
               rintro e w' ⟨rfl, rfl⟩))
          go_roundw
          case rel => exact ⟨i + 1, lv4, _, _, _, _, by go_num, by omega, by simp; omega, HI.out, HST6.out⟩
          case measure => simp [intOf]; omega
    · have hLB : Bs.length = L.length := hinv.len
      have hkeep := hinv.keeps
      obtain ⟨a8, cap8, e8, -, -⟩ := ownsRow_reads hst.last
      obtain ⟨a9, cap9, e9, -, -⟩ := ownsRow_reads hst.bytes
      rw [List.length_map] at e8 e9
      subst e8 e9
      have HI := Lib.hid hinv
      have HST := Lib.hid hst
      have HK := Lib.hid hkeep
      have HLB := Lib.hid hLB
      have hLle : L.length ≤ 100 := by omega
      clear hinv hst hkeep hLB hr hLi
      go_wp2_with fail
      go_loopw [14, 15] (fun seenv iv wr => ∃ (j : Nat) (lv : Value) (K : List (List UInt8)), iv = .int .i64 ((j : Int) - 1) ∧ j ≤ L.length ∧ Keeps many K M ∧
          St w.heap.size w wr pb mb lv (.slice a8 L.length cap8) (.slice a9 Bs.length cap9) many K M L Bs ∧ wr.ownsRow w.heap.size 9 1 seenv (recent (L.drop j)).length ((recent (L.drop j)).map str) ∧
          (∀ k, seenv.ownBlock = some k → ¬ foot pb mb lv k ∧ (Value.slice a8 L.length cap8).ownBlock ≠ some k ∧ (Value.slice a9 Bs.length cap9).ownBlock ≠ some k)) (fun _ iv _ => (intOf iv + 1).toNat)
      case atStart =>
        refine ⟨L.length, lv, K, rfl, Nat.le_refl _, HK.out, HST.out, ?_, fun k hk => (by cases hk)⟩
        rw [List.drop_length]
        exact World.ownsRow_nil _ _ _ _
      case round =>
        obtain ⟨j, lv5, K5, rfl, hj, hkeep, hst, hseen, hsep⟩ := hrel
        have hB := hst.b.size
        have hrl : (recent (L.drop j)).length ≤ 100 := Nat.le_trans (recent_le _) (by simp; omega)
        rcases j with _ | j
        · obtain ⟨a7, cap7, e7, -, -⟩ := ownsRow_reads hseen
          rw [List.length_map] at e7
          subst e7
          have e0 : (((0 : Nat) : Int) - 1) = -1 := rfl
          rw [e0]
          have hb := hst.b
          clear hst hseen hsep hkeep
          go_wp2_with fail
          go_ret
          exact ⟨rfl, hb⟩
        · have e0 : (((j + 1 : Nat) : Int) - 1) = (j : Int) := by omega
          rw [e0]
          have hjl : j < L.length := by omega
          obtain ⟨a7, cap7, e7, -, -⟩ := ownsRow_reads hseen
          rw [List.length_map] at e7
          subst e7
          by_cases hroom : (recent (L.drop (j + 1))).length < many
          · obtain ⟨b8, o8, hix8, hce8⟩ := (ownsRow_reads hst.last).at Tryd.underlying29 (by kernel_rfl) j (by simpa using hjl)
            simp only [List.getElem_map] at hce8
            by_cases hin : L[j] ∈ recent (L.drop (j + 1))
            · have hge := idx_ge hin
              have hrec : recent (L.drop j) = recent (L.drop (j + 1)) := by
                rw [List.drop_eq_getElem_cons hjl, recent, if_pos (mem_recent.1 hin), List.append_nil]
              have hI := index_any _ (recent (L.drop (j + 1))) L[j] wr (ownsRow_reads hseen)
              have HST := Lib.hid hst
              have HK := Lib.hid hkeep
              have HS := Lib.hid hseen
              have HSEP := Lib.hid hsep
              have HREC := Lib.hid hrec
              clear hst hseen hsep hkeep hin hrec
              go_wp2_with (go_at_call 16; refine hI.mono ?_; clear hI; rintro e w' ⟨rfl, rfl⟩)
              go_roundw
              case rel =>
                refine ⟨j, lv5, K5, rfl, by omega, HK.out, HST.out, ?_, HSEP.out⟩
                rw [HREC.out]
                exact HS.out
              case measure => simp [intOf]
            · have hidx := idx_lt hin
              have hno : L[j] ∉ L.drop (j + 1) := fun e => hin (mem_recent.2 e)
              have hrec : recent (L.drop j) = recent (L.drop (j + 1)) ++ [L[j]] := by
                rw [List.drop_eq_getElem_cons hjl, recent, if_neg hno]
              have hI := index_any _ (recent (L.drop (j + 1))) L[j] wr (ownsRow_reads hseen)
              rw [hidx] at hI
              have hjb : j < Bs.length := by have := HLB.out; omega
              have hlk := HI.out.there j hjl hno hroom
              rw [List.getElem?_eq_getElem hjb] at hlk
              obtain ⟨b9, o9, hix9, -⟩ := (ownsRow_reads hst.bytes).at Tryd.underlying29 (by kernel_rfl) j (by simpa using hjb)
              have HST := Lib.hid hst
              have HK := Lib.hid hkeep
              have HS := Lib.hid hseen
              have HSEP := Lib.hid hsep
              have HREC := Lib.hid hrec
              have HLK := Lib.hid hlk
              clear hst hseen hsep hkeep hin hrec hlk hidx hno
              go_wp2_with (first
                | (go_at_call 16; refine hI.mono ?_; clear hI; rintro e w' ⟨rfl, rfl⟩)
                | (at_builtin
                   refine wpList_app _ rfl (.tmp 123) (.tmp 128) 29 rfl tyStrs w.heap.size (.slice a7 (recent (L.drop (j + 1))).length cap7) _ _ rfl (HS.out.alloc _) ⟨wr.heap.size, 0, none⟩ 1 1 [str L[j]] rfl rfl (news_one ?_) ?_ (by decide) ?_ ?_ ?_
                   · simp [go_sem]
                   · intro u hu; simp at hu; subst hu; rfl
                   · omega
                   · simp; omega
                   intro v6 w6 ho6 hg6 hloc6
                   have hst6 := (HST.out.alloc hB (.cells #[str L[j]] 9)).grown (by simp; omega) hg6 (fun k hk => ⟨(HSEP.out k hk).1, (HSEP.out k hk).2.1, (HSEP.out k hk).2.2, (HS.out.lt k hk).1⟩)
                   have hce6 : w6.cell? ⟨b8, o8, none⟩ = some (str L[j]) := reads_again Tryd.underlying29 (by kernel_rfl) (ownsRow_reads hst6.last) hjl hix8
                   have HO6 := Lib.hid ho6
                   have HST6 := Lib.hid hst6
                   have HLOC6 := Lib.hid hloc6
                   clear ho6 hg6 hloc6 hce8 hst6))
              have hst6 := HST6.out
              have hsep6 : ∀ k, v6.ownBlock = some k → ¬ foot pb mb lv5 k ∧ (Value.slice a8 L.length cap8).ownBlock ≠ some k ∧ (Value.slice a9 Bs.length cap9).ownBlock ≠ some k := by
                intro k hk
                rcases HLOC6.out with e | e
                · exact HSEP.out k (e ▸ hk)
                · rw [e] at hk
                  cases hk
                  refine ⟨fun hf => ?_, fun he => ?_, fun he => ?_⟩
                  · have := HST.out.c.foot_lt _ hf; simp at this; omega
                  · have := (HST.out.last.lt _ he).2; simp at this; omega
                  · have := (HST.out.bytes.lt _ he).2; simp at this; omega
              refine (get_any pb mb lv5 many K5 M L[j] w6 hst6.c (by have := HK.out.le; omega)).mono ?_
              rintro e w7 ⟨rfl, lv7, hC7, hF7, hl7⟩
              have hst7 := hst6.step hst6.b.size hC7 hF7 hl7
              have hseen7 := ownsRow_fr HO6.out hF7 (fun k hk => ⟨(HO6.out.lt k hk).2, (hsep6 k hk).1⟩)
              have hsep7 : ∀ k, v6.ownBlock = some k → ¬ foot pb mb lv7 k ∧ (Value.slice a8 L.length cap8).ownBlock ≠ some k ∧ (Value.slice a9 Bs.length cap9).ownBlock ≠ some k := by
                intro k hk
                refine ⟨?_, (hsep6 k hk).2⟩
                have h6 := (hsep6 k hk).1
                rintro (rfl | rfl | h')
                · exact h6 (Or.inl rfl)
                · exact h6 (Or.inr (Or.inl rfl))
                · rcases hl7 k h' with h2 | h2
                  · exact h6 (Or.inr (Or.inr h2))
                  · have := (HO6.out.lt k hk).2; omega
              have hkeep7 := HK.out.got L[j]
              have hce9 : w7.cell? ⟨b9, o9, none⟩ = some (str Bs[j]) := reads_again Tryd.underlying29 (by kernel_rfl) (ownsRow_reads hst7.bytes) hjb hix9
              rw [HLK.out] at hC7 hst7 hkeep7 ⊢
              simp only [Option.isSome_some, if_true, Option.getD_some] at hC7 hst7 hkeep7 ⊢
              have HST7 := Lib.hid hst7
              have HS7 := Lib.hid hseen7
              have HSEP7 := Lib.hid hsep7
              have HK7 := Lib.hid hkeep7
              clear hst7 hseen7 hsep7 hkeep7 hC7 hF7 hl7 hst6 hsep6 HST6 hce6 HLOC6 HO6 HST HS HSEP HK
              go_wp2_with fail
              go_roundw
              case rel =>
                refine ⟨j, lv7, _, rfl, by omega, HK7.out, HST7.out, ?_, HSEP7.out⟩
                rw [HREC.out, List.map_append, List.length_append]
                exact HS7.out
              case measure => simp [intOf]
          · have hb := hst.b
            clear hst hseen hsep hkeep
            go_wp2_with fail
            go_ret
            exact ⟨rfl, hb⟩

set_option maxRecDepth 100000 in
set_option maxHeartbeats 1000000 in
/-- The law, whatever it is given. -/
theorem cacheNew_all (n : Int) (v : Value) (asks : List AskL) (w : World) (hr : ReadsK 3 w v (asks.map askRow)) :
    Calls Tryd.prog 3 #[.int .i64 n, v] w fun e w' => e = .returned (.bool true) ∧ Below w.heap.size w w' := by
  by_cases h1 : n < 1
  · go_enter Tryd.func3, Tryd.ntmps3
    go_wp2_with (go_at_call 11; refine (cached_any w).mono ?_; rintro e w1 ⟨rfl, hb1⟩)
    go_ret
    exact ⟨rfl, hb1⟩
  by_cases h2 : 100 < n
  · go_enter Tryd.func3, Tryd.ntmps3
    go_wp2_with (go_at_call 11; refine (cached_any w).mono ?_; rintro e w1 ⟨rfl, hb1⟩)
    go_ret
    exact ⟨rfl, hb1⟩
  obtain ⟨many, rfl⟩ := Int.eq_ofNat_of_zero_le (show 0 ≤ n by omega)
  by_cases h3 : 100 < asks.length
  · have hle := hr.le
    obtain ⟨a, cap, rfl, -, -⟩ := hr
    simp only [List.length_map] at *
    go_enter Tryd.func3, Tryd.ntmps3
    go_wp2_with (go_at_call 11; refine (cached_any w).mono ?_; rintro e w1 ⟨rfl, hb1⟩)
    go_ret
    exact ⟨rfl, hb1⟩
  exact cacheNew_main many v asks w (by omega) (by omega) (by omega) hr
end Go.Proofs.YtklcamhplhepfaaDoor
