/-
  A yard: Sheet: rules of its own. Rules as text, in plain Lean: a quoted word, a line, lines. Texts cut, split, replaced, as a script needs them.
-/
import Derived.Test.YtgjialbmlhbngaaGreatDoorYdB
import Derived.Test.YtgjialbmlhbngaaGreatDoorPkF
import Derived.Test.YtgjialbmlhbngaaGreatDoorPkA
import Derived.Lib.IndexMore
import Derived.Test.YtgjialbmlhbngaaGreatDoorPkD
import Derived.Test.YtgjialbmlhbngaaGreatDoorPkB

set_option maxRecDepth 100000
namespace Go.Proofs.YtgjialbmlhbngaaGreatDoor
open Go Go.RowKit Go.Kf Go.Sort Go.Proofs
set_option maxHeartbeats 4000000 in
theorem ysheet_any {B : Nat} {Y : YPl} {vl lv : Value} {R : List RV} {m mo : List Ent} {c : CS} (w : World) (h : YAt B Y vl lv R m mo c w) (hb : ∀ x ∈ R, x.1.ins.length ≤ 1000) (hn : R.length ≤ 1000) :
    Calls Tryz.prog 179 #[ptrV Y.yb] w fun e w' => ∃ v R', e = .returned v ∧ R'.map Prod.fst = R.map Prod.fst ∧ OwnAt w.heap.size w' v R' ∧ Below w.heap.size w w' := by
  have hR : ∀ wl, Below w.heap.size w wl → RulesAt wl vl R := fun wl hb => (h.below hb).rules.rules.1
  have HRW := Hd hR
  have HIN := Hd hb
  have HRX : Hid (∀ x ∈ R, ∃ a n c, x.2 = .slice a n c) := Hd (fun x hx => by
    obtain ⟨a, c, h1, -⟩ := ((hR w (Below.refl _ _)).2 x hx).1
    exact ⟨a, _, c, h1⟩)
  have hno : ∀ ad n c, vl = .slice (some ad) n c → ad.spot = none := fun ad n c e => by
    rcases h.rules.1.2 with ⟨h0, -⟩ | ⟨g, cap, cur, hv, -⟩
    · rw [h0] at e; cases e
    · rw [hv] at e; cases e; rfl
  have KC := Hd (cloneR_any R vl w (hR w (Below.refl _ _)).1 HRX.out hno hn)
  have hc2 : w.cell? ⟨Y.yb, 2, none⟩ = some vl := h.cells.2.2.1
  clear h hb hR hno
  go_enter Tryz.func179, Tryz.ntmps179
  go_wp2_with fail
  refine KC.out.mono ?_
  rintro e w2 ⟨vl2, rfl, hown2, hb2⟩
  have HS2 : Hid (HalfOwn w.heap.size w2 vl2 R [] 0) := Hd (HalfOwn.start hown2)
  have HB2 := Hd hb2
  clear hb2 hown2 KC hc2
  rcases HS2.out.row.2 with ⟨hv0, h0⟩ | ⟨g, cap, cur, hvg, -⟩
  · obtain rfl := List.length_eq_zero_iff.1 h0
    subst hv0
    go_wp2_with fail
    go_loopw [12] (fun iv wl => iv = .int .i64 0 ∧ wl = w2) (fun _ _ => 0)
    case atStart => exact ⟨rfl, rfl⟩
    case round =>
      obtain ⟨rfl, rfl⟩ := hrel
      go_wp2
      go_ret
      exact ⟨_, [], rfl, rfl, ⟨World.ownsRow_nil _ _ _ _, fun x hx => by cases hx⟩, HB2.out⟩
  · have HGB : Hid (w.heap.size ≤ g ∧ g < w2.heap.size) := Hd (HS2.out.row.lt g (by rw [hvg]; rfl))
    subst hvg
    go_wp2_with fail
    go_loopw [12] (fun iv wl => ∃ (i : Nat) (A : List RV), iv = .int .i64 i ∧ HalfOwn w.heap.size wl (.slice (some ⟨g, 0, none⟩) R.length cap) R A i ∧ Below w.heap.size w wl) (fun iv _ => R.length - (intOf iv).toNat)
    case atStart => exact ⟨0, [], rfl, HS2.out, HB2.out⟩
    case round =>
      obtain ⟨i, A, rfl, hho, hfr⟩ := hrel
      have HHO := Hd hho
      have HFR := Hd hfr
      have hle := hho.le
      have hzr := hfr.size
      by_cases hlt : i < R.length
      · have hlc : ((i : Int) < (R.length : Int)) = True := eq_true (by omega)
        have hix := idx_at4 g R.length cap i hlt
        have hrow := ownsRow_readsK hho.row (by simp [hho.len]; omega) (rvRow_len _)
        obtain ⟨a', c', e', -, hcs⟩ := id hrow
        have hgx : ((A ++ R.drop i).map rvRow)[i]? = some (rvRow R[i]) := by
          rw [List.getElem?_map, List.getElem?_append_right (by rw [hho.len]; omega), hho.len, Nat.sub_self, List.getElem?_drop, Nat.add_zero, List.getElem?_eq_getElem hlt]
          rfl
        obtain ⟨b', o', e2, hcj⟩ := hcs i _ hgx
        have hc4 := hcj 3 R[i].2 rfl
        simp only [Value.slice.injEq] at e'
        rw [← e'.1] at e2
        simp only [Option.some.injEq, Addr.mk.injEq] at e2
        rw [← e2.1, ← e2.2.1, Nat.zero_add] at hc4
        have hf4 : wr.frozen? ⟨g, i * 4 + 3, none⟩ = false := by
          rcases hho.row.2 with ⟨h0, -⟩ | ⟨g', cap', cur, hv, -, hh, -⟩
          · cases h0
          · cases hv
            exact free_of_heap hh _
        have KCS := Hd (fun wl (hb : Below wr.heap.size wr wl) => (cloneS_any R[i].2 R[i].1.ins wl (((HRW.out wr hfr).2 _ (List.getElem_mem hlt)).1.below0 hb) (HIN.out _ (List.getElem_mem hlt))).mono (fun e w' h => (by
          obtain ⟨v', h1, h2, h3⟩ := h
          exact ⟨v', h1, ownsRow_base h2 hb.size, hb.trans (h3.mono hb.size)⟩ : ∃ v', e = .returned v' ∧ w'.ownsRow wr.heap.size 9 1 v' R[i].1.ins.length (R[i].1.ins.map str) ∧ Below wr.heap.size wr w')))
        have HGW : Hid (g < wr.heap.size) := Hd (lt_of_cell hc4)
        obtain ⟨ax, nx, cx, hx3⟩ := HRX.out _ (List.getElem_mem hlt)
        rw [hx3] at hc4 KCS
        clear hho hfr hrow e' hcs hgx hcj e2
        go_wp2_with fail
        refine (KCS.out _ (Below.refl _ _)).mono ?_
        rintro e w3 ⟨uu, rfl, ho3, hb3⟩
        obtain ⟨a3, c3, hu3, -⟩ := id (ownsRow_reads ho3)
        rw [List.length_map] at hu3
        subst hu3
        have d4 := (hb3.cell (p := ⟨g, i * 4 + 3, none⟩) HGW.out).trans hc4
        have f4 := (hb3.frozen (p := ⟨g, i * 4 + 3, none⟩) HGW.out).trans hf4
        have HN := Hd ((HHO.out.below hb3).next hlt rfl (ownsRow_base ho3 hzr) (fun k hk => by have := (ho3.lt k hk).1; have := HGW.out; omega))
        have HF : Hid (Below w.heap.size w (w3.setCell ⟨g, i * 4 + 3, none⟩ (.slice a3 R[i].1.ins.length c3))) := Hd ((HFR.out.trans (hb3.mono hzr)).setCell (p := ⟨g, i * 4 + 3, none⟩) HGB.out.1 _)
        clear ho3 hb3 hc4 hf4
        go_wp2
        go_roundw
        case rel => exact ⟨i + 1, _, by go_num, HN.out, HF.out⟩
        case measure => simp [intOf]; omega
      · obtain rfl : i = R.length := by omega
        have hlc : ((R.length : Int) < (R.length : Int)) = False := eq_false (by omega)
        clear hho hfr
        go_wp2
        go_ret
        obtain ⟨h1, h2⟩ := HHO.out.whole
        exact ⟨_, A, rfl, h2, h1, HFR.out⟩
def unqB : List UInt8 → List UInt8 → List UInt8 × List UInt8 × Bool
  | [], _ => ([], [], false)
  | c :: r, o => if c = 34 then (o, r, decide (0 < o.length)) else if c = 92 then
      match r with
      | [] => ([], [], false)
      | d :: r' => if d = 34 ∨ d = 92 ∨ d = 110 then unqB r' (o ++ [if d = 110 then 10 else d]) else ([], [], false)
    else unqB r (o ++ [c])
theorem unq_len : ∀ (k : Nat) (s o : List UInt8), s.length ≤ k → (unqB s o).1.length ≤ o.length + s.length ∧ (unqB s o).2.1.length ≤ s.length
  | _, [], o, _ => by unfold unqB; simp
  | 0, c :: r, o, h => by simp at h
  | k + 1, c :: r, o, h => by
    simp only [List.length_cons] at h
    unfold unqB
    split
    · simp
    · split
      · split
        · simp
        · rename_i d r'
          split
          · have := unq_len k r' (o ++ [if d = 110 then 10 else d]) (by simp only [List.length_cons] at h; omega)
            simp only [List.length_append, List.length_cons, List.length_nil] at this ⊢
            omega
          · simp
      · have := unq_len k r (o ++ [c]) (by omega)
        simp only [List.length_append, List.length_cons, List.length_nil] at this ⊢
        omega
theorem cut_len (s sep : List UInt8) : (Lib.cut s sep).1.length ≤ s.length ∧ (Lib.cut s sep).2.1.length ≤ s.length := by
  unfold Lib.cut
  split
  · simp only [List.length_take, List.length_drop]
    omega
  · simp
def insB (o k w r : List UInt8) : Option RuleL := if [] ∈ spl 32 r then none else some ⟨o, k, w, spl 32 r⟩
def lineB (s : List UInt8) : Option RuleL :=
  if (Lib.cut s [32, 61, 32]).2.2 = false then none
  else if (Lib.cut (Lib.cut s [32, 61, 32]).2.1 [32]).2.2 = false then some ⟨(Lib.cut s [32, 61, 32]).1, (Lib.cut (Lib.cut s [32, 61, 32]).2.1 [32]).1, [], []⟩
  else if ([34] : List UInt8).isPrefixOf (Lib.cut (Lib.cut s [32, 61, 32]).2.1 [32]).2.1 = true then
    let u := unqB ((Lib.cut (Lib.cut s [32, 61, 32]).2.1 [32]).2.1.drop 1) []
    if u.2.2 = false then none
    else if u.2.1 = [] then some ⟨(Lib.cut s [32, 61, 32]).1, (Lib.cut (Lib.cut s [32, 61, 32]).2.1 [32]).1, u.1, []⟩
    else if ([32] : List UInt8).isPrefixOf u.2.1 = true then insB (Lib.cut s [32, 61, 32]).1 (Lib.cut (Lib.cut s [32, 61, 32]).2.1 [32]).1 u.1 (u.2.1.drop 1)
    else none
  else insB (Lib.cut s [32, 61, 32]).1 (Lib.cut (Lib.cut s [32, 61, 32]).2.1 [32]).1 [] (Lib.cut (Lib.cut s [32, 61, 32]).2.1 [32]).2.1
def rlinesB : List (List UInt8) → Option (List RuleL)
  | [] => none
  | [p] => if p = [] then some [] else none
  | p :: q :: l => match lineB p with
    | none => none
    | some r => (rlinesB (q :: l)).map fun t => r :: t
def readB (s : List UInt8) : Option (List RuleL) := rlinesB (spl 10 s)
def RuleIn (n : Nat) (r : RuleL) : Prop := r.out.length ≤ n ∧ r.kind.length ≤ n ∧ r.word.length ≤ n ∧ (∀ s ∈ r.ins, s.length ≤ n) ∧ r.ins.length ≤ n + 1
theorem ins_in {o k w r : List UInt8} {n : Nat} {x : RuleL} (h : insB o k w r = some x) (h1 : o.length ≤ n) (h2 : k.length ≤ n) (h3 : w.length ≤ n) (h4 : r.length ≤ n) : RuleIn n x := by
  unfold insB at h
  split at h
  · cases h
  · obtain rfl := Option.some.inj h
    refine ⟨h1, h2, h3, fun s hs => ?_, ?_⟩
    · have := spl_mem_len 32 r s hs
      show s.length ≤ n
      omega
    · have := spl_length_le 32 r
      show (spl 32 r).length ≤ n + 1
      omega
theorem line_in {s : List UInt8} {n : Nat} {x : RuleL} (h : lineB s = some x) (hn : s.length ≤ n) : RuleIn n x := by
  unfold lineB at h
  obtain ⟨a1, a2⟩ := cut_len s [32, 61, 32]
  obtain ⟨b1, b2⟩ := cut_len (Lib.cut s [32, 61, 32]).2.1 [32]
  generalize Lib.cut s [32, 61, 32] = c1 at *
  generalize Lib.cut c1.2.1 [32] = c2 at *
  split at h
  · cases h
  · split at h
    · obtain rfl := Option.some.inj h
      refine ⟨?_, ?_, Nat.zero_le _, fun s hs => (by cases hs), Nat.zero_le _⟩
      · show c1.1.length ≤ n; omega
      · show c2.1.length ≤ n; omega
    · split at h
      · obtain ⟨u1, u2⟩ := unq_len _ (c2.2.1.drop 1) [] (Nat.le_refl _)
        simp only [List.length_drop, List.length_nil] at u1 u2
        generalize unqB (c2.2.1.drop 1) [] = u at *
        simp only at h
        split at h
        · cases h
        · split at h
          · obtain rfl := Option.some.inj h
            refine ⟨?_, ?_, ?_, fun s hs => (by cases hs), Nat.zero_le _⟩
            · show c1.1.length ≤ n; omega
            · show c2.1.length ≤ n; omega
            · show u.1.length ≤ n; omega
          · split at h
            · exact ins_in h (by omega) (by omega) (by omega) (by rw [List.length_drop]; omega)
            · cases h
      · exact ins_in h (by omega) (by omega) (by simp) (by omega)
theorem lines_in : ∀ {ls : List (List UInt8)} {l : List RuleL} {n : Nat}, rlinesB ls = some l → (∀ s ∈ ls, s.length ≤ n) → l.length < ls.length ∧ ∀ r ∈ l, RuleIn n r
  | [], l, n, h, _ => by simp [rlinesB] at h
  | [p], l, n, h, _ => by
    unfold rlinesB at h
    split at h
    · obtain rfl := Option.some.inj h
      exact ⟨by simp, fun r hr => by cases hr⟩
    · cases h
  | p :: q :: ls, l, n, h, hn => by
    unfold rlinesB at h
    split at h
    · cases h
    · rename_i r hr
      cases ht : rlinesB (q :: ls) with
      | none => rw [ht] at h; cases h
      | some t =>
        rw [ht] at h
        obtain rfl := Option.some.inj h
        obtain ⟨h1, h2⟩ := lines_in ht (fun s hs => hn s (List.mem_cons_of_mem _ hs))
        refine ⟨by simp only [List.length_cons] at h1 ⊢; omega, fun x hx => ?_⟩
        rcases List.mem_cons.1 hx with rfl | hx
        · exact line_in hr (hn p List.mem_cons_self)
        · exact h2 x hx
theorem gcut_any (s sep : List UInt8) (w : World) (hs : s.length ≤ 4000000000) (hm : Ml w) :
    Calls Tryz.prog 181 #[str s, str sep] w fun e w' => e = .returned (.tuple #[str (Lib.cut s sep).1, str (Lib.cut s sep).2.1, .bool (Lib.cut s sep).2.2]) ∧ Below w.heap.size w w' := by
  obtain ⟨m, hm⟩ := hm
  refine (Tryz.strings_Cut ⟨s.toArray⟩ ⟨sep.toArray⟩ m w (by simp [ByteArray.size]; omega) hm).mono ?_
  rintro e w' ⟨rfl, q, rfl⟩
  exact ⟨rfl, below_drewN (Below.refl _ _) q⟩
theorem gsplit_any (s : List UInt8) (c : UInt8) (w : World) (hm : Ml w) (hs : s.length ≤ 1000000) : Calls Tryz.prog 185 #[str s, str [c]] w fun e w' =>
    e = .returned (.slice (some ⟨w.heap.size, 0, none⟩) (spl c s).length (spl c s).length) ∧ w' = w.alloc (.cells ((spl c s).map str).toArray 9) := by
  obtain ⟨m, hm⟩ := hm
  refine (Tryz.strings_Split ⟨s.toArray⟩ ⟨#[c]⟩ m w (by simp [ByteArray.size]; omega) hm (Nat.le_refl 1)).mono ?_
  rintro e w' ⟨rfl, rfl⟩
  rw [splitB_spl c _ s rfl, countB_spl]
  refine ⟨rfl, ?_⟩
  rw [List.map_map]
  rfl
theorem row_laid {w : World} {g : Nat} {e : TypeId} {s n : Nat} {xs : List Value} {B : Nat} (h : w.heap[g]? = some (.cells xs.toArray e (0, 0))) (hl : xs.length = n * s) (hn : n ≤ 1000000000) (hB : B ≤ g) : w.ownsRow B e s (.slice (some ⟨g, 0, none⟩) n n) n xs :=
  ⟨hl, Or.inr ⟨g, n, xs.toArray, rfl, hB, h, Nat.le_refl _, by unfold maxLen; omega, by simpa using hl, by rw [List.take_of_length_le (by simp [hl])]⟩⟩
theorem split_row (s : List UInt8) (c : UInt8) (w : World) (hm : Ml w) (hs : s.length ≤ 1000000) : Calls Tryz.prog 185 #[str s, str [c]] w fun e w' =>
    ∃ v, e = .returned v ∧ w'.ownsRow w.heap.size 9 1 v (spl c s).length ((spl c s).map str) ∧ Below w.heap.size w w' := by
  refine (gsplit_any s c w hm hs).mono ?_
  rintro e w' ⟨rfl, rfl⟩
  refine ⟨_, rfl, ?_, (Below.refl _ w).alloc (Nat.le_refl _) _⟩
  exact row_laid (heap_alloc_here w _) (by simp) (by have := spl_length_le c s; omega) (Nat.le_refl _)
theorem cutPrefix1_any (s p : List UInt8) (w : World) :
    Calls Tryz.prog 324 #[str s, str p] w fun e w' => e = .returned (.tuple #[str (if p.isPrefixOf s then s.drop p.length else s), .bool (p.isPrefixOf s)]) ∧ w' = w := by
  have K := Hd (Tryz.stringslite_HasPrefix ⟨s.toArray⟩ ⟨p.toArray⟩ w)
  cases hb : p.isPrefixOf s with
  | true =>
    have K2 : Calls Tryz.prog 139 #[str s, str p] w fun e w' => e = .returned (.bool true) ∧ w' = w := K.out.mono (fun e w' h => ⟨h.1.trans (congrArg (fun b => Ending.returned (Value.bool b)) hb), h.2⟩)
    have K3 := Hd K2
    have hpl : p.length ≤ s.length := (List.isPrefixOf_iff_prefix.1 hb).length_le
    have hs1 : (⟨s.toArray⟩ : ByteArray).extract p.length s.length = ⟨(s.drop p.length).toArray⟩ := by apply ByteArray.ext; simp [List.take_of_length_le]
    have h1 : ((p.length : Int) ≤ (s.length : Int)) = True := eq_true (by omega)
    clear K K2 hb
    go_enter Tryz.func324, Tryz.ntmps324
    go_wp2_with fail
    refine K3.out.mono ?_
    rintro e w2 ⟨rfl, rfl⟩
    go_wp2
    go_ret2
    exact ⟨by simp, rfl⟩
  | false =>
    have K2 : Calls Tryz.prog 139 #[str s, str p] w fun e w' => e = .returned (.bool false) ∧ w' = w := K.out.mono (fun e w' h => ⟨h.1.trans (congrArg (fun b => Ending.returned (Value.bool b)) hb), h.2⟩)
    have K3 := Hd K2
    clear K K2 hb
    go_enter Tryz.func324, Tryz.ntmps324
    go_wp2_with fail
    refine K3.out.mono ?_
    rintro e w2 ⟨rfl, rfl⟩
    go_wp2
    go_ret2
    exact ⟨by simp, rfl⟩
theorem cutPrefix_any (s p : List UInt8) (w : World) :
    Calls Tryz.prog 309 #[str s, str p] w fun e w' => e = .returned (.tuple #[str (if p.isPrefixOf s then s.drop p.length else s), .bool (p.isPrefixOf s)]) ∧ w' = w := by
  have K := Hd (cutPrefix1_any s p w)
  generalize (if p.isPrefixOf s then s.drop p.length else s) = t at *
  generalize p.isPrefixOf s = b at *
  go_enter Tryz.func309, Tryz.ntmps309
  go_wp2_with fail
  refine K.out.mono ?_
  rintro e w2 ⟨rfl, rfl⟩
  go_wp2
  go_ret2
  exact ⟨rfl, rfl⟩
end Go.Proofs.YtgjialbmlhbngaaGreatDoor
