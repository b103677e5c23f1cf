/-
  The reference's tree: Remove, Put.
-/
import Derived.Test.YtmkpeopebddnjaaGreatDoorRTree
import Derived.Laws.AppendOwnNone
namespace Go.Kf
open Go Go.RowKit

theorem ReadsK.pre {s : Nat} {w : World} {ad : Option Addr} {n c : Nat} {rows : List (List Value)} (h : ReadsK s w (.slice ad n c) rows) (k c' : Nat) (hk : k ≤ n) : ReadsK s w (.slice ad k c') (rows.take k) := by
  obtain ⟨a, cap, e, hle, hc⟩ := h
  cases e
  refine ⟨ad, c', by rw [List.length_take, Nat.min_eq_left hk], by rw [List.length_take]; omega, fun i r hi => ?_⟩
  rw [List.getElem?_take] at hi
  split at hi
  · exact hc i r hi
  · cases hi
theorem ReadsK.suf {s : Nat} {w : World} {g o n c : Nat} {rows : List (List Value)} (h : ReadsK s w (.slice (some ⟨g, o, none⟩) n c) rows) (k c' : Nat) (hk : k ≤ n) : ReadsK s w (.slice (some ⟨g, o + k * s, none⟩) (n - k) c') (rows.drop k) := by
  obtain ⟨a, cap, e, hle, hc⟩ := h
  cases e
  refine ⟨_, c', by rw [List.length_drop], by rw [List.length_drop]; omega, fun i r hi => ⟨g, o + k * s, rfl, fun j u hj => ?_⟩⟩
  rw [List.getElem?_drop] at hi
  obtain ⟨b, o', e', hcell⟩ := hc _ r hi
  cases e'
  have := hcell j u hj
  rwa [show o + k * s + i * s + j = o + (k + i) * s + j by rw [Nat.add_mul]; omega]
theorem ReadsK.nil (s : Nat) (w : World) (ad : Option Addr) (c : Nat) : ReadsK s w (.slice ad 0 c) [] := ⟨ad, c, rfl, by simp, fun i r hi => by simp at hi⟩

theorem flat_split {s : Nat} (hs : 0 < s) : ∀ (rows : List (List Value)), (∀ r ∈ rows, r.length = s) → ∀ (j : Nat) (u : Value), rows.flatten[j]? = some u → ∃ r, rows[j / s]? = some r ∧ r[j % s]? = some u
  | [], _, j, u, h => by simp at h
  | x :: rows, hl, j, u, h => by
    have hx : x.length = s := hl x List.mem_cons_self
    rw [List.flatten_cons] at h
    by_cases hj : j < s
    · rw [List.getElem?_append_left (by omega)] at h
      exact ⟨x, by rw [Nat.div_eq_of_lt hj]; rfl, by rw [Nat.mod_eq_of_lt hj]; exact h⟩
    · rw [List.getElem?_append_right (by omega), hx] at h
      obtain ⟨r, h1, h2⟩ := flat_split hs rows (fun r hr => hl r (List.mem_cons_of_mem _ hr)) (j - s) u h
      refine ⟨r, ?_, ?_⟩
      · rw [show j / s = (j - s) / s + 1 by rw [← Nat.add_div_right _ hs, Nat.sub_add_cancel (by omega)]]
        exact h1
      · rw [Nat.mod_eq_sub_mod (by omega)]
        exact h2

/-- append of the elements of a slice that is read. -/
theorem wpList_appRead {P : Program} (w : World) {ops : Array Oper} {rest : List Oper} {o : Oper} {a : Act} {Q : Exit → Act → World → Prop}
    (hg : o.guard = none) (s x : Operand) (T : TypeId) (hop : o.op = Op.call { callee := Callee.builtin Builtin.append, args := #[s, x], argTypes := #[T, T] })
    {e : TypeId} {z : Value} {sz bytes : Nat} (hT : SliceTyK P T e z sz bytes) (base : Nat) (v : Value) (n : Nat) (xs : List Value) (hs : a.eval s = v) (hown : w.ownsRow base e sz v n xs)
    (rows : List (List Value)) (ad : Addr) (m c : Nat) (hx : a.eval x = .slice (some ad) m c) (hrd : ReadsK sz w (.slice (some ad) m c) rows) (hr : ∀ r ∈ rows, r.length = sz ∧ ∀ u ∈ r, u.oneCell' = true)
    (hby : bytes ≤ 128) (hlen : n + rows.length ≤ 1000000000) (hbase : base ≤ w.heap.size)
    (h : ∀ v' w', w'.ownsRow base e sz v' (n + rows.length) (xs ++ rows.flatten) → w.grownBy w' v.ownBlock → (v'.ownBlock = v.ownBlock ∨ v'.ownBlock = some w.heap.size) → wpList P ops Q rest (a.put o.dst v') w') :
    wpList P ops Q (o :: rest) a w := by
  have hm := hrd.len
  have hfl : rows.flatten.length = m * sz := by
    rw [hm]
    clear hrd h hlen hm
    induction rows with
    | nil => simp
    | cons r rows ih =>
      simp only [List.flatten_cons, List.length_append, List.length_cons, (hr r List.mem_cons_self).1, ih (fun r hr' => hr r (List.mem_cons_of_mem _ hr'))]
      rw [Nat.add_mul]; omega
  have hnews : ∀ j u, rows.flatten[j]? = some u → w.cell? (ad.add j) = some u := by
    intro j u hj
    obtain ⟨r, h1, h2⟩ := flat_split hT.pos rows (fun r hr' => (hr r hr').1) j u hj
    obtain ⟨a', c', e', -, hc⟩ := hrd
    cases e'
    obtain ⟨b, off, e', hcell⟩ := hc _ r h1
    cases e'
    have := hcell _ u h2
    rw [show off + j / sz * sz + j % sz = off + j by rw [Nat.add_assoc, Nat.div_add_mod']] at this
    rw [addr_add rfl]
    exact this
  refine wpList_appK w hg s x T hop hT base v n xs hs hown ad m c rows.flatten hx hfl hnews (fun u hu => ?_) hby (by omega) hbase (fun v' w' h1 h2 h3 => h v' w' (by rw [← hm]; exact h1) h2 h3)
  obtain ⟨r, hr1, hr2⟩ := List.mem_flatten.1 hu
  exact (hr r hr1).2 u hr2
end Go.Kf
namespace Go.Proofs.YtmkpeopebddnjaaGreatDoor
open Go Go.RowKit Go.Kf

theorem fileRow_ok {L : List Ent} : ∀ r ∈ L.map fileRow, r.length = 2 ∧ ∀ u ∈ r, u.oneCell' = true := by
  intro r hr
  obtain ⟨e, -, rfl⟩ := List.mem_map.1 hr
  exact ⟨rfl, fun u hu => by simp at hu; rcases hu with rfl | rfl <;> rfl⟩

theorem mplace_of_look {p : List UInt8} : ∀ {L : List Ent}, (mlook p L).isSome = true → ∃ i, mplace p L = some i ∧ ∃ h : i < L.length, L[i].1 = p ∧ mdel p L = L.take i ++ L.drop (i + 1) ∧ ∀ b, mupd p b L = L.set i (p, b)
  | [], h => by simp [mlook] at h
  | x :: L, h => by
    unfold mlook at h
    unfold mplace mdel
    by_cases hx : x.1 = p
    · exact ⟨0, by rw [if_pos hx], by simp, hx, by rw [if_pos hx]; simp, fun b => by unfold mupd; rw [if_pos hx]; rfl⟩
    · rw [if_neg hx] at h
      obtain ⟨i, h1, h2, h3, h4, h5⟩ := mplace_of_look h
      exact ⟨i + 1, by rw [if_neg hx, h1]; rfl, by simpa using h2, by simpa using h3, by rw [if_neg hx, h4]; rfl, fun b => by unfold mupd; rw [if_neg hx, h5]; rfl⟩
theorem mplace_of_none {p : List UInt8} : ∀ {L : List Ent}, mlook p L = none → mplace p L = none
  | [], _ => rfl
  | x :: L, h => by
    unfold mlook at h
    unfold mplace
    by_cases hx : x.1 = p
    · rw [if_pos hx] at h; cases h
    · rw [if_neg hx] at h
      rw [if_neg hx, mplace_of_none h]; rfl

set_option maxHeartbeats 1000000 in
set_option maxRecDepth 100000 in
theorem rremove_any (base rb : Nat) (lv : Value) (L : List Ent) (p : List UInt8) (w : World) (h : RTAt base w rb lv L) (hb : base ≤ w.heap.size) (hn : L.length ≤ 1000) :
    Calls Tryz.prog 15 #[.pointer (some ⟨rb, 0, none⟩), str p] w fun e w' =>
      e = .returned (.int .i64 (removeC p L : Int)) ∧ ∃ lv', RTAt base w' rb lv' (mdel p L) ∧ Fr w.heap.size (fun k => k = rb) w w' ∧ (∀ k, lv'.ownBlock = some k → lv.ownBlock = some k ∨ w.heap.size ≤ k) := by
  have HH := Lib.hid h
  have K := Lib.hid (rfind_any base rb lv L p w h)
  unfold removeC
  cases hk : mlook p L with
  | none =>
    have hf : findN p L = -1 := by unfold findN; rw [mplace_of_none hk]
    rw [hf] at K
    have HM := Lib.hid (mdel_none hk)
    clear h hf hk
    go_enter Tryz.func15, Tryz.ntmps15
    go_wp2_with fail
    refine K.out.mono ?_
    rintro e w1 ⟨rfl, rfl⟩
    go_wp2
    go_ret
    rw [HM.out]
    exact ⟨rfl, lv, HH.out, .refl _ _ _, fun k hk => Or.inl hk⟩
  | some v =>
    obtain ⟨i, hpl, hi, -, hdel, -⟩ := mplace_of_look (L := L) (p := p) (by rw [hk]; rfl)
    have hf : findN p L = (i : Int) := by unfold findN; rw [hpl]
    rw [hf] at K
    have HD := Lib.hid hdel
    have hr := h.reads
    have c0 := h.cell
    obtain ⟨g, cap, rfl⟩ := ownsRow_some h.row (by omega)
    have hcap : L.length ≤ cap ∧ cap ≤ 9223372036854775807 := by
      rcases h.row.2 with ⟨e, -⟩ | ⟨g', cap', cur, e, -, -, h3, h4, -⟩
      · cases e
      · cases e
        exact ⟨h3, by unfold maxLen at h4; omega⟩
    have HR := Lib.hid hr
    have hrb : rb < w.heap.size := lt_of_heap h.blk
    clear h hf hk hpl hdel hr
    go_enter Tryz.func15, Tryz.ntmps15
    go_wp2_with fail
    refine K.out.mono ?_
    rintro e w1 ⟨rfl, rfl⟩
    have hlm : (L.map fileRow).length = L.length := List.length_map _
    have hbk := Lib.hid HH.out.blk
    have hne := HH.out.ne
    have hgr : g ≠ rb := fun e => hne (by rw [e]; rfl)
    have hgl : g < w.heap.size := (HH.out.row.lt g rfl).2
    have FIRST : Hid (∀ v5 w5, w5.ownsRow w.heap.size 45 2 v5 (0 + ((L.map fileRow).take i).length) ([] ++ ((L.map fileRow).take i).flatten) → w.grownBy w5 (Value.slice none 0 0).ownBlock →
        Below w.heap.size w w5 ∧ w5.ownsRow w.heap.size 45 2 v5 i (((L.map fileRow).take i).flatten)) := Lib.hid (by
      intro v5 w5 ho hg5
      refine ⟨(Below.refl _ w).grown hg5 (Nat.le_refl _) (fun r hr => by cases hr), ?_⟩
      have e : 0 + ((L.map fileRow).take i).length = i := by rw [List.length_take, hlm]; omega
      rw [e, List.nil_append] at ho
      exact ho)
    have SECOND : Hid (∀ v5 w5 v6 w6, Below w.heap.size w w5 → w5.ownsRow w.heap.size 45 2 v5 i (((L.map fileRow).take i).flatten) →
        w6.ownsRow w.heap.size 45 2 v6 (i + ((L.map fileRow).drop (i + 1)).length) (((L.map fileRow).take i).flatten ++ ((L.map fileRow).drop (i + 1)).flatten) → w5.grownBy w6 v5.ownBlock →
        Below w.heap.size w w6 ∧ w6.ownsRow w.heap.size 45 2 v6 (mdel p L).length (fileCells (mdel p L)) ∧ ∃ ao n' c', v6 = .slice ao n' c') := Lib.hid (by
      intro v5 w5 v6 w6 hb5 ho5 ho6 hg6
      refine ⟨hb5.grown hg6 hb5.size (fun r hr => owned_from ho5 hr), ?_, ?_⟩
      · rw [HD.out]
        have e : fileCells (L.take i ++ L.drop (i + 1)) = ((L.map fileRow).take i).flatten ++ ((L.map fileRow).drop (i + 1)).flatten := by
          simp [fileCells, List.map_take, List.map_drop]
        rw [e, show (L.take i ++ L.drop (i + 1)).length = i + ((L.map fileRow).drop (i + 1)).length by simp; omega]
        exact ho6
      · rcases ho6.2 with ⟨hv, _⟩ | ⟨g, cap, cur, hv, _⟩
        · exact ⟨_, _, _, hv⟩
        · exact ⟨_, _, _, hv⟩)
    have hsub : ∀ (w5 : World), Below w.heap.size w w5 → ReadsK 2 w5 (.slice (some ⟨g, 0, none⟩) L.length cap) (L.map fileRow) := fun w5 q => HR.out.below q (fun k hk => by cases hk; exact hgl)
    have HSUB := Lib.hid hsub
    clear hsub
    obtain ⟨off, c2, hsl⟩ : ∃ off c2, (cap = i + 1 → off = 0 ∧ c2 = 0) ∧ (cap ≠ i + 1 → off = (i + 1) * 2 ∧ c2 = cap - (i + 1)) := by
      by_cases hc : cap = i + 1
      · exact ⟨0, 0, fun _ => ⟨rfl, rfl⟩, fun h => absurd hc h⟩
      · exact ⟨(i + 1) * 2, cap - (i + 1), fun h => absurd h hc, fun _ => ⟨rfl, rfl⟩⟩
    have READ2 : Hid (∀ w5, Below w.heap.size w w5 → ReadsK 2 w5 (.slice (some ⟨g, off, none⟩) (L.length - (i + 1)) c2) ((L.map fileRow).drop (i + 1))) := Lib.hid (by
      intro w5 hq
      have hr5 := HSUB.out w5 hq
      by_cases hc : cap = i + 1
      · have e0 : (L.map fileRow).drop (i + 1) = [] := List.drop_eq_nil_of_le (by rw [hlm]; omega)
        rw [e0, show L.length - (i + 1) = 0 by omega]
        exact ReadsK.nil _ _ _ _
      · rw [(hsl.2 hc).1]
        have := hr5.suf (i + 1) c2 (by omega)
        simpa using this)
    have fin : ∀ v6 w6, Below w.heap.size w w6 → w6.ownsRow w.heap.size 45 2 v6 (mdel p L).length (fileCells (mdel p L)) →
        ∃ lv', RTAt base (w6.setCell ⟨rb, 0, none⟩ v6) rb lv' (mdel p L) ∧ Fr w.heap.size (fun k => k = rb) w (w6.setCell ⟨rb, 0, none⟩ v6) ∧ (∀ k, lv'.ownBlock = some k → (Value.slice (some ⟨g, 0, none⟩) L.length cap).ownBlock = some k ∨ w.heap.size ≤ k) := by
      intro v6 w6 hb6 ho6
      have h6 := (hb6.block _ hrb).trans hbk.out
      have hF : Fr w6.heap.size (fun k => k = rb) w6 (w6.setCell ⟨rb, 0, none⟩ v6) := Fr.setCell (S := fun k => k = rb) (p := ⟨rb, 0, none⟩) (.refl _ _ _) (fun _ => rfl) _
      refine ⟨v6, ⟨(Kf.heap_setCell_same h6 _).trans rfl, ownsRow_base (ownsRow_fr ho6 hF (fun k hk => ⟨(ho6.lt k hk).2, fun e => ?_⟩)) hb, fun e => ?_⟩, Fr.setCell (S := fun k => k = rb) (p := ⟨rb, 0, none⟩) (Fr.of_below hb6) (fun _ => rfl) _, fun k hk => Or.inr (owned_from ho6 hk)⟩
      · have := owned_from ho6 hk; omega
      · have := owned_from ho6 e; omega
    have FIN := Lib.hid fin
    clear fin hne hlm
    by_cases hc : cap = i + 1
    · obtain ⟨ho1, ho2⟩ := hsl.1 hc
      subst ho1 ho2 hc
      clear hsl
      go_wp2_with (first
        | (at_builtin
           refine wpList_appRead _ rfl (.tmp 12) (.tmp 18) 27 rfl tyFiles w.heap.size _ 0 [] rfl (World.ownsRow_nil _ _ _ _) ((L.map fileRow).take i) ⟨g, 0, none⟩ i (i + 1) rfl (HR.out.pre i (i + 1) (by omega)) (fun r hr => fileRow_ok r (List.mem_of_mem_take hr)) (by decide) (by rw [List.length_take, List.length_map]; omega) (Nat.le_refl _) ?_
           intro v5 w5 ho5 hg5 hloc5
           obtain ⟨hb5, ho5'⟩ := FIRST.out v5 w5 ho5 hg5
           have h5 := (hb5.block _ hrb).trans hbk.out
           have d0 : w5.cell? ⟨rb, 0, none⟩ = some (.slice (some ⟨g, 0, none⟩) L.length (i + 1)) := (cell_of_heap h5 0).trans rfl
           have hz5 := hb5.size
           have HB5 := Lib.hid hb5
           have HO5 := Lib.hid ho5'
           clear hb5 ho5' h5 ho5 hg5 hloc5)
        | (at_builtin
           refine wpList_appRead _ rfl (.tmp 21) (.tmp 28) 27 rfl tyFiles w.heap.size v5 i _ rfl HO5.out ((L.map fileRow).drop (i + 1)) ⟨g, _, none⟩ 0 _ rfl (by have := READ2.out w5 HB5.out; rwa [show L.length - (i + 1) = 0 by omega] at this) (fun r hr => fileRow_ok r (List.mem_of_mem_drop hr)) (by decide) (by rw [List.length_drop, List.length_map]; omega) hz5 ?_
           intro v6 w6 ho6 hg6 hloc6
           obtain ⟨hb6, ho6', ao, n', c', rfl⟩ := SECOND.out v5 w5 v6 w6 HB5.out HO5.out ho6 hg6
           have h6 := (hb6.block _ hrb).trans hbk.out
           have d6 : w6.cell? ⟨rb, 0, none⟩ = some (.slice (some ⟨g, 0, none⟩) L.length (i + 1)) := (cell_of_heap h6 0).trans rfl
           have f6 : w6.frozen? ⟨rb, 0, none⟩ = false := free_of_heap h6 0
           have HB6 := Lib.hid hb6
           have HO6 := Lib.hid ho6'
           clear hb6 ho6' h6 ho6 hg6 hloc6))
      go_ret
      exact ⟨rfl, FIN.out _ _ HB6.out HO6.out⟩
    · obtain ⟨ho1, ho2⟩ := hsl.2 hc
      subst ho1 ho2
      clear hsl
      go_wp2_with (first
        | (at_builtin
           refine wpList_appRead _ rfl (.tmp 12) (.tmp 18) 27 rfl tyFiles w.heap.size _ 0 [] rfl (World.ownsRow_nil _ _ _ _) ((L.map fileRow).take i) ⟨g, 0, none⟩ i cap rfl (HR.out.pre i cap (by omega)) (fun r hr => fileRow_ok r (List.mem_of_mem_take hr)) (by decide) (by rw [List.length_take, List.length_map]; omega) (Nat.le_refl _) ?_
           intro v5 w5 ho5 hg5 hloc5
           obtain ⟨hb5, ho5'⟩ := FIRST.out v5 w5 ho5 hg5
           have h5 := (hb5.block _ hrb).trans hbk.out
           have d0 : w5.cell? ⟨rb, 0, none⟩ = some (.slice (some ⟨g, 0, none⟩) L.length cap) := (cell_of_heap h5 0).trans rfl
           have hz5 := hb5.size
           have HB5 := Lib.hid hb5
           have HO5 := Lib.hid ho5'
           clear hb5 ho5' h5 ho5 hg5 hloc5)
        | (at_builtin
           refine wpList_appRead _ rfl (.tmp 21) (.tmp 28) 27 rfl tyFiles w.heap.size v5 i _ rfl HO5.out ((L.map fileRow).drop (i + 1)) ⟨g, _, none⟩ (L.length - (i + 1)) _ rfl (READ2.out w5 HB5.out) (fun r hr => fileRow_ok r (List.mem_of_mem_drop hr)) (by decide) (by rw [List.length_drop, List.length_map]; omega) hz5 ?_
           intro v6 w6 ho6 hg6 hloc6
           obtain ⟨hb6, ho6', ao, n', c', rfl⟩ := SECOND.out v5 w5 v6 w6 HB5.out HO5.out ho6 hg6
           have h6 := (hb6.block _ hrb).trans hbk.out
           have d6 : w6.cell? ⟨rb, 0, none⟩ = some (.slice (some ⟨g, 0, none⟩) L.length cap) := (cell_of_heap h6 0).trans rfl
           have f6 : w6.frozen? ⟨rb, 0, none⟩ = false := free_of_heap h6 0
           have HB6 := Lib.hid hb6
           have HO6 := Lib.hid ho6'
           clear hb6 ho6' h6 ho6 hg6 hloc6))
      go_ret
      exact ⟨rfl, FIN.out _ _ HB6.out HO6.out⟩
end Go.Proofs.YtmkpeopebddnjaaGreatDoor
