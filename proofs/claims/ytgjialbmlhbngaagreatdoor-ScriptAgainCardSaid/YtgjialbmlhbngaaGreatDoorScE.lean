/-
  Scripts: order; leaves and wants of a player's rules. Scripts: Rules at a player's yard; the command rule.
-/
import Derived.Test.YtgjialbmlhbngaaGreatDoorScD
import Derived.Test.YtgjialbmlhbngaaGreatDoorScA
import Derived.Test.YtgjialbmlhbngaaGreatDoorScC

set_option maxRecDepth 100000
namespace Go.Proofs.YtgjialbmlhbngaaGreatDoor
open Go Go.RowKit Go.Kf Go.Sort Go.Proofs
section
variable {S : Nat → Addr} {w1 w : World} {pb : Nat} {Y : YPl} {vl lv : Value} {R : List RV} {a : SS}
theorem PAt.bndL (h : PAt S w1 pb Y vl lv R a w) {R' : List RV} (e : R'.map Prod.fst = R.map Prod.fst) : ∀ x ∈ R', x.1.out.length ≤ 1000000 ∧ x.1.word.length ≤ 100000 ∧ (∀ s ∈ x.1.ins, s.length ≤ 1000000) ∧ x.1.ins.length ≤ 1000 := fun x hx => by
  obtain ⟨h1, h2, h3, h4, h5⟩ := h.short x.1 (by rw [← h.sheet, ← e]; exact List.mem_map.2 ⟨x, hx, rfl⟩)
  exact ⟨by omega, by omega, fun s hs => by have := h4 s hs; omega, by omega⟩
theorem PAt.lenL (h : PAt S w1 pb Y vl lv R a w) {R' : List RV} (e : R'.map Prod.fst = R.map Prod.fst) : R'.length ≤ 40 := by
  have h1 := h.lenR
  have h2 := congrArg List.length e
  rw [List.length_map, List.length_map] at h2
  omega
theorem PAt.sheetY (h : PAt S w1 pb Y vl lv R a w) : Calls Tryz.prog 179 #[ptrV Y.yb] w fun e w' => ∃ v R', e = .returned v ∧ R'.map Prod.fst = R.map Prod.fst ∧ OwnAt w.heap.size w' v R' ∧ Below w.heap.size w w' :=
  ysheet_any w h.yard (fun x hx => (h.bnd x hx).2.2.2) (by have := h.lenR; omega)
theorem pleaves_any (h : PAt S w1 pb Y vl lv R a w) {R' : List RV} (e : R'.map Prod.fst = R.map Prod.fst) (v : Value) (B : Nat) (ho : OwnAt B w v R') :
    Calls Tryz.prog 178 #[v] w fun e w' => ∃ u, e = .returned (.tuple #[u, .nilIface]) ∧ w'.ownsRow w.heap.size 9 1 u (leavesB a.l).length ((leavesB a.l).map str) ∧ Below w.heap.size w w' := by
  have hs := h.here
  refine (gleaves_any R' v w S ho.rules.1 ho.rules.2 hs.ml hs.err.k hs.num hs.tab (h.bndL e) (by have := h.lenL e; omega)).mono ?_
  rintro e' w' ⟨ha, hb⟩
  rw [e, h.sheet] at ha
  rcases ha with ⟨-, u, rfl, hown⟩ | ⟨T, x, -, hbad⟩
  · exact ⟨u, rfl, hown, hb⟩
  · exact absurd h.right hbad.wrong
theorem pwant_any (h : PAt S w1 pb Y vl lv R a w) {R' : List RV} (e : R'.map Prod.fst = R.map Prod.fst) (v : Value) (B : Nat) (ho : OwnAt B w v R') (p : List UInt8) :
    Calls Tryz.prog 75 #[ptrV Y.tb, v, str p] w fun e w' => ∃ t err c y, e = .returned (.tuple #[str t, err]) ∧ ErrIs S c err w' ∧ Does a (.want p) c y a ∧ (c = 0 → shownB t = y) ∧ t.length ≤ 1000000 ∧ Below w.heap.size w w' := by
  have hs := h.here
  obtain ⟨oa, hoa⟩ := h.ord
  have hOA := ord_all h.right hoa
  refine (wof_any (S := S) w p ho.rules.1 ho.rules.2 h.yard.tree hs.ml hs.err.k hs.err.l hs.num hs.tab (h.bndL e) h.good.byt (by have := h.lenL e; omega)).mono ?_
  rintro e' w' ⟨ha, hb⟩
  rw [e, h.sheet] at ha
  by_cases hp : p ∈ a.l.map RuleL.out
  · obtain ⟨r, hr, hrp⟩ := List.mem_map.1 hp
    obtain ⟨i, hi, rfl⟩ := List.mem_iff_getElem.1 hr
    have hd : p = (a.l.getD i noR).out := by rw [getD_at hi]; exact hrp.symm
    have h2 := of_out hOA hi (hd ▸ ha)
    rw [← hd] at h2
    have hT := toldOk_want (l := a.l) (T := fun p => mlook p a.m) h.good.byt p
    exact ⟨_, _, _, _, h2, ErrIs.code (S := S) (by have := hT.code; omega), .want hp, fun _ => rfl, by have := hT.len; omega, hb⟩
  · rcases ha with ⟨hr, ⟨k, N, hpl, -, -⟩ | ⟨-, rfl⟩⟩ | ⟨T', x, -, hbad⟩
    · exact absurd (places_made hpl _ List.mem_cons_self) hp
    · exact ⟨[], _, 6, [], rfl, ErrIs.some (k := 5) (by omega), .wants hp, (fun h => by cases h), by simp, hb⟩
    · exact absurd h.right hbad.wrong
end
set_option maxHeartbeats 2000000 in
theorem sorder_any {S : Nat → Addr} {w1 w : World} {pb : Nat} {Y : YPl} {vl lv : Value} {R : List RV} {a : SS} (h : PAt S w1 pb Y vl lv R a w) :
    Calls Tryz.prog 177 #[ptrV pb] w (SAns S w1 pb Y vl lv R a .order w) := by
  obtain ⟨o, ho⟩ := h.ord
  have hol : ∀ k ∈ o, k < a.l.length := fun k hk => ((order_mem ho).1.lt k hk).1
  have hon : o.length ≤ 40 := by
    have h1 := (order_some ho).2
    have h2 := h.right.1
    omega
  have H := Hd h
  have hpl := h.pl
  have KS := Hd h.sheetY
  have KG := Hd (fun (wl : World) (v : Value) (R' : List RV) (hb : Below w.heap.size w wl) (e : R'.map Prod.fst = R.map Prod.fst) (hx : OwnAt w.heap.size wl v R') => gorder_any R' v wl S hx.rules.1 hx.rules.2 (h.below hb).here.ml (h.below hb).here.err.k (h.below hb).here.num (h.below hb).here.tab (h.bndL e) (by have := h.lenL e; omega))
  have HO : Hid (orderB (edgesB a.l) (fun _ => true) a.l.length = some o) := Hd ho
  have HOL := Hd hol
  have HON := Hd hon
  clear h ho hol hon
  go_enter Tryz.func177, Tryz.ntmps177
  go_wp2_with fail
  refine KS.out.mono ?_
  rintro e w2 ⟨v, R', rfl, he, hown, hb2⟩
  have HE := Hd he
  have HB2 := Hd hb2
  have HOW := Hd hown
  have KG2 := Hd (KG.out w2 v R' hb2 he hown)
  obtain ⟨av, cv, hv, -, -⟩ := id hown.rules.1.1
  rw [List.length_map] at hv
  subst hv
  clear he hb2 hown KS hpl
  go_wp2_with fail
  refine KG2.out.mono ?_
  rintro e w3 ⟨ha, hb3⟩
  rw [HE.out, H.out.sheet] at ha
  rcases ha with ⟨-, ⟨o', u, ho', rfl, hown3⟩ | ⟨hno, -⟩⟩ | ⟨T, x, -, hbad⟩
  · rw [HO.out] at ho'
    cases ho'
    have HB3 := Hd (HB2.out.trans (hb3.mono HB2.out.size))
    have HO3 := Hd hown3
    have HR3 : Hid (RulesAt w3 (.slice av R'.length cv) R') := Hd (HOW.out.fr hb3).rules.1
    obtain ⟨au, cu, hu, -, -⟩ := id (ownsRow_reads hown3)
    rw [show ((intsB o).map (Value.int .i64)).length = o.length by simp [intsB]] at hu
    subst hu
    clear hown3 hb3 KG2
    go_wp2_with fail
    go_loopw [7, 22] (fun ov iv wl => ∃ j : Nat, j ≤ o.length ∧ iv = .int .i64 j ∧ wl.ownsRow w3.heap.size 9 1 ov j (((o.take j).map fun i => (a.l.getD i noR).out).map str) ∧ Below w3.heap.size w3 wl) (fun _ iv _ => o.length - (intOf iv).toNat)
    case atStart => exact ⟨0, by omega, rfl, World.ownsRow_nil _ _ _ _, Below.refl _ _⟩
    case round =>
      obtain ⟨j, hj, rfl, hout, hb⟩ := hrel
      have HOUT := Hd hout
      have HB := Hd hb
      have hz := hb.size
      by_cases hlt : j < o.length
      · have hlc : ((j : Int) < (o.length : Int)) = True := eq_true (by omega)
        have hrd := (ownsRow_reads HO3.out).below0 hb
        obtain ⟨bx, ox, hix, hce⟩ := hrd.at (P := Tryz.prog) Tryz.underlying53 (by kernel_rfl) j (by simpa [intsB] using hlt)
        simp only [List.getElem_map, intsB] at hce
        have hkl := HOL.out _ (List.getElem_mem hlt)
        have HTK : Hid (o.take (j + 1) = o.take j ++ [o[j]]) := Hd (List.take_succ_eq_append_getElem hlt)
        replace hce : wr.cell? ⟨bx, ox, none⟩ = some (.int .i64 ((o[j] : Nat) : Int)) := hce
        generalize o[j] = k at *
        have hRl : R'.length = a.l.length := by
          have h1 := congrArg List.length HE.out
          rw [H.out.sheet, List.length_map] at h1
          exact h1
        have hkR : k < R'.length := by omega
        obtain ⟨by_, oy, hiy, -, hcy⟩ := (readsK_below0 HR3.out.1 (fun r hr => by obtain ⟨x, -, rfl⟩ := List.mem_map.1 hr; simp [rvRow]) hb).at (P := Tryz.prog) Tryz.underlying22 (by kernel_rfl) k (by simpa using hkR)
        simp only [List.getElem_map] at hcy
        have hc0 := hcy 0 _ rfl
        simp only [Nat.add_zero] at hc0
        have hro : R'[k].1.out = (a.l.getD k noR).out := by
          have h1 : (R'.map Prod.fst)[k]'(by rw [List.length_map]; exact hkR) = a.l[k] := by simp only [HE.out, H.out.sheet]
          rw [List.getElem_map] at h1
          rw [getD_at hkl, h1]
        rw [hro] at hc0
        have HTM : Hid (((o.take (j + 1)).map fun i => (a.l.getD i noR).out) = ((o.take j).map fun i => (a.l.getD i noR).out) ++ [(a.l.getD k noR).out]) := Hd (by rw [HTK.out, List.map_append]; rfl)
        generalize (a.l.getD k noR).out = kp at *
        generalize ((o.take j).map fun i => (a.l.getD i noR).out) = ys at *
        clear hout hb hrd hcy hro hkl hRl
        have hon := HON.out
        go_wp2_with (first
          | (at_builtin
             refine wpList_app _ rfl _ _ 33 rfl tyStrsK w3.heap.size _ _ _ rfl (HOUT.out.alloc _) ⟨wr.heap.size, 0, none⟩ 1 1 [str kp] rfl rfl (news_one ?_) ?_ (by decide) ?_ ?_ ?_
             · rw [cell_of_heap (heap_alloc_here wr _)]; rfl
             · intro u hu; simp at hu; subst hu; rfl
             · have := HON.out; omega
             · simp; omega
             intro v6 w6 ho6 hg6 hloc6))
        have HO6 := Hd ho6
        have HB6 : Hid (Below w3.heap.size w3 w6) := Hd ((HB.out.alloc hz _).grown hg6 (by simp; omega) (fun q hq => (HOUT.out.lt q hq).1))
        clear ho6 hg6 hloc6
        go_wp2
        go_roundw
        case rel => exact ⟨j + 1, by omega, by go_num, by rw [HTM.out, List.map_append]; exact HO6.out, HB6.out⟩
        case measure => simp [intOf]; omega
      · obtain rfl : j = o.length := by omega
        have hlc : ((o.length : Int) < (o.length : Int)) = False := eq_false (by omega)
        rw [List.take_length] at hout
        have HBW := Hd (HB3.out.trans (hb.mono HB3.out.size))
        have KJ := Hd (sjoined_any (o.map fun i => (a.l.getD i noR).out) _ wr (ownsRow_reads hout) (ownsRow_roomy hout) (own_lt hout) (by rw [List.length_map]; have := HON.out; omega) (fun s hs => by
          obtain ⟨i, hi, rfl⟩ := List.mem_map.1 hs
          have h1 := HOL.out i hi
          have h2 := (H.out.short _ (List.getElem_mem h1)).1
          rw [getD_at h1]
          omega))
        obtain ⟨ax, cx, hx, -, -⟩ := id (ownsRow_reads hout)
        rw [List.length_map, List.length_map] at hx
        subst hx
        clear hout hb
        go_wp2_with fail
        refine KJ.out.mono ?_
        rintro e w5 ⟨rfl, hb5⟩
        have HB5 := Hd (HBW.out.trans (hb5.mono HBW.out.size))
        clear hb5
        go_wp2
        go_ret2
        exact SAns.same H.out HB5.out .nil (.order HO.out) (fun _ => rfl)
  · rw [HO.out] at hno
    cases hno
  · exact absurd H.out.right hbad.wrong
theorem SheetBad.iface {S : Nat → Addr} {l : List RuleL} {B : Nat} {err : Value} {w : World} (h : SheetBad S l B err w) : ∃ c p, FaultIs l c p ∧ 0 < c ∧ ErrIs S c err w := by
  obtain ⟨c, p, hf⟩ := h.fault
  exact ⟨c, p, hf, ErrIs.sheet h hf⟩
theorem prules_any {S : Nat → Addr} {w1 w : World} {pb : Nat} {Y : YPl} {vl lv : Value} {R : List RV} {a : SS} (h : PAt S w1 pb Y vl lv R a w) (R' : List RV) (v : Value) (B : Nat) (ho : OwnAt B w v R') (hB : Y.yb < B) (hsh : ∀ x ∈ R', RuleIn 999 x.1) (hn : R'.length ≤ 1000) :
    Calls Tryz.prog 14 #[ptrV Y.yb, v] w fun e w' =>
      (∃ T x c p, e = .returned (.iface T x) ∧ FaultIs (R'.map Prod.fst) c p ∧ 0 < c ∧ ErrIs S c (.iface T x) w' ∧ Below w.heap.size w w') ∨
      (RightS (R'.map Prod.fst) ∧ orderB (edgesB (R'.map Prod.fst)) (fun _ => true) (R'.map Prod.fst).length = none ∧ e = .returned (errI (S 8)) ∧ Below w.heap.size w w') ∨
      (RightS (R'.map Prod.fst) ∧ (∃ o, orderB (edgesB (R'.map Prod.fst)) (fun _ => true) (R'.map Prod.fst).length = some o) ∧ e = .returned .nilIface ∧ ∃ vl' R2, PAt S w1 pb Y vl' lv R2 { a with l := R'.map Prod.fst } w' ∧ STurn Y vl lv R vl' lv R2 w w') := by
  have hs := h.here
  refine (yrules_own (S := S) w h.yard ho hB hs.ml hs.err.k hs.num hs.tab (fun x hx => by
    obtain ⟨h1, h2, h3, h4, h5⟩ := hsh x hx
    exact ⟨by omega, by omega, fun s hs => by have := h4 s hs; omega, by omega⟩) hn).mono ?_
  intro e w' ha
  rcases ha with ⟨T, x, rfl, hbad | ⟨hrs, hno, hx⟩, -, hb⟩ | ⟨rfl, hrs, hord, vl', R2, heq, hY, hown, hF⟩
  · obtain ⟨c, p, hf, hc, he⟩ := hbad.iface
    exact Or.inl ⟨T, x, c, p, rfl, hf, hc, he, hb⟩
  · rw [hx]
    exact Or.inr (Or.inl ⟨hrs, hno, rfl, hb⟩)
  · have ht : STurn Y vl lv R vl' lv R2 w w' := ⟨hF.mono (Nat.le_refl _) (fun q hq e => ⟨0, e⟩), fun i q hq => by
      match i, hq with
      | 0, hq => exact Or.inl hq
      | 1, hq => exact Or.inl hq
      | 2, hq => exact Or.inl hq
      | 3, hq => exact Or.inl hq
      | 4, hq => exact Or.inr (rown_lt hown hq).1⟩
    obtain ⟨h1, h2, h3⟩ := h.turned ht
    exact Or.inr (Or.inr ⟨hrs, hord, rfl, vl', R2, ⟨hY, heq, h.good, h.gout, h.cok, hrs, hord, fun r hr => by
      obtain ⟨x, hx, rfl⟩ := List.mem_map.1 hr
      exact hsh x hx, h.env, h1, h2, h3⟩, ht⟩)
theorem read_ne {s : List UInt8} {l : List RuleL} (h10 : 10 ∈ s) (h : readB s = some l) : l ≠ [] := by
  obtain ⟨a, r, rfl, ha⟩ := split_at h10
  unfold readB at h
  rw [spl_hit ha] at h
  cases hs : spl 10 r with
  | nil => exact absurd hs (spl_ne 10 r)
  | cons q t =>
    rw [hs] at h
    unfold rlinesB at h
    split at h
    · cases h
    · intro e
      subst e
      cases hq : rlinesB (q :: t) with
      | none => rw [hq] at h; cases h
      | some u => rw [hq] at h; cases h
theorem own_news {B : Nat} {w w' : World} {g c : Nat} {R : List RV} (h : OwnAt B w (.slice (some ⟨g, 0, none⟩) R.length c) R) (hb : Below w.heap.size w w') : ∀ j u, (R.map rvRow).flatten[j]? = some u → w'.cell? (Addr.add ⟨g, 0, none⟩ j) = some u := fun j u hj => by
  have hl := (List.getElem?_eq_some_iff.1 hj).1
  rw [rv_flat] at hl
  have h1 := (h.fr hb).1.cellAt j hl
  rw [hj] at h1
  rw [addr_add rfl]
  show w'.cell? ⟨g, 0 + j, none⟩ = _
  rw [Nat.zero_add]
  exact h1
theorem own_one {B : Nat} {w : World} {v : Value} {R : List RV} (h : OwnAt B w v R) : ∀ u ∈ (R.map rvRow).flatten, u.oneCell' = true := fun u hu => by
  obtain ⟨r, hr, hu⟩ := List.mem_flatten.1 hu
  obtain ⟨x, hx, rfl⟩ := List.mem_map.1 hr
  simp only [rvRow, List.mem_cons, List.not_mem_nil, or_false] at hu
  rcases hu with rfl | rfl | rfl | rfl
  · rfl
  · rfl
  · rfl
  · obtain ⟨a, c, he, -⟩ := ownsRow_reads (h.2 x hx).1
    rw [he]
    rfl
theorem ownAt_nil (B : Nat) (w : World) : OwnAt B w (.slice none 0 0) [] := ⟨World.ownsRow_nil _ _ _ _, fun x hx => by cases hx⟩
set_option maxHeartbeats 4000000 in
theorem srule_any {S : Nat → Addr} {w1 w : World} {pb : Nat} {Y : YPl} {vl lv : Value} {R : List RV} {a : SS} (r : List UInt8) (h : PAt S w1 pb Y vl lv R a w) (hr : r.length ≤ 990) :
    Calls Tryz.prog 183 #[ptrV pb, str r] w (SAns S w1 pb Y vl lv R a (.rule (r ++ [10])) w) := by
  have hs := h.here
  have H := Hd h
  have hsl : (r ++ [10]).length ≤ 999 := by simp; omega
  have K1 := Hd (rread_any (S := S) (r ++ [10]) w hsl hs.ml hs.err hs.num hs.tab hs.text)
  have hcat : (⟨r.toArray⟩ : ByteArray) ++ (⟨#[10]⟩ : ByteArray) = ⟨(r ++ [10]).toArray⟩ := by rw [show (⟨#[10]⟩ : ByteArray) = ⟨([10] : List UInt8).toArray⟩ from rfl, str_app]
  have hl1 : ¬ (9223372036854775807 < r.length + 1) := by omega
  have HLN : Hid (∀ l, readB (r ++ [10]) = some l → ∀ x ∈ l, RuleIn 999 x) := Hd (fun l hl => (lines_in hl (fun s hs => by have := spl_mem_len 10 _ s hs; omega)).2)
  have HRN : Hid (10 ∈ r ++ [10]) := Hd (List.mem_append_right _ List.mem_cons_self)
  generalize r ++ [10] = rr at *
  clear hr hsl hs h
  go_enter Tryz.func183, Tryz.ntmps183
  go_wp2_with fail
  refine K1.out.mono ?_
  rintro e w2 ⟨hans, hb2⟩
  have HB2 := Hd hb2
  rcases hans with ⟨hno, g, i, rfl, hg⟩ | ⟨l, T, x, hrd, rfl, hbad⟩ | ⟨l, v, Rl, hrd, hrs, heq, rfl, hown⟩
  · have HF := Hd hg
    have HNO := Hd hno
    clear hg hno hb2
    go_wp2
    go_ret2
    exact SAns.same H.out HB2.out (Or.inr ⟨Nat.le_refl 1, by omega, Or.inr ⟨g, i, rfl, HF.out⟩⟩) (.text HNO.out) (fun h => by cases h)
  · obtain ⟨c, p, hf, hc, he⟩ := hbad.iface
    have HF : Hid (readB rr = some l ∧ FaultIs l c p ∧ 0 < c ∧ ErrIs S c (.iface T x) w2) := Hd ⟨hrd, hf, hc, he⟩
    clear hbad hrd hf hc he hb2
    go_wp2
    go_ret2
    exact SAns.same H.out HB2.out HF.out.2.2.2 (.sheet HF.out.1 HF.out.2.1 HF.out.2.2.1) (fun h => absurd h (by have := HF.out.2.2.1; omega))
  · have HP2 := Hd (H.out.below hb2)
    have KS := Hd HP2.out.sheetY
    have HRD : Hid (readB rr = some l ∧ RightS l ∧ Rl.map Prod.fst = l) := Hd ⟨hrd, hrs, heq⟩
    have HOL := Hd hown
    have hpl := HP2.out.pl
    have HYB : Hid (Y.yb < w.heap.size) := Hd (H.out.yard.lt 0 Y.yb rfl)
    have hne : Rl ≠ [] := fun e => read_ne HRN.out hrd (by rw [← heq, e]; rfl)
    obtain ⟨gl, cvl, rfl⟩ := ownsRow_some hown.1 (List.length_pos_iff.2 hne)
    have HL40 : Hid (Rl.length ≤ 40) := Hd (by have := hrs.1; rw [← heq, List.length_map] at this; exact this)
    have KRU := Hd (fun (w5 : World) (v5 : Value) (R5 : List RV) (hb : Below w.heap.size w w5) (h5 : OwnAt w.heap.size w5 v5 R5) (e5 : R5.map Prod.fst = a.l ++ l) => (prules_any (S := S) (H.out.below hb) R5 v5 w.heap.size h5 HYB.out (fun x hx => by
      have hm : x.1 ∈ a.l ++ l := by rw [← e5]; exact List.mem_map.2 ⟨x, hx, rfl⟩
      exact (List.mem_append.1 hm).elim (H.out.short x.1) (HLN.out l HRD.out.1 x.1)) (by
      have h1 := congrArg List.length e5
      rw [List.length_map, List.length_append] at h1
      have h2 := H.out.right.1
      have h3 := HRD.out.2.1.1
      omega)).mono (fun e w' h => (by
        rw [e5] at h
        rcases h with ⟨T, x, c, p, rfl, hf, hc, he, hb6⟩ | ⟨hr, hno, rfl, hb6⟩ | ⟨hr, ⟨o, ho⟩, rfl, vl', R2, hp, ht⟩
        · exact ⟨_, rfl, SAns.same H.out (hb.trans (hb6.mono hb.size)) he (.sheets HRD.out.1 HRD.out.2.1 hf hc) (fun h => absurd h (by omega)), (H.out.below (hb.trans (hb6.mono hb.size))).pl⟩
        · exact ⟨_, rfl, SAns.same H.out (hb.trans (hb6.mono hb.size)) (ErrIs.some (k := 8) (by omega)) (.cycle HRD.out.1 HRD.out.2.1 hr hno) (fun h => by cases h), (H.out.below (hb.trans (hb6.mono hb.size))).pl⟩
        · exact ⟨_, rfl, ⟨okT, _, 0, okT, _, vl', lv, R2, rfl, .nil, .rules HRD.out.1 HRD.out.2.1 hr ho, fun _ => rfl, hp, (STurn.of_below hb).trans ht⟩, hp.pl⟩ : ∃ err, e = .returned err ∧ SAns S w1 pb Y vl lv R a (.rule rr) w (.returned (.tuple #[str okT, err])) w' ∧ w'.cell? ⟨pb, 0, none⟩ = some (ptrV Y.yb))))
    have KS2 := Hd (fun wl (hb : Below w2.heap.size w2 wl) => (HP2.out.below hb).sheetY)
    clear hb2 hrd hrs heq hown K1 KS hne
    go_wp2_with fail
    go_region_held3 (fun w' => w'.cell? ⟨pb, 0, none⟩ = some (ptrV Y.yb))
      (first | exact hpl6 | exact (HP2.out.below hq5).pl | exact (HP2.out.below hq3).pl | exact hpl | exact HP2.out.pl)
      (first
        | (go_at_call 179
           refine (KS2.out _ ?_).mono ?_
           · first | exact Below.refl _ _ | exact (Below.refl _ _).drew
           rintro e w3 ⟨vs, Rs, rfl, hes, hos, hb3⟩
           have hq3 : Below w2.heap.size w2 w3 := by first | exact hb3 | exact (Below.refl _ _).drew.trans hb3
           have hos2 : OwnAt w2.heap.size w3 vs Rs := hos)
        | (refine step_appK rfl (.tmp 25) (.tmp 26) 22 rfl tyRules w.heap.size vs Rs.length (Rs.map rvRow).flatten rfl (ownsRow_base hos.1 HB2.out.size) ⟨gl, 0, none⟩ Rl.length cvl (Rl.map rvRow).flatten rfl (rv_flat Rl) ?_ ?_ (by decide) ?_ ?_ ?_
           · exact own_news HOL.out hq3
           · exact own_one HOL.out
           · have h1 := HP2.out.lenL hes; have h2 := HL40.out; omega
           · exact Nat.le_trans HB2.out.size hq3.size
           intro v5 w5 ho5 hg5 hloc5
           have h5 : OwnAt w.heap.size w5 v5 (Rs ++ Rl) := OwnAt.more (hos2.base HB2.out.size) (fun x hx => ⟨((HOL.out.fr hq3).2 x hx).1, fun k hk e => by have h1 := ((HOL.out.2 x hx).1.lt k hk).2; have h2 := (hos2.1.lt k e).1; omega⟩) ho5 (Below.refl _ _) hg5 hloc5
           have hq5 : Below w2.heap.size w2 w5 := hq3.grown hg5 hq3.size (fun q hq => (hos2.1.lt q hq).1))
        | (go_at_call 14
           refine (KRU.out w5 v5 (Rs ++ Rl) (HB2.out.trans (hq5.mono HB2.out.size)) h5 (by rw [List.map_append, hes, H.out.sheet, HRD.out.2.2])).mono ?_
           rintro e w6 ⟨err, rfl, hans, hpl6⟩))
    go_wp2
    go_ret2
    exact hans
end Go.Proofs.YtgjialbmlhbngaaGreatDoor
