/-
  maps.Clone at a map of texts; tree.Copy. Package graph: Order at any rules. Package want: All.
-/
import Derived.Test.YtpihjbfbnoepiaaGreatDoorPkL
import Derived.Laws.Externs
import Derived.MapKept
import Derived.Test.YtpihjbfbnoepiaaGreatDoorPkN
import Derived.Test.YtpihjbfbnoepiaaGreatDoorPkH
import Derived.Test.YtpihjbfbnoepiaaGreatDoorPkO
import Derived.Test.YtpihjbfbnoepiaaGreatDoorPkQ

namespace Go.Proofs.YtpihjbfbnoepiaaGreatDoor
open Go Go.RowKit Go.Kf Go.Sort Go.Proofs

section
variable {P : Program} (w : World)
theorem eqMapNil (d : Nat) (t k e : TypeId) (p : Option Nat) (h : P.underlying t = some (.map k e)) : (Op.equalIn (d + 1) t (.map p) (.map none)).run P w = .ok p.isNone w := by
  cases p <;> simp [Op.equalIn, run_underlying h]
theorem run_eqMapNil (t k e : TypeId) (p : Option Nat) (h : P.underlying t = some (.map k e)) : (binOp .eql t (.map p) (.map none)).run P w = .ok (.bool p.isNone) w := by
  simp only [binOp]
  simp [show Op.equal t (.map p) (.map none) = Op.equalIn (9999 + 1) t (.map p) (.map none) from rfl, eqMapNil w 9999 t k e p h]
theorem run_asMap (t xT k e : TypeId) (v : Value) (h : P.underlying t = some (.map k e)) : (Instr.typeAssert (.iface t v) xT t false).run P w = .ok v w := by
  simp [Instr.typeAssert, run_underlying h, go_sem, Result.andThen]
theorem run_cloneMap {r : Nat} {es : Array MapEntry} {clock : Nat} (t : TypeId) (hb : w.heap[r]? = some (.map es clock)) :
    (Extern.MapsClone.clone #[.iface t (.map (some r))]).run P w = .ok (.iface t (.map (some w.heap.size))) (w.alloc (.map es clock)) := by
  have e : Extern.MapsClone.clone #[.iface t (.map (some r))] = (getObj r >>= fun o => match o with
      | .map entries clock => (newObj (.map entries clock) >>= fun n => pure (.iface t (.map (some n))))
      | _ => stuck "maps.clone: a map expected") := rfl
  rw [e]
  simp [MapKept.run_getObj_map hb, Result.andThen, go_sem]
end

set_option maxRecDepth 100000 in
theorem clone_any (b : Nat) (es : Array MapEntry) (clock : Nat) (w : World) (hb : w.heap[b]? = some (.map es clock)) :
    Calls Tryz.prog 159 #[.map (some b)] w fun e w' => e = .returned (.map (some w.heap.size)) ∧ w' = w.alloc (.map es clock) := by
  have hq := fun w => run_eqMapNil (P := Tryz.prog) w 153 _ _ (some b) Tryz.underlying153
  have hx : (callFunc 204 #[.iface 153 (.map (some b))]).run Tryz.prog w = .ok (.value (.iface 153 (.map (some w.heap.size)))) (w.alloc (.map es clock)) := by
    rw [run_callFunc_extern Tryz.func204 (by kernel_rfl) (by kernel_rfl) (by kernel_rfl) (e := Extern.MapsClone.clone) (by kernel_rfl), run_cloneMap w _ hb]
    rfl
  have hy := fun w => run_asMap (P := Tryz.prog) w 153 20 _ _ (.map (some b)) Tryz.underlying153
  have hy2 := fun n w => run_asMap (P := Tryz.prog) w 153 20 _ _ (.map (some n)) Tryz.underlying153
  clear hb
  go_enter Tryz.func159, Tryz.ntmps159
  go_wp2
  go_ret
  exact ⟨rfl, rfl⟩

set_option maxRecDepth 100000 in
theorem copy_tree (tb mb : Nat) (m : List Ent) (w : World) (h : TAt w tb mb m) :
    Calls Tryz.prog 103 #[.pointer (some ⟨tb, 0, none⟩)] w fun e w' => e = .returned (.pointer (some ⟨w.heap.size + 1, 0, none⟩)) ∧ TAt w' (w.heap.size + 1) w.heap.size m ∧ Below w.heap.size w w' ∧ w'.heap.size = w.heap.size + 2 := by
  have hc := h.cell
  obtain ⟨es, clock, hb, hm⟩ := h.map
  have HM := Lib.hid hm
  have HK := Lib.hid (clone_any mb es clock w hb)
  clear hb h hm
  go_enter Tryz.func103, Tryz.ntmps103
  go_wp2_with fail
  refine HK.out.mono ?_
  rintro e w1 ⟨rfl, rfl⟩
  go_wp2
  go_ret
  have h1 := heap_alloc_here (w.alloc (.map es clock)) (.cells #[.map (some w.heap.size)] 155)
  rw [show (w.alloc (.map es clock)).heap.size = w.heap.size + 1 by simp] at h1
  exact ⟨rfl, ⟨h1, es, clock, Kf.heap_alloc_old (heap_alloc_here w _) _, HM.out⟩, ((Below.refl _ w).alloc (Nat.le_refl _) _).alloc (by simp) _, by simp⟩
end Go.Proofs.YtpihjbfbnoepiaaGreatDoor

namespace Go.Proofs.YtpihjbfbnoepiaaGreatDoor
open Go Go.RowKit Go.Kf Go.Sort Go.Proofs

/-- What Order answers. -/
def OrderAns (S : Nat → Addr) (l : List RuleL) (B : Nat) (e : Ending) (w' : World) : Prop :=
  (RightS l ∧ ((∃ o u, orderB (edgesB l) (fun _ => true) l.length = some o ∧ e = .returned (.tuple #[u, .nilIface]) ∧ w'.ownsRow B 3 1 u o.length ((intsB o).map (Value.int .i64))) ∨
    (orderB (edgesB l) (fun _ => true) l.length = none ∧ e = .returned (.tuple #[.slice none 0 0, errI (S 8)])))) ∨ ∃ T x, e = .returned (.tuple #[.slice none 0 0, .iface T x]) ∧ SheetBad S l B (.iface T x) w'

theorem gorder1_any (j : Nat) (w : World) : Calls Tryz.prog 173 #[intE j] w fun e w' => e = .returned (.bool true) ∧ w' = w := by
  go_enter Tryz.func173, Tryz.ntmps173
  go_wp2
  go_ret
  trivial

set_option maxRecDepth 100000 in
set_option maxHeartbeats 4000000 in
theorem gorder_any (R : List RV) (v : Value) (w : World) (S : Nat → Addr) (hR : RulesAt w v R) (hcap : Roomy v) (hm : Ml w) (hE : KErr w S) (hN : NErr w) (ht : Tab w)
    (hb : ∀ x ∈ R, x.1.out.length ≤ 1000000 ∧ x.1.word.length ≤ 100000 ∧ (∀ s ∈ x.1.ins, s.length ≤ 1000000) ∧ x.1.ins.length ≤ 1000) (hn : R.length ≤ 100000) :
    Calls Tryz.prog 118 #[v] w fun e w' => OrderAns S (R.map Prod.fst) w.heap.size e w' ∧ Below w.heap.size w w' := by
  obtain ⟨a, c, hv, -, -⟩ := id hR.1
  rw [List.length_map] at hv
  subst hv
  have KS := Lib.hid (sheet_any R (.slice a R.length c) w S hR hcap hm hE hN ht hb hn)
  have HR := Lib.hid hR
  have HE := Lib.hid hE
  have HB := Lib.hid hb
  have hml : (R.map Prod.fst).length = R.length := List.length_map _
  have HML := Lib.hid hml
  clear hR hcap hm hE hN ht hb hml
  go_enter Tryz.func118, Tryz.ntmps118
  go_wp2_with fail
  refine KS.out.mono ?_
  rintro e w1 ⟨hs, hb1⟩
  rcases sheet_split hs with ⟨hrs, rfl⟩ | ⟨T, x, rfl, hbad⟩
  case inr =>
    have HB1 := Lib.hid hb1
    have HBAD := Lib.hid hbad
    clear hs hb1 hbad
    go_wp2
    go_ret2
    exact ⟨Or.inr ⟨T, x, rfl, HBAD.out⟩, HB1.out⟩
  case inl =>
    have HRS := Lib.hid hrs
    have h40 : R.length ≤ 40 := by have := hrs.1; rw [HML.out] at this; exact this
    have HB1 := Lib.hid hb1
    have KE := Lib.hid (edges_any R (.slice a R.length c) w1 (HR.out.below0 hb1) hrs.2 (by omega) (fun x hx => (HB.out x hx).2.2.2))
    clear hs hb1 hrs KS
    go_wp2_with fail
    refine KE.out.mono ?_
    rintro e w2 ⟨ev, rfl, hea, hb2⟩
    have hev : EdgesV w2 ev R.length (edgesB (R.map Prod.fst)) := by
      have := hea.view (by rw [HML.out]; omega)
      rw [HML.out] at this
      exact this
    have HB2 := Lib.hid (HB1.out.trans (hb2.mono HB1.out.size))
    have HZ := HB2.out.size
    have KO := Lib.hid (order_any ev R.length (edgesB (R.map Prod.fst)) (fun _ => true) 173 #[] w2 hev (fun i k hk => by have h := edges_lt _ i k hk; rw [HML.out] at h; exact h)
      ⟨fun _ _ => rfl, fun W x _ _ => fnGives_drew (gorder1_any x W)⟩ (by omega))
    clear hea hb2 hev KE
    go_wp2_with fail
    refine KO.out.mono ?_
    rintro e w3 ⟨⟨o, u, ho, rfl, how⟩ | ⟨ho, rfl⟩, hb3⟩
    · have HO := Lib.hid ho
      have HOW := Lib.hid how
      have HB3 := Lib.hid (HB2.out.trans (hb3.mono HZ))
      clear ho how hb3 KO
      go_wp2
      go_ret2
      exact ⟨Or.inl ⟨HRS.out, Or.inl ⟨o, u, by rw [HML.out]; exact HO.out, rfl, ownsRow_base HOW.out HZ⟩⟩, HB3.out⟩
    · have HO := Lib.hid ho
      have HB3 := Lib.hid (HB2.out.trans (hb3.mono HZ))
      have hcy := (HE.out.below HB3.out (Nat.le_refl _)).cycle
      clear ho hb3 KO
      go_wp2_with fail
      go_quiet (fail)
      go_wp2
      go_ret2
      exact ⟨Or.inl ⟨HRS.out, Or.inr ⟨by rw [HML.out]; exact HO.out, rfl⟩⟩, by first | exact HB3.out | exact HB3.out.drew | exact below_drewN HB3.out _⟩
end Go.Proofs.YtpihjbfbnoepiaaGreatDoor

namespace Go.Proofs.YtpihjbfbnoepiaaGreatDoor
open Go Go.RowKit Go.Kf Go.Sort Go.Proofs

/-- A tree with what is made beside it. -/
def allM (l : List RuleL) (T : Look) (o : List Nat) (m : List Ent) : List Ent :=
  o.foldl (fun m i => if (wantV l T (l.getD i noR).out).1 = 0 then putM (l.getD i noR).out (wantV l T (l.getD i noR).out).2 m else m) m
theorem allM_snoc (l : List RuleL) (T : Look) (o : List Nat) (i : Nat) (m : List Ent) : allM l T (o ++ [i]) m = if (wantV l T (l.getD i noR).out).1 = 0 then putM (l.getD i noR).out (wantV l T (l.getD i noR).out).2 (allM l T o m) else allM l T o m := by
  unfold allM
  rw [List.foldl_append]
  rfl
/-- What All answers. -/
def WAllAns (S : Nat → Addr) (l : List RuleL) (T : Look) (m : List Ent) (B : Nat) (e : Ending) (w' : World) : Prop :=
  (RightS l ∧ ((∃ o tb' mb', orderB (edgesB l) (fun _ => true) l.length = some o ∧ e = .returned (.tuple #[.pointer (some ⟨tb', 0, none⟩), .nilIface]) ∧ B ≤ tb' ∧ B ≤ mb' ∧ TAt w' tb' mb' (allM l T o m)) ∨
    (orderB (edgesB l) (fun _ => true) l.length = none ∧ e = .returned (.tuple #[.pointer none, errI (S 8)])))) ∨ ∃ T x, e = .returned (.tuple #[.pointer none, .iface T x]) ∧ SheetBad S l B (.iface T x) w'

theorem mupd_len {p b : List UInt8} : ∀ (m : List Ent), (mupd p b m).length = if (mlook p m).isSome = true then m.length else m.length + 1
  | [] => rfl
  | (q, c) :: m => by
    unfold mupd mlook
    simp only
    by_cases h : q = p
    · rw [if_pos h, if_pos h]; rfl
    · rw [if_neg h, if_neg h, List.length_cons, mupd_len m]
      split <;> simp
theorem putM_len {p b : List UInt8} {m : List Ent} (h : m.length ≤ 60) : (putM p b m).length ≤ 60 := by
  unfold putM
  split
  · rename_i hc
    rw [mupd_len]
    split
    · exact h
    · rename_i hs
      unfold putC at hc
      split at hc
      · cases hc
      split at hc
      · cases hc
      split at hc
      · cases hc
      split at hc
      · cases hc
      · rename_i h5
        rw [not_and] at h5
        have := h5 (by simpa using hs)
        omega
  · exact h
theorem mem_mupd {p b : List UInt8} {x : Ent} : ∀ {m : List Ent}, x ∈ mupd p b m → x = (p, b) ∨ x ∈ m
  | [], h => by simp [mupd] at h; exact Or.inl h
  | (q, c) :: m, h => by
    unfold mupd at h
    split at h
    · rcases List.mem_cons.1 h with h | h
      · exact Or.inl h
      · exact Or.inr (List.mem_cons_of_mem _ h)
    · rcases List.mem_cons.1 h with h | h
      · exact Or.inr (List.mem_cons.2 (Or.inl h))
      · rcases mem_mupd h with h | h
        · exact Or.inl h
        · exact Or.inr (List.mem_cons_of_mem _ h)
theorem putM_keys {p b : List UInt8} {m : List Ent} {n : Nat} (hp : p.length ≤ n) (h : ∀ y ∈ m, y.1.length ≤ n) : ∀ y ∈ putM p b m, y.1.length ≤ n := by
  intro y hy
  unfold putM at hy
  split at hy
  · rcases mem_mupd hy with rfl | hy
    · exact hp
    · exact h y hy
  · exact h y hy

set_option maxRecDepth 100000 in
set_option maxHeartbeats 4000000 in
theorem wall_any {S : Nat → Addr} {R : List RV} {v : Value} {tb mb : Nat} {m : List Ent} (w : World) (hR : RulesAt w v R) (hcap : Roomy v) (hT : TAt w tb mb m) (hm : Ml w) (hE : KErr w S) (hL : LErr w S) (hN : NErr w) (ht : Tab w) (hTE : TErr w S)
    (hb : ∀ x ∈ R, x.1.out.length ≤ 1000000 ∧ x.1.word.length ≤ 100000 ∧ (∀ s ∈ x.1.ins, s.length ≤ 1000000) ∧ x.1.ins.length ≤ 1000) (hf : ∀ p b, mlook p m = some b → b.length ≤ 2000) (hn : R.length ≤ 1000) (hml : m.length ≤ 60) (hmk : ∀ y ∈ m, y.1.length ≤ 1000000) :
    Calls Tryz.prog 44 #[.pointer (some ⟨tb, 0, none⟩), v] w fun e w' => WAllAns S (R.map Prod.fst) (fun p => mlook p m) m w.heap.size e w' ∧ Below w.heap.size w w' := by
  obtain ⟨a, c, hv, -, -⟩ := id hR.1
  rw [List.length_map] at hv
  subst hv
  have hmm := @run_makeMap Tryz.prog
  have KO := Lib.hid (gorder_any R (.slice a R.length c) w S hR hcap hm hE hN ht hb (by omega))
  have HC0 : Hid (∀ wl, Right (R.map Prod.fst) → Below w.heap.size w wl → WCtx S R (.slice a R.length c) tb mb m wl) := Lib.hid (fun wl hri hb' =>
    WCtx.below (w := w) ⟨hR, hcap, hT, hm, hE, hL, hN, ht, hri, hb, hf, hn⟩ hb')
  have HTE := Lib.hid hTE
  have hml2 : (R.map Prod.fst).length = R.length := List.length_map _
  have HML := Lib.hid hml2
  have HMK := Lib.hid hmk
  clear hR hcap hm hE hN ht hb hml2 hT hL hf hTE hmk
  go_enter Tryz.func44, Tryz.ntmps44
  go_wp2_with fail
  refine KO.out.mono ?_
  rintro e w1 ⟨⟨hrs, ⟨o, u, ho, rfl, how⟩ | ⟨ho, rfl⟩⟩ | ⟨T, x, rfl, hbad⟩, hb1⟩
  case inr =>
    have HB1 := Lib.hid hb1
    have HBAD := Lib.hid hbad
    clear hb1 hbad
    go_wp2
    go_ret2
    exact ⟨Or.inr ⟨T, x, rfl, HBAD.out⟩, HB1.out⟩
  case inl.inr =>
    have HB1 := Lib.hid hb1
    have HO := Lib.hid ho
    have HRS := Lib.hid hrs
    clear hb1 ho hrs
    go_wp2
    go_ret2
    exact ⟨Or.inl ⟨HRS.out, Or.inr ⟨HO.out, rfl⟩⟩, HB1.out⟩
  case inl.inl =>
    have HRS := Lib.hid hrs
    have h40 : R.length ≤ 40 := by have := hrs.1; rw [HML.out] at this; exact this
    have HC : Hid (∀ wl, Below w.heap.size w wl → WCtx S R (.slice a R.length c) tb mb m wl) := Lib.hid (fun wl h => HC0.out wl hrs.2 h)
    have HB1 := Lib.hid hb1
    have HO := Lib.hid ho
    have HOW := Lib.hid how
    obtain ⟨W5, hW5⟩ : ∃ X, (w1.alloc (.map #[] 0)).alloc (.cells #[.pointer (some ⟨tb, 0, none⟩), .slice a R.length c, .map (some w1.heap.size)] 161) = X := ⟨_, rfl⟩
    obtain ⟨hA5, hB5, hz5⟩ := ask_new (R.map Prod.fst) (fun p => mlook p m) (HC.out w1 hb1) hW5
    have HZ5 := Lib.hid hz5
    have HA5 := Lib.hid hA5
    have HB5 := Lib.hid hB5
    have KC := Lib.hid (copy_tree tb mb m W5 (HC.out W5 (hb1.trans (hB5.mono hb1.size))).tree)
    clear hb1 ho hrs how HC0 KO hA5 hB5 hz5
    go_wp2_with fail
    refine KC.out.mono ?_
    rintro e w6 ⟨rfl, hT6, hB6, hz6⟩
    obtain ⟨au, cu, hu, hole, -⟩ := reads_ints HOW.out
    rw [List.length_map] at hu hole
    subst hu
    have HRO := Lib.hid (reads_ints HOW.out)
    have HT6 := Lib.hid hT6
    have HA6 := Lib.hid (HA5.out.below hB6)
    have HB6 := Lib.hid hB6
    have HOM := Lib.hid (order_mem HO.out).1
    have hz1 := HB1.out.size
    have HW : Hid (∀ wl, Fr W5.heap.size (fun q => q = w1.heap.size) W5 wl → Below w1.heap.size w1 wl) := Lib.hid (fun wl h => HB5.out.trans ((h.mono (S' := fun q => q = w1.heap.size) HB5.out.size (fun _ _ h => h)).below (fun k hk e => by have hz5 := HZ5.out; omega)))
    have hol : o.length ≤ 40 := by have hz5 := HZ5.out; have := outs_len HOM.out; rw [HML.out] at this; omega
    clear hT6 hB6 hW5 hole
    go_wp2_with fail
    go_loopw [33] (fun iv wl => ∃ (j : Nat) (K : List (List UInt8 × Told)) (m2 : List Ent), j ≤ o.length ∧ iv = .int .i64 j ∧ m2 = allM (R.map Prod.fst) (fun p => mlook p m) (o.take j) m ∧ AskAt S (R.map Prod.fst) (fun p => mlook p m) (.slice a R.length c) (w1.heap.size + 1) tb w1.heap.size wl K ∧ TAt wl (W5.heap.size + 1) W5.heap.size m2 ∧ m2.length ≤ 60 ∧ (∀ y ∈ m2, y.1.length ≤ 1000000) ∧ Fr W5.heap.size (fun q => q = w1.heap.size) W5 wl ∧ W5.heap.size + 2 ≤ wl.heap.size) (fun iv _ => o.length - (intOf iv).toNat)
    case atStart => exact ⟨0, [], m, by have hz5 := HZ5.out; omega, rfl, rfl, HA6.out, HT6.out, hml, HMK.out, Fr.of_below HB6.out, by have hz5 := HZ5.out; omega⟩
    case round =>
      obtain ⟨j, K, m2, hj, rfl, hm2, hask, htr, hl2, hk2, hfr, hzr⟩ := hrel
      have HM2 := Lib.hid hm2
      have HTR := Lib.hid htr
      have HK2 := Lib.hid hk2
      have HFR := Lib.hid hfr
      by_cases hlj : j < o.length
      · have hlc : ((j : Int) < (o.length : Int)) = True := eq_true (by have hz5 := HZ5.out; omega)
        obtain ⟨b, ofs, hix, hce⟩ := (HRO.out.below0 (HW.out _ hfr)).at (P := Tryz.prog) Tryz.underlying31 (by kernel_rfl) j (by simpa using hlj)
        simp only [List.getElem_map] at hce
        have HTK : Hid (o.take (j + 1) = o.take j ++ [o[j]]) := Lib.hid (by rw [List.take_succ_eq_append_getElem hlj])
        have hwr : Below w.heap.size w wr := HB1.out.trans ((HW.out _ hfr).mono hz1)
        have hit := (HOM.out.lt o[j] (List.getElem_mem hlj)).1
        have KA := Lib.hid (ask_rule (HC.out w1 HB1.out) (w1.heap.size + 1) w1.heap.size (by have hz5 := HZ5.out; omega) (by have hz5 := HZ5.out; omega) HOM.out j hlj hit wr K (HW.out _ hfr) hask)
        generalize hi : o[j] = i at *
        have hi2 : i < R.length := by rw [HML.out] at hit; exact hit
        obtain ⟨b2, o2, hix2, -, hce2⟩ := (HC.out w (Below.refl _ _)).rules.1.at (P := Tryz.prog) Tryz.underlying23 (by kernel_rfl) i (by simpa using hi2)
        simp only [List.getElem_map] at hce2
        have hr00 := hce2 0 _ rfl
        simp only [Nat.add_zero] at hr00
        have HSH := Lib.hid ((HC.out wr hwr).short _ (List.getElem_mem hi2))
        have HGD : Hid (((R.map Prod.fst).getD i noR).out = (R.map Prod.fst)[i].out) := Lib.hid (by rw [List.getD_eq_getElem?_getD, List.getElem?_eq_getElem hit]; rfl)
        have HRE : Hid ((R.map Prod.fst)[i].out = R[i].1.out) := Lib.hid (by rw [List.getElem_map])
        rw [HRE.out] at KA HGD
        generalize hrx : R[i] = x at *
        obtain ⟨⟨x0, x1, x2, x4⟩, x3⟩ := x
        simp only at KA HGD hr00 HSH
        have hr0 := (hwr.cell (lt_of_cell hr00)).trans hr00
        have HB2L := Lib.hid (lt_of_cell hr00)
        have HR0 := Lib.hid (fun wl (hb : Below w.heap.size w wl) => (hb.cell (lt_of_cell hr00)).trans hr00)
        clear hr00
        have HRX := Lib.hid hrx
        clear hrx
        obtain ⟨xc, xb, hx⟩ : ∃ xc xb, wantV (R.map Prod.fst) (fun p => mlook p m) x0 = (xc, xb) := ⟨_, _, rfl⟩
        have HSN := Lib.hid (allM_snoc (R.map Prod.fst) (fun p => mlook p m) (o.take j) i m)
        rw [HGD.out, hx, ← HTK.out, ← hm2] at HSN
        simp only at HSN
        have HXW := Lib.hid hx
        have HEQ : Hid (toldV S (wantV (R.map Prod.fst) (fun p => mlook p m) x0) = .agg #[str xb, errN S xc]) := Lib.hid (by rw [hx]; rfl)
        clear hx hce2 hi hask htr hm2 HRE hk2 hit
        cases xc with
        | succ ec =>
          rw [if_neg (Nat.succ_ne_zero _)] at HSN
          have HEQ2 : Hid (toldV S (wantV (R.map Prod.fst) (fun p => mlook p m) x0) = .agg #[str xb, errI (S ec)]) := Lib.hid HEQ.out
          clear HEQ
          go_wp2_with fail
          refine KA.out.mono ?_
          rintro e w2 ⟨K2, rfl, hA2, hF2⟩
          rw [HEQ2.out]
          have hf2 : Fr W5.heap.size (fun q => q = w1.heap.size) W5 w2 := hfr.trans (hF2.mono (by have hz5 := HZ5.out; omega) (fun _ _ h => h))
          have HF2 := Lib.hid (hf2.alloc (Nat.le_trans (Nat.le_refl _) hf2.size) (.cells #[str xb, errI (S ec)] 163))
          have HA2 := Lib.hid (hA2.below ((Below.refl _ w2).alloc (Nat.le_refl _) (.cells #[str xb, errI (S ec)] 163)))
          have HT2 := Lib.hid ((HTR.out.of_fr hF2 HTR.out.lt (by have hz5 := HZ5.out; omega) (by have hz5 := HZ5.out; omega)).below ((Below.refl _ w2).alloc (Nat.le_refl _) (.cells #[str xb, errI (S ec)] 163)))
          have HZ2 := Lib.hid hF2.size
          clear hA2 hF2 hf2 hfr
          go_wp2
          go_roundw
          case rel => exact ⟨j + 1, K2, m2, by have hz5 := HZ5.out; omega, by go_num, HSN.out.symm, HA2.out, HT2.out, hl2, HK2.out, HF2.out, by have hz5 := HZ5.out; have := HZ2.out; simp; omega⟩
          case measure => simp [intOf]; omega
        | zero =>
          rw [if_pos rfl] at HSN
          have HEQ2 : Hid (toldV S (wantV (R.map Prod.fst) (fun p => mlook p m) x0) = .agg #[str xb, .nilIface]) := Lib.hid HEQ.out
          clear HEQ
          go_wp2_with fail
          refine KA.out.mono ?_
          rintro e w2 ⟨K2, rfl, hA2, hF2⟩
          rw [HEQ2.out]
          have hf2 : Fr W5.heap.size (fun q => q = w1.heap.size) W5 w2 := hfr.trans (hF2.mono (by have hz5 := HZ5.out; omega) (fun _ _ h => h))
          obtain ⟨w3, hw3⟩ : ∃ X, w2.alloc (.cells #[str xb, .nilIface] 163) = X := ⟨_, rfl⟩
          have hA3 : Below w2.heap.size w2 w3 := hw3 ▸ (Below.refl _ w2).alloc (Nat.le_refl _) _
          have hf3 : Fr W5.heap.size (fun q => q = w1.heap.size) W5 w3 := hw3 ▸ hf2.alloc (Nat.le_trans (Nat.le_refl _) hf2.size) _
          have hT3 := (HTR.out.of_fr hF2 HTR.out.lt (by have hz5 := HZ5.out; omega) (by have hz5 := HZ5.out; omega)).below hA3
          have HF3 := Lib.hid hf3
          have HA3 := Lib.hid (hA2.below hA3)
          have HZ3 := Lib.hid (Nat.le_trans hF2.size hA3.size)
          have hC3 := HC.out w3 (HB1.out.trans ((HW.out _ hf3).mono hz1))
          have KP : Hid (∀ wl, Below w3.heap.size w3 wl → Calls Tryz.prog 23 #[.pointer (some ⟨W5.heap.size + 1, 0, none⟩), str x0, str xb] wl fun e w' => e = .returned (codeV S (putC x0 xb m2)) ∧ TAt w' (W5.heap.size + 1) W5.heap.size (putM x0 xb m2) ∧ Fr w3.heap.size (fun k => k = W5.heap.size) w3 w') := Lib.hid (fun wl hbl => by
            have hC4 := hC3.below (Below.mono hbl (Nat.le_refl _))
            refine (put_tree (W5.heap.size + 1) W5.heap.size m2 x0 xb wl S (hT3.below hbl) hC4.ml ((HTE.out.below (HB1.out.trans ((HW.out _ hf3).mono hz1)) (Nat.le_refl _)).below hbl (Nat.le_refl _)) HSH.out.1 (by have hz5 := HZ5.out; omega) HK2.out).mono ?_
            rintro e w' ⟨h1, h2, h3⟩
            exact ⟨h1, h2, (Fr.of_below hbl).trans (h3.mono hbl.size (fun _ _ h => h))⟩)
          have HS4 : Hid (∀ wl, Below w3.heap.size w3 wl → wl.cell? ⟨b2, o2, none⟩ = some (str x0) ∧ wl.cell? ⟨w2.heap.size, 0, none⟩ = some (str xb)) := Lib.hid (fun wl hbl => ⟨HR0.out wl ((HB1.out.trans ((HW.out _ hf3).mono hz1)).trans (hbl.mono (HB1.out.trans ((HW.out _ hf3).mono hz1)).size)), (hbl.cell (p := ⟨w2.heap.size, 0, none⟩) (by rw [← hw3]; simp)).trans (by rw [← hw3, cell_of_heap (heap_alloc_here w2 _)]; rfl)⟩)
          have HS9 : Hid (∀ wl, Fr w3.heap.size (fun k => k = W5.heap.size) w3 wl → wl.cell? ⟨b2, o2, none⟩ = some (str x0) ∧ wl.cell? ⟨w2.heap.size, 0, none⟩ = some (str xb)) := Lib.hid (fun wl hf => by
            have h0 := HS4.out w3 (Below.refl _ _)
            have hb2 : b2 < w.heap.size := HB2L.out
            have hz5 := HZ5.out
            have hzw2 : wr.heap.size ≤ w2.heap.size := hF2.size
            exact ⟨(hf.cell (p := ⟨b2, o2, none⟩) (lt_of_cell h0.1) (by show ¬ b2 = W5.heap.size; omega)).trans h0.1, (hf.cell (p := ⟨w2.heap.size, 0, none⟩) (lt_of_cell h0.2) (by show ¬ w2.heap.size = W5.heap.size; omega)).trans h0.2⟩)
          have HW3 := Lib.hid hw3
          clear hA2 hF2 hf2 hfr hA3 hf3 hT3 hC3 hw3
          go_wp2_with fail
          rw [HW3.out]
          go_region_held3 (fun w' => w'.cell? ⟨b2, o2, none⟩ = some (str x0) ∧ w'.cell? ⟨w2.heap.size, 0, none⟩ = some (str xb))
            (first | exact HS9.out _ hF4 | exact HS4.out _ (Below.refl _ _) | exact HS4.out _ (Below.refl _ _).drew)
            (first
              | (go_at_call 23
                 refine (KP.out _ ?_).mono ?_
                 · first | exact (Below.refl _ _) | exact (Below.refl _ _).drew
                 rintro e w4 ⟨rfl, hT4, hF4⟩))
          have HA4 := Lib.hid (HA3.out.fr hF4 HA3.out.lt (by have hz5 := HZ5.out; omega) (by have hz5 := HZ5.out; omega))
          have HF4 := Lib.hid (HF3.out.trans (hF4.mono (S' := fun q => q = w1.heap.size) (by have hz5 := HZ5.out; have := HZ3.out; omega) (fun k hk e => absurd e (by have hz5 := HZ5.out; omega))))
          have HT4 := Lib.hid hT4
          have HZ4 := Lib.hid (Nat.le_trans HZ3.out hF4.size)
          clear hT4 hF4
          go_wp2
          go_roundw
          case rel => exact ⟨j + 1, K2, _, by have hz5 := HZ5.out; omega, by go_num, HSN.out.symm, HA4.out, HT4.out, putM_len hl2, putM_keys HSH.out.1 HK2.out, HF4.out, by have hz5 := HZ5.out; have := HZ4.out; omega⟩
          case measure => simp [intOf]; omega
      · obtain rfl : j = o.length := by have hz5 := HZ5.out; omega
        have hlc : ((o.length : Int) < (o.length : Int)) = False := eq_false (by have hz5 := HZ5.out; omega)
        rw [List.take_length] at hm2
        have HM9 := Lib.hid hm2
        clear hm2 hask htr hk2 hfr
        go_wp2
        go_ret2
        exact ⟨Or.inl ⟨HRS.out, Or.inl ⟨o, W5.heap.size + 1, W5.heap.size, HO.out, rfl, by have hz5 := HZ5.out; omega, by have hz5 := HZ5.out; omega, by rw [← HM9.out]; exact HTR.out⟩⟩, HB1.out.trans ((HW.out _ HFR.out).mono hz1)⟩
end Go.Proofs.YtpihjbfbnoepiaaGreatDoor
