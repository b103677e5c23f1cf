/-
  The reference's tree (kilnfieldref1.Tree): Find, Paths. The program's tree: Paths, Text. The reference's tree: Text, Remove, Put. The reference's tree: Remove, Put.
-/
import Derived.Test.YtgjialbmlhbngaaGreatDoorPkL
import Derived.Test.YtgjialbmlhbngaaGreatDoorPkD
import Derived.Test.YtgjialbmlhbngaaGreatDoorPkC
import Derived.Test.YtgjialbmlhbngaaGreatDoorPkH0
import Derived.BigQuiet
import Derived.Deep.RegionHeld3
import Derived.Laws.AppendOwnNone

set_option maxRecDepth 100000
namespace Go.Proofs.YtgjialbmlhbngaaGreatDoor
open Go Go.RowKit Go.Kf
abbrev fileRow (e : Ent) : List Value := [str e.1, str e.2]
abbrev fileCells (L : List Ent) : List Value := (L.map fileRow).flatten
theorem fileRow_len {L : List Ent} : ∀ r ∈ L.map fileRow, r.length = 2 := by
  intro r hr
  obtain ⟨e, -, rfl⟩ := List.mem_map.1 hr
  rfl
theorem tyFiles : SliceTyK Tryz.prog 37 39 (.agg #[str [], str []]) 2 32 := ⟨Tryz.underlying37, by kernel_rfl, rfl, by decide⟩
structure RTAt (base : Nat) (w : World) (rb : Nat) (lv : Value) (L : List Ent) : Prop where
  blk : w.heap[rb]? = some (.cells #[lv] 142 (0, 0))
  row : w.ownsRow base 39 2 lv L.length (fileCells L)
  ne : lv.ownBlock ≠ some rb
theorem RTAt.cell {base : Nat} {w : World} {rb : Nat} {lv : Value} {L : List Ent} (h : RTAt base w rb lv L) : w.cell? ⟨rb, 0, none⟩ = some lv := (cell_of_heap h.blk 0).trans rfl
theorem RTAt.reads {base : Nat} {w : World} {rb : Nat} {lv : Value} {L : List Ent} (h : RTAt base w rb lv L) : ReadsK 2 w lv (L.map fileRow) := ownsRow_readsK h.row (by simp) fileRow_len
theorem RTAt.of_fr {base : Nat} {w w' : World} {rb : Nat} {lv : Value} {L : List Ent} (h : RTAt base w rb lv L) {B : Nat} {S : Nat → Prop} (hf : Fr B S w w') (hB : w.heap.size ≤ B) (h1 : ¬ S rb) (h2 : ∀ k, lv.ownBlock = some k → ¬ S k) : RTAt base w' rb lv L :=
  ⟨(hf.block rb (Nat.lt_of_lt_of_le (lt_of_heap h.blk) hB) h1).trans h.blk, ownsRow_fr h.row hf (fun k hk => ⟨Nat.lt_of_lt_of_le (h.row.lt k hk).2 hB, h2 k hk⟩), h.ne⟩
theorem RTAt.below {base : Nat} {w w' : World} {rb : Nat} {lv : Value} {L : List Ent} (h : RTAt base w rb lv L) (hb : Below w.heap.size w w') : RTAt base w' rb lv L :=
  h.of_fr (S := fun _ => False) (Fr.of_below hb) (Nat.le_refl _) id (fun _ _ => id)
theorem mplace_none {p : List UInt8} : ∀ {L : List Ent}, p ∉ L.map Prod.fst → mplace p L = none
  | [], _ => rfl
  | x :: L, h => by
    simp only [List.map_cons, List.mem_cons, not_or] at h
    unfold mplace
    rw [if_neg (fun e => h.1 e.symm), mplace_none h.2]
    rfl
theorem mplace_some {p : List UInt8} : ∀ {L : List Ent} {i : Nat} (h : i < L.length), L[i].1 = p → p ∉ (L.take i).map Prod.fst → mplace p L = some i
  | x :: L, 0, _, he, _ => by
    unfold mplace
    rw [if_pos (show x.1 = p from he)]
  | x :: L, i + 1, h, he, hn => by
    simp only [List.take_succ_cons, List.map_cons, List.mem_cons, not_or] at hn
    unfold mplace
    rw [if_neg (fun e => hn.1 e.symm), mplace_some (L := L) (i := i) (by simpa using h) (by simpa using he) hn.2]
    rfl
def findN (p : List UInt8) (L : List Ent) : Int := match mplace p L with
  | some i => (i : Int)
  | none => -1
theorem fst_take {L : List Ent} {p : List UInt8} {k : Nat} (hk : k < L.length) (h : p ∉ (L.take k).map Prod.fst) (hne : L[k].1 ≠ p) : p ∉ (L.take (k + 1)).map Prod.fst := by
  rw [List.take_succ_eq_append_getElem hk, List.map_append, List.mem_append, not_or]
  refine ⟨h, ?_⟩
  simp only [List.map_cons, List.map_nil, List.mem_singleton]
  exact fun e => hne e.symm
theorem rfind_any (base rb : Nat) (lv : Value) (L : List Ent) (p : List UInt8) (w : World) (h : RTAt base w rb lv L) :
    Calls Tryz.prog 100 #[.pointer (some ⟨rb, 0, none⟩), str p] w fun e w' => e = .returned (.int .i64 (findN p L)) ∧ w = w' := by
  have hr := h.reads
  have hle := hr.le
  have c0 := h.cell
  obtain ⟨a, cap, rfl, -, -⟩ := id hr
  simp only [List.length_map] at *
  have HR := Hd hr
  clear h hr
  go_enter Tryz.func100, Tryz.ntmps100
  go_wp2
  go_loop [5] (fun i => ∃ k : Nat, k ≤ L.length ∧ p ∉ (L.take k).map Prod.fst ∧ i = .int .i64 k) (fun i => L.length - (intOf i).toNat)
  case atStart => exact ⟨0, by omega, by simp, rfl⟩
  case round =>
    obtain ⟨k, hkl, hno, rfl⟩ := hrel
    have HN := Hd hno
    clear hno
    by_cases hlt : k < L.length
    · obtain ⟨b, o, hix, -, hce⟩ := HR.out.at (P := Tryz.prog) Tryz.underlying37 (by kernel_rfl) k (by simpa using hlt)
      have e0 : w.cell? ⟨b, o, none⟩ = some (str L[k].1) := hce 0 _ (by simp)
      clear hce
      by_cases he : L[k].1 = p
      · have hd : (L[k].1 == p) = true := by simpa using he
        have HE := Hd he
        clear he
        go_wp2
        go_ret
        have e1 : findN p L = (k : Int) := by unfold findN; rw [mplace_some hlt HE.out HN.out]
        rw [e1]
        exact ⟨rfl, rfl⟩
      · have hd : (L[k].1 == p) = false := by simpa using he
        have HE := Hd he
        clear he
        go_wp2
        go_round
        case rel => exact ⟨k + 1, by omega, fst_take hlt HN.out HE.out, by go_num⟩
        case measure => simp [intOf]; omega
    · go_wp2
      go_ret
      have := HN.out
      rw [List.take_of_length_le (by omega)] at this
      have e1 : findN p L = -1 := by unfold findN; rw [mplace_none this]
      rw [e1]
      exact ⟨rfl, rfl⟩
theorem tyStrsR : SliceTy Tryz.prog 33 9 (str []) 16 := ⟨Tryz.underlying33, by kernel_rfl, rfl⟩
open Go.Sort
theorem mlook_some {p : List UInt8} : ∀ {m : List Ent}, p ∈ m.map Prod.fst → (mlook p m).isSome = true
  | x :: m, h => by
    unfold mlook
    split
    · rfl
    · rename_i hne
      rcases List.mem_cons.1 h with h | h
      · exact absurd h.symm hne
      · exact mlook_some h
end Go.Proofs.YtgjialbmlhbngaaGreatDoor

namespace Go.Kf
open Go Go.RowKit
theorem ReadsK.pre {s : Nat} {w : World} {ad : Option Addr} {n c : Nat} {rows : List (List Value)} (h : ReadsK s w (.slice ad n c) rows) (k c' : Nat) (hk : k ≤ n) : ReadsK s w (.slice ad k c') (rows.take k) := by
  obtain ⟨a, cap, e, hle, hc⟩ := h
  cases e
  refine ⟨ad, c', by rw [List.length_take, Nat.min_eq_left hk], by rw [List.length_take]; omega, fun i r hi => ?_⟩
  rw [List.getElem?_take] at hi
  split at hi
  · exact hc i r hi
  · cases hi
theorem ReadsK.suf {s : Nat} {w : World} {g o n c : Nat} {rows : List (List Value)} (h : ReadsK s w (.slice (some ⟨g, o, none⟩) n c) rows) (k c' : Nat) (hk : k ≤ n) : ReadsK s w (.slice (some ⟨g, o + k * s, none⟩) (n - k) c') (rows.drop k) := by
  obtain ⟨a, cap, e, hle, hc⟩ := h
  cases e
  refine ⟨_, c', by rw [List.length_drop], by rw [List.length_drop]; omega, fun i r hi => ⟨g, o + k * s, rfl, fun j u hj => ?_⟩⟩
  rw [List.getElem?_drop] at hi
  obtain ⟨b, o', e', hcell⟩ := hc _ r hi
  cases e'
  have := hcell j u hj
  rwa [show o + k * s + i * s + j = o + (k + i) * s + j by rw [Nat.add_mul]; omega]
theorem ReadsK.nil (s : Nat) (w : World) (ad : Option Addr) (c : Nat) : ReadsK s w (.slice ad 0 c) [] := ⟨ad, c, rfl, by simp, fun i r hi => by simp at hi⟩
theorem flat_split {s : Nat} (hs : 0 < s) : ∀ (rows : List (List Value)), (∀ r ∈ rows, r.length = s) → ∀ (j : Nat) (u : Value), rows.flatten[j]? = some u → ∃ r, rows[j / s]? = some r ∧ r[j % s]? = some u
  | [], _, j, u, h => by simp at h
  | x :: rows, hl, j, u, h => by
    have hx : x.length = s := hl x List.mem_cons_self
    rw [List.flatten_cons] at h
    by_cases hj : j < s
    · rw [List.getElem?_append_left (by omega)] at h
      exact ⟨x, by rw [Nat.div_eq_of_lt hj]; rfl, by rw [Nat.mod_eq_of_lt hj]; exact h⟩
    · rw [List.getElem?_append_right (by omega), hx] at h
      obtain ⟨r, h1, h2⟩ := flat_split hs rows (fun r hr => hl r (List.mem_cons_of_mem _ hr)) (j - s) u h
      refine ⟨r, ?_, ?_⟩
      · rw [show j / s = (j - s) / s + 1 by rw [← Nat.add_div_right _ hs, Nat.sub_add_cancel (by omega)]]
        exact h1
      · rw [Nat.mod_eq_sub_mod (by omega)]
        exact h2
theorem wpList_appRead {P : Program} (w : World) {ops : Array Oper} {rest : List Oper} {o : Oper} {a : Act} {Q : Exit → Act → World → Prop}
    (hg : o.guard = none) (s x : Operand) (T : TypeId) (hop : o.op = Op.call { callee := Callee.builtin Builtin.append, args := #[s, x], argTypes := #[T, T] })
    {e : TypeId} {z : Value} {sz bytes : Nat} (hT : SliceTyK P T e z sz bytes) (base : Nat) (v : Value) (n : Nat) (xs : List Value) (hs : a.eval s = v) (hown : w.ownsRow base e sz v n xs)
    (rows : List (List Value)) (ad : Addr) (m c : Nat) (hx : a.eval x = .slice (some ad) m c) (hrd : ReadsK sz w (.slice (some ad) m c) rows) (hr : ∀ r ∈ rows, r.length = sz ∧ ∀ u ∈ r, u.oneCell' = true)
    (hby : bytes ≤ 128) (hlen : n + rows.length ≤ 1000000000) (hbase : base ≤ w.heap.size)
    (h : ∀ v' w', w'.ownsRow base e sz v' (n + rows.length) (xs ++ rows.flatten) → w.grownBy w' v.ownBlock → (v'.ownBlock = v.ownBlock ∨ v'.ownBlock = some w.heap.size) → wpList P ops Q rest (a.put o.dst v') w') :
    wpList P ops Q (o :: rest) a w := by
  have hm := hrd.len
  have hfl : rows.flatten.length = m * sz := by
    rw [hm]
    clear hrd h hlen hm
    induction rows with
    | nil => simp
    | cons r rows ih =>
      simp only [List.flatten_cons, List.length_append, List.length_cons, (hr r List.mem_cons_self).1, ih (fun r hr' => hr r (List.mem_cons_of_mem _ hr'))]
      rw [Nat.add_mul]; omega
  have hnews : ∀ j u, rows.flatten[j]? = some u → w.cell? (ad.add j) = some u := by
    intro j u hj
    obtain ⟨r, h1, h2⟩ := flat_split hT.pos rows (fun r hr' => (hr r hr').1) j u hj
    obtain ⟨a', c', e', -, hc⟩ := hrd
    cases e'
    obtain ⟨b, off, e', hcell⟩ := hc _ r h1
    cases e'
    have := hcell _ u h2
    rw [show off + j / sz * sz + j % sz = off + j by rw [Nat.add_assoc, Nat.div_add_mod']] at this
    rw [addr_add rfl]
    exact this
  refine wpList_appK w hg s x T hop hT base v n xs hs hown ad m c rows.flatten hx hfl hnews (fun u hu => ?_) hby (by omega) hbase (fun v' w' h1 h2 h3 => h v' w' (by rw [← hm]; exact h1) h2 h3)
  obtain ⟨r, hr1, hr2⟩ := List.mem_flatten.1 hu
  exact (hr r hr1).2 u hr2
end Go.Kf
namespace Go.Proofs.YtgjialbmlhbngaaGreatDoor
open Go Go.RowKit Go.Kf
theorem fileRow_ok {L : List Ent} : ∀ r ∈ L.map fileRow, r.length = 2 ∧ ∀ u ∈ r, u.oneCell' = true := by
  intro r hr
  obtain ⟨e, -, rfl⟩ := List.mem_map.1 hr
  exact ⟨rfl, fun u hu => by simp at hu; rcases hu with rfl | rfl <;> rfl⟩
theorem mplace_of_look {p : List UInt8} : ∀ {L : List Ent}, (mlook p L).isSome = true → ∃ i, mplace p L = some i ∧ ∃ h : i < L.length, L[i].1 = p ∧ mdel p L = L.take i ++ L.drop (i + 1) ∧ ∀ b, mupd p b L = L.set i (p, b)
  | [], h => by simp [mlook] at h
  | x :: L, h => by
    unfold mlook at h
    unfold mplace mdel
    by_cases hx : x.1 = p
    · exact ⟨0, by rw [if_pos hx], by simp, hx, by rw [if_pos hx]; simp, fun b => by unfold mupd; rw [if_pos hx]; rfl⟩
    · rw [if_neg hx] at h
      obtain ⟨i, h1, h2, h3, h4, h5⟩ := mplace_of_look h
      exact ⟨i + 1, by rw [if_neg hx, h1]; rfl, by simpa using h2, by simpa using h3, by rw [if_neg hx, h4]; rfl, fun b => by unfold mupd; rw [if_neg hx, h5]; rfl⟩
theorem mplace_of_none {p : List UInt8} : ∀ {L : List Ent}, mlook p L = none → mplace p L = none
  | [], _ => rfl
  | x :: L, h => by
    unfold mlook at h
    unfold mplace
    by_cases hx : x.1 = p
    · rw [if_pos hx] at h; cases h
    · rw [if_neg hx] at h
      rw [if_neg hx, mplace_of_none h]; rfl
end Go.Proofs.YtgjialbmlhbngaaGreatDoor
