/-
  Package act: lines that have a word in them; pair and swap.
-/
import Derived.Test.YtmkpeopebddnjaaGreatDoorActN
import Derived.Test.YtmkpeopebddnjaaGreatDoorActQ
namespace Go.Proofs.YtmkpeopebddnjaaGreatDoor
open Go Go.RowKit Go.Kf Go.Sort Go.Proofs

def linesWith (word s : List UInt8) : List (List UInt8) := (linesB s).filter fun x => Lib.contains x word

set_option maxRecDepth 100000 in
/-- The function value of lines. -/
theorem lines_fn (word x : List UInt8) (B : Nat) (W : World) (hm : Ml W) (hx : x.length ≤ 1000000) (hc : W.cell? ⟨B, 0, none⟩ = some (str word)) :
    Calls Tryz.prog 108 #[str x, .pointer (some ⟨B, 0, none⟩)] W fun e w' => e = .returned (.bool (!Lib.contains x word)) ∧ w' = W := by
  obtain ⟨m, hm⟩ := hm
  have K := Lib.hid (Tryz.strings_Contains ⟨x.toArray⟩ ⟨word.toArray⟩ m W (by simp [ByteArray.size]; omega) hm)
  clear hm
  go_enter Tryz.func108, Tryz.ntmps108
  go_wp2_with fail
  refine K.out.mono ?_
  rintro e w' ⟨rfl, rfl⟩
  go_wp2
  go_ret
  exact ⟨rfl, rfl⟩

/-- Texts that are not too long. -/
abbrev Short := {l : List UInt8 // l.length ≤ 1000000}
instance : Inhabited Short := ⟨⟨[], by decide⟩⟩
abbrev encS (x : Short) : Value := str x.1
theorem shorts : ∀ (L : List (List UInt8)), (∀ s ∈ L, s.length ≤ 1000000) → ∃ D : List Short, D.map (·.1) = L
  | [], _ => ⟨[], rfl⟩
  | s :: L, h => by
    obtain ⟨D, hD⟩ := shorts L (fun q hq => h q (List.mem_cons_of_mem _ hq))
    exact ⟨⟨s, h s List.mem_cons_self⟩ :: D, by rw [List.map_cons, hD]⟩
theorem putCells_short (off : Nat) (D : List Short) (c : Array Value) : putCells encS off D.toArray c = putCells encStr off (D.map (·.1)).toArray c := by
  unfold putCells
  congr 1
  funext k x
  simp only [List.size_toArray, List.length_map]
  split
  · rename_i h
    have hk : k - off < D.length := by omega
    rw [getElem!_pos _ _ (by simpa using hk), getElem!_pos _ _ (by simpa using hk)]
    simp
  · rfl
theorem putRow_short (w : World) (blk off : Nat) (D : List Short) : putRow encS w blk off D.toArray = putRow encStr w blk off (D.map (·.1)).toArray := by
  unfold putRow
  congr 1
  funext c
  exact putCells_short off D c
theorem holds_short {w : World} {blk off : Nat} {D : List Short} (h : Holds encStr w blk off (D.map (·.1)).toArray) : Holds encS w blk off D.toArray := fun j hj => by
  have hj' : j < D.length := by simpa using hj
  have := h j (by simpa using hj')
  rw [getElem!_pos _ _ (by simpa using hj')] at this
  rw [getElem!_pos _ _ (by simpa using hj')]
  simpa using this

set_option maxHeartbeats 1000000 in
set_option maxRecDepth 100000 in
/-- slices.DeleteFunc with that function value: what has the word stays. -/
theorem delete_any (word : List UInt8) (L : List (List UInt8)) (g c x : Nat) (w0 w : World) (hown : w.ownsRow w0.heap.size 9 1 (.slice (some ⟨g, 0, none⟩) L.length c) L.length (L.map str)) (hm : Ml w0) (hb : Below w0.heap.size w0 w)
    (hbox : w0.cell? ⟨x, 0, none⟩ = some (str word)) (hL : ∀ s ∈ L, s.length ≤ 1000000) (hn : L.length ≤ 1000001) :
    Calls Tryz.prog 106 #[.slice (some ⟨g, 0, none⟩) L.length c, .func (.func 108) #[] #[.pointer (some ⟨x, 0, none⟩)]] w fun e w' =>
      ∃ n', e = .returned (.slice (some ⟨g, 0, none⟩) n' c) ∧ w'.ownsRow w0.heap.size 9 1 (.slice (some ⟨g, 0, none⟩) n' c) n' ((L.filter fun s => Lib.contains s word).map str) ∧ w.grownBy w' (some g) := by
  obtain ⟨D, rfl⟩ := shorts L hL
  rcases hown.2 with ⟨h0, _⟩ | ⟨g', cap', cur, hv, hg, hh, hcn, hcap, hsz, htake⟩
  · cases h0
  cases hv
  have hmw := hm.below hb (Nat.le_refl _)
  have hx0 := lt_of_cell hbox
  simp only at hx0
  have hboxw := (hb.cell (p := ⟨x, 0, none⟩) hx0).trans hbox
  have hgw := lt_of_heap hh
  have other : ∀ (n : Nat) (os : Array Obj) (dk : Array Short) (p : Addr), p.block < w0.heap.size → (sortWorld encS w g 0 n dk os).cell? p = w.cell? p := fun n os dk p hp => by
    unfold sortWorld
    have hne : p.block ≠ g := by omega
    have hlt : p.block < w.heap.size := Nat.lt_of_lt_of_le hp hb.size
    rw [cell?_grow _ _ _ (by rw [size_putRow]; exact hlt), cell?_putRow_other _ _ g 0 _ _ (Or.inl hne)]
    rfl
  have HP : PredAt Tryz.prog 108 #[.pointer (some ⟨x, 0, none⟩)] encS (fun s => !Lib.contains s.1 word) w := fun W s hW => by
    refine (lines_fn word s.1 x W (hmw.below hW (Nat.le_refl _)) s.2 ((hW.cell (p := ⟨x, 0, none⟩) (Nat.lt_of_lt_of_le hx0 hb.size)).trans hboxw)).mono ?_
    rintro e w' ⟨rfl, rfl⟩
    exact ⟨rfl, 0, rfl⟩
  have HO : PredOver Tryz.prog 108 #[.pointer (some ⟨x, 0, none⟩)] encS (fun s => !Lib.contains s.1 word) g 0 D.toArray.size w := fun n os dk s _ => by
    obtain ⟨m, hm0⟩ := hm
    refine (lines_fn word s.1 x _ ⟨m, ?_⟩ s.2 ?_).mono ?_
    · rw [other n os dk _ (lt_of_cell hm0)]
      exact (hb.cell (lt_of_cell hm0)).trans hm0
    · rw [other n os dk _ hx0]
      exact hboxw
    · rintro e w' ⟨rfl, rfl⟩
      exact ⟨rfl, 0, rfl⟩
  have hH : Holds encStr w g 0 (D.map (·.1)).toArray := holds_of_block hh (by simpa using htake)
  have K := Tryz.slices_DeleteFunc encS (fun _ => rfl) (fun s => !Lib.contains s.1 word) 108 #[.pointer (some ⟨x, 0, none⟩)] (fun _ _ => rfl) ⟨[], by decide⟩ (fun _ => rfl) g 0 c D.toArray w HP HO (holds_short hH) (by simp at hn ⊢; omega) (by simp at hcn ⊢; omega)
  have eL : (D.map (·.1)).length = D.toArray.size := by simp
  rw [eL]
  refine K.mono ?_
  rintro e w' ⟨rfl, q, rfl⟩
  have ef : (D.toArray.toList.filter fun s => !(!Lib.contains s.1 word)) = D.filter fun s => Lib.contains s.1 word := by simp
  have em : (D.filter fun s => Lib.contains s.1 word).map (·.1) = (D.map (·.1)).filter fun s => Lib.contains s word := by
    rw [List.filter_map]
    rfl
  rw [ef]
  have hle : (D.filter fun s => Lib.contains s.1 word).length ≤ D.length := List.length_filter_le _ _
  have hlm := congrArg List.length em
  rw [List.length_map] at hlm
  have er : ((D.filter fun s => Lib.contains s.1 word) ++ List.replicate (D.toArray.size - (D.filter fun s => Lib.contains s.1 word).length) (⟨[], by decide⟩ : Short)).map (·.1) = ((D.map (·.1)).filter fun s => Lib.contains s word) ++ List.replicate (D.length - (D.filter fun s => Lib.contains s.1 word).length) [] := by
    rw [List.map_append, em, List.map_replicate]
    rfl
  obtain ⟨F, hF⟩ : ∃ F, ((D.map (·.1)).filter fun s => Lib.contains s word) = F := ⟨_, rfl⟩
  rw [hF] at er hlm ⊢
  obtain ⟨k, hk⟩ : ∃ k, (D.filter fun s => Lib.contains s.1 word).length = k := ⟨_, rfl⟩
  rw [hk] at hle hlm
  have el : (F ++ List.replicate (D.length - k) []).length = (D.map (·.1)).length := by
    rw [List.length_append, List.length_replicate, ← hlm, List.length_map]
    omega
  have e1 := ownsRow_sorted (n := q) (os := #[]) (ts := F ++ List.replicate (D.length - k) []) (ss := D.map (·.1)) el hg hh hcn hcap hsz
  have e2 := grownBy_sorted (w := w) (g := g) (n := q) (os := #[]) (F ++ List.replicate (D.length - k) []).toArray
  rw [grow_empty] at e1 e2
  have e3 := own_take e1 F.length (by rw [← hlm, List.length_map]; exact hle)
  rw [← List.map_take, List.take_left] at e3
  rw [hk] at er
  refine ⟨_, rfl, ?_, ?_⟩
  · rw [← hlm] at e3
    rw [putRow_short, hk, er]
    exact e3
  · rw [putRow_short, hk, er]
    exact e2

set_option maxRecDepth 100000 in
theorem klines_any (word s : List UInt8) (v : Value) (w : World) (hr : Reads w v ([s].map str)) (hm : Ml w) (hl : s.length ≤ 10000) :
    Calls Tryz.prog 74 #[str word, v] w fun e w' => e = .returned (str (endedL (linesWith word s))) ∧ Below w.heap.size w w' := by
  have hle := hr.le
  obtain ⟨a, cap, rfl, -, -⟩ := id hr
  simp only [List.length_map, List.length_cons, List.length_nil] at *
  obtain ⟨b, o, hix, hce⟩ := hr.at (P := Tryz.prog) Tryz.underlying39 (by kernel_rfl) 0 (by simp)
  have hce0 : w.cell? ⟨b, o, none⟩ = some (str s) := hce
  have hix0 : ∀ w', (Instr.indexAt 39 (.slice a 1 cap) (.int .i64 0)).run Tryz.prog w' = .ok (.pointer (some ⟨b, o, none⟩)) w' := hix
  obtain ⟨W0, hW0⟩ : ∃ W, w.alloc (.cells #[str word] 9) = W := ⟨_, rfl⟩
  have hA : Below w.heap.size w W0 := hW0 ▸ (Below.refl _ w).alloc (Nat.le_refl _) _
  have hbox : W0.cell? ⟨w.heap.size, 0, none⟩ = some (str word) := by rw [← hW0, cell_of_heap (heap_alloc_here w _)]; rfl
  have hcc := (hA.cell (p := ⟨b, o, none⟩) (lt_of_cell hce0)).trans hce0
  have hll := linesB_len s
  have hel := ended_lines s
  have hmL : ∀ x ∈ linesB s, x.length ≤ 1000000 := fun x hx => by
    have := endedL_mem hx
    omega
  have KL := Lib.hid (lines_own s W0 (hm.below hA (Nat.le_refl _)) (by omega))
  have KD := Lib.hid (fun (g c : Nat) (w1 : World) (h1 : w1.ownsRow W0.heap.size 9 1 (.slice (some ⟨g, 0, none⟩) (linesB s).length c) (linesB s).length ((linesB s).map str)) (h2 : Below W0.heap.size W0 w1) => delete_any word (linesB s) g c w.heap.size W0 w1 h1 (hm.below hA (Nat.le_refl _)) h2 hbox hmL (by omega))
  have hfe : (endedL (linesWith word s)).length ≤ (endedL (linesB s)).length := by
    unfold linesWith
    generalize linesB s = L
    induction L with
    | nil => exact Nat.le_refl _
    | cons x L ih =>
      rw [List.filter_cons]
      split
      · rw [endedL_cons, endedL_cons, List.length_append, List.length_append, List.length_cons, List.length_cons]
        omega
      · rw [endedL_cons, List.length_append, List.length_cons]
        omega
  have KE := Lib.hid (fun (v1 : Value) (w1 : World) (h1 : Reads w1 v1 ((linesWith word s).map str)) => ended_any v1 (linesWith word s) w1 h1 (by omega))
  have HA := Lib.hid hA
  clear hm hr hce hix hce0 hbox hmL hel hfe hA
  go_enter Tryz.func74, Tryz.ntmps74
  go_wp2_with fail
  refine KL.out.mono ?_
  rintro e w1 ⟨c1, rfl, hc1, hc2, ho1, hb1⟩
  have K1 := Lib.hid (KD.out _ _ w1 ho1 hb1)
  have HB1 := Lib.hid (HA.out.trans (hb1.mono HA.out.size))
  have HO1 := Lib.hid ho1
  have hz1 := hb1.size
  have hz0 := HA.out.size
  clear ho1 hb1
  go_wp2_with fail
  refine K1.out.mono ?_
  rintro e w2 ⟨n2, rfl, ho2, hg2⟩
  have HB2 := Lib.hid (HB1.out.grown hg2 (by omega) (fun k hk => by
    obtain rfl := Option.some.inj hk
    exact hz0))
  have K2 := Lib.hid (KE.out _ w2 (ownsRow_reads ho2))
  clear ho2 hg2
  go_wp2_with fail
  refine K2.out.mono ?_
  rintro e w3 ⟨rfl, hb3⟩
  go_wp2
  go_ret
  exact ⟨rfl, HB2.out.trans (hb3.mono HB2.out.size)⟩
end Go.Proofs.YtmkpeopebddnjaaGreatDoor
