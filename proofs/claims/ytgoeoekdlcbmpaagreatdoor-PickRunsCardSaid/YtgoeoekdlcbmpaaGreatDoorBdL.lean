/-
  Package kilnfieldlaw3: longFiles and fileTree at any files.
-/
import Derived.Test.YtgoeoekdlcbmpaaGreatDoorPkQ
import Derived.Deep.RegionHeld3

namespace Go.Proofs.YtgoeoekdlcbmpaaGreatDoor
open Go Go.RowKit Go.Kf Go.Sort Go.Proofs

set_option maxRecDepth 100000 in
theorem longFiles3_any (v : Value) (fs : List Ent) (w : World) (hr : ReadsK 2 w v (fs.map fileRow)) :
    Calls Tryz.prog 25 #[v] w fun e w' => w = w' ∧ (e = .returned (.bool true) ∨ (e = .returned (.bool false) ∧ FewFiles fs)) := by
  have hle := hr.le
  obtain ⟨a, cap, rfl, -, -⟩ := id hr
  simp only [List.length_map] at *
  have HR := Lib.hid hr
  clear hr
  by_cases hlm : 30 < fs.length
  · go_enter Tryz.func25, Tryz.ntmps25
    go_wp2
    go_ret
    exact ⟨rfl, Or.inl rfl⟩
  · go_enter Tryz.func25, Tryz.ntmps25
    go_wp2
    go_loop [3, 4] (fun n i => ∃ j z : Nat, j ≤ fs.length ∧ i = .int .i64 j ∧ n = .int .i64 z ∧ z ≤ 4000 ∧ ∀ x ∈ fs.take j, x.1.length ≤ 100 ∧ x.2.length ≤ 4000) (fun _ i => fs.length - (intOf i).toNat)
    case atStart => exact ⟨0, 0, by omega, rfl, rfl, by omega, by simp⟩
    case round =>
      obtain ⟨j, z, hj, rfl, rfl, hz, hall⟩ := hrel
      have HA := Lib.hid hall
      clear hall
      by_cases hlt : j < fs.length
      · obtain ⟨b, o, hix, -, hce⟩ := HR.out.at (P := Tryz.prog) Tryz.underlying22 (by kernel_rfl) j (by simpa using hlt)
        simp only [List.getElem_map] at hce
        have h0 := hce 0 _ rfl
        have h1 := hce 1 _ rfl
        simp only [Nat.add_zero] at h0
        have HM := Lib.hid (show ∀ x ∈ fs.take (j + 1), x ∈ fs.take j ∨ x = fs[j] by
          intro s hs
          rw [List.take_succ_eq_append_getElem hlt] at hs
          simpa only [List.mem_append, List.mem_singleton] using hs)
        clear hce
        generalize fs[j] = x at *
        obtain ⟨p, c⟩ := x
        simp only at h0 h1
        by_cases hc : c.length ≤ 4000
        · by_cases hp : p.length ≤ 100
          · by_cases hs2 : z + c.length ≤ 4000
            · go_wp2
              go_round
              case rel =>
                refine ⟨j + 1, z + c.length, by omega, by go_num, by go_num, by omega, fun t ht => ?_⟩
                rcases HM.out t ht with h | rfl
                · exact HA.out t h
                · exact ⟨hp, hc⟩
              case measure => simp [intOf]; omega
            · go_wp2
              go_ret
              exact ⟨rfl, Or.inl rfl⟩
          · go_wp2
            go_ret
            exact ⟨rfl, Or.inl rfl⟩
        · go_wp2
          go_ret
          exact ⟨rfl, Or.inl rfl⟩
      · obtain rfl : j = fs.length := by omega
        rw [List.take_length] at HA
        go_wp2
        go_ret
        exact ⟨rfl, Or.inr ⟨rfl, by omega, HA.out⟩⟩

set_option maxRecDepth 100000 in
set_option maxHeartbeats 4000000 in
theorem fileTree3_any (v : Value) (fs : List Ent) (w : World) (S : Nat → Addr) (hr : ReadsK 2 w v (fs.map fileRow)) (hF : FewFiles fs) (hm : Ml w) (hE : TErr w S) :
    Calls Tryz.prog 26 #[v] w fun e w' => ∃ tb mb rb lv, e = .returned (.tuple #[.pointer (some ⟨tb, 0, none⟩), .pointer (some ⟨rb, 0, none⟩)]) ∧ Tc w.heap.size w w' tb mb rb lv (filesM fs) (filesL fs) := by
  have hle := hr.le
  obtain ⟨a, cap, rfl, -, -⟩ := id hr
  simp only [List.length_map] at *
  have hrow : ∀ r ∈ fs.map fileRow, r ≠ [] := fun r hr => by obtain ⟨x, -, rfl⟩ := List.mem_map.1 hr; simp [fileRow]
  have HR := Lib.hid (fun wl (hb : Below w.heap.size w wl) => readsK_below0 hr hrow hb)
  have HM := Lib.hid (fun wl (hb : Below w.heap.size w wl) => hm.below hb (Nat.le_refl _))
  have HE := Lib.hid (fun wl (hb : Below w.heap.size w wl) => hE.below hb (Nat.le_refl _))
  have HN := Lib.hid (new_tree w)
  have h30 := hF.1
  have HF := Lib.hid hF
  clear hr hm hE hrow hF
  go_enter Tryz.func26, Tryz.ntmps26
  go_wp2_with fail
  refine HN.out.mono ?_
  rintro e w1 ⟨tb, mb, rfl, htb, hmb, hT, hb1⟩
  have hT1 : TAt (w1.alloc (.cells #[.slice none 0 0] 100)) tb mb [] := hT.below ((Below.refl _ w1).alloc (Nat.le_refl _) _)
  have hR1 : RTAt w.heap.size (w1.alloc (.cells #[.slice none 0 0] 100)) w1.heap.size (.slice none 0 0) [] := ⟨heap_alloc_here w1 _, World.ownsRow_nil _ _ _ _, by intro h; cases h⟩
  have HT0 : Hid (Tc w.heap.size w (w1.alloc (.cells #[.slice none 0 0] 100)) tb mb w1.heap.size (.slice none 0 0) [] []) := Lib.hid ⟨hT1, hR1, ⟨htb, hmb, hb1.size⟩, hb1.alloc hb1.size _⟩
  have HTW := Lib.hid (fun j (hj : j ≤ fs.length) => files_tw (fun x hx => (HF.out.2 x hx).1) j hj)
  clear hT hT1 hR1 hb1 HN
  go_wp2_with fail
  go_loopw [6] (fun iv wl => ∃ (j : Nat) (lv : Value), j ≤ fs.length ∧ iv = .int .i64 j ∧ Tc w.heap.size w wl tb mb w1.heap.size lv (filesM (fs.take j)) (filesL (fs.take j))) (fun iv _ => fs.length - (intOf iv).toNat)
  case atStart => exact ⟨0, _, by omega, rfl, HT0.out⟩
  case round =>
    obtain ⟨j, lv, hj, rfl, htc⟩ := hrel
    have HTC := Lib.hid htc
    by_cases hlt : j < fs.length
    · have hlc : ((j : Int) < (fs.length : Int)) = True := eq_true (by omega)
      obtain ⟨b, o, hix, -, hce⟩ := (HR.out w (Below.refl _ _)).at (P := Tryz.prog) Tryz.underlying22 (by kernel_rfl) j (by simpa using hlt)
      simp only [List.getElem_map] at hce
      have h0 := hce 0 _ rfl
      have h1 := hce 1 _ rfl
      simp only [Nat.add_zero] at h0
      have HS1 := Lib.hid (show filesM (fs.take (j + 1)) = putM fs[j].1 fs[j].2 (filesM (fs.take j)) by rw [List.take_succ_eq_append_getElem hlt, filesM_snoc])
      have HS2 := Lib.hid (show filesL (fs.take (j + 1)) = rputM fs[j].1 fs[j].2 (filesL (fs.take j)) by rw [List.take_succ_eq_append_getElem hlt, filesL_snoc])
      have HLN := Lib.hid (HF.out.2 _ (List.getElem_mem hlt))
      have htw := HTW.out j hj
      have HTJ := Lib.hid htw
      generalize fs[j] = x at *
      obtain ⟨p, c⟩ := x
      simp only at h0 h1 HS1 HS2 HLN
      have hlb := lt_of_cell h0
      have hlb1 := lt_of_cell h1
      have HCE : Hid (∀ wl, Below w.heap.size w wl → wl.cell? ⟨b, o, none⟩ = some (str p) ∧ wl.cell? ⟨b, o + 1, none⟩ = some (str c)) := Lib.hid (fun wl hb => ⟨(hb.cell hlb).trans h0, (hb.cell hlb1).trans h1⟩)
      obtain ⟨h2, h3⟩ := HCE.out wr htc.b
      have KP : Hid (∀ wl, Below wr.heap.size wr wl → Calls Tryz.prog 50 #[.pointer (some ⟨tb, 0, none⟩), str p, str c] wl fun e w' => e = .returned (codeV S (putC p c (filesM (fs.take j)))) ∧ Tc w.heap.size w w' tb mb w1.heap.size lv (putM p c (filesM (fs.take j))) (filesL (fs.take j))) := Lib.hid (fun wl hbl => by
        have h := HTC.out.below hbl
        refine (put_tree tb mb _ p c wl S h.t (HM.out wl h.b) (HE.out wl h.b) (by have := HLN.out.1; omega) (by have := HTJ.out.many; omega) (fun y hy => by have := HTJ.out.keyLen hy; omega)).mono ?_
        rintro e w' ⟨h1, h2, h3⟩
        exact ⟨h1, h.tstep h2 h3⟩)
      have KQ : Hid (∀ wl, Tc w.heap.size w wl tb mb w1.heap.size lv (putM p c (filesM (fs.take j))) (filesL (fs.take j)) → Calls Tryz.prog 51 #[.pointer (some ⟨w1.heap.size, 0, none⟩), str p, str c] wl fun e w' => e = .returned (.int .i64 (putC p c (filesL (fs.take j)) : Int)) ∧ ∃ lv', Tc w.heap.size w w' tb mb w1.heap.size lv' (putM p c (filesM (fs.take j))) (rputM p c (filesL (fs.take j)))) := Lib.hid (fun wl h => by
        refine (rput_any w.heap.size w1.heap.size lv _ p c wl h.r h.hB (by have := HTJ.out.many; have := HTJ.out.len; omega) (by have := HLN.out.1; omega)).mono ?_
        rintro e w' ⟨h1, lv', h2, h3, -⟩
        exact ⟨h1, lv', h.rstep h2 h3⟩)
      clear hce htc htw h0 h1
      go_wp2_with fail
      go_region_held3 (fun w' => w'.cell? ⟨b, o, none⟩ = some (str p) ∧ w'.cell? ⟨b, o + 1, none⟩ = some (str c))
        (first | exact HCE.out _ hT4.b | exact HCE.out _ (HTC.out.b) | exact HCE.out _ HTC.out.b.drew)
        (first
          | (go_at_call 50
             refine (KP.out _ ?_).mono ?_
             · first | exact (Below.refl _ _) | exact (Below.refl _ _).drew
             rintro e w4 ⟨rfl, hT4⟩))
      have HT4 := Lib.hid hT4
      obtain ⟨h4, h5⟩ := HCE.out w4 hT4.b
      clear hT4 h2 h3
      go_wp2_with fail
      go_region_held3 (fun w' => w'.cell? ⟨b, o, none⟩ = some (str p) ∧ w'.cell? ⟨b, o + 1, none⟩ = some (str c))
        (first | exact HCE.out _ hT6.b | exact HCE.out _ (HT4.out.b) | exact HCE.out _ HT4.out.b.drew)
        (first
          | (go_at_call 51
             refine (KQ.out _ ?_).mono ?_
             · first | exact HT4.out | exact HT4.out.below (Below.refl _ _).drew
             rintro e w6 ⟨rfl, lv6, hT6⟩))
      have HT6 := Lib.hid hT6
      clear hT6
      go_wp2
      go_roundw
      case rel => exact ⟨j + 1, lv6, by omega, by go_num, by rw [HS1.out, HS2.out]; exact HT6.out⟩
      case measure => simp [intOf]; omega
    · obtain rfl : j = fs.length := by omega
      have hlc : ((fs.length : Int) < (fs.length : Int)) = False := eq_false (by omega)
      rw [List.take_length] at HTC
      clear htc
      go_wp2
      go_ret2
      exact ⟨tb, mb, w1.heap.size, lv, rfl, HTC.out⟩
end Go.Proofs.YtgoeoekdlcbmpaaGreatDoor
