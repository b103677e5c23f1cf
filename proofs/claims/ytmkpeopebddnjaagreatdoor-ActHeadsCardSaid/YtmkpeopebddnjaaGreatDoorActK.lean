/-
  Package act: kinds, Check and Run where a command is right.
-/
import Derived.Test.YtmkpeopebddnjaaGreatDoorActL
import Derived.Laws.EntriesVeiled
namespace Go.Proofs.YtmkpeopebddnjaaGreatDoor
open Go Go.RowKit Go.Kf Go.Sort

/-- A kind of commands. -/
structure Kd where
  least : Int
  most : Int
  word : Nat
  run : Nat
def kdV (k : Kd) : Value := .agg #[.int .i64 k.least, .int .i64 k.most, .func (.func k.word) #[] #[], .func (.func k.run) #[] #[]]
def kindsL : List (List UInt8 × Kd) := [
  ([119, 114, 105, 116, 101], ⟨0, 0, 68, 69⟩),
  ([106, 111, 105, 110], ⟨1, 8, 68, 70⟩),
  ([117, 112, 112, 101, 114], ⟨1, 1, 72, 73⟩),
  ([108, 105, 110, 101, 115], ⟨1, 1, 68, 74⟩),
  ([115, 111, 114, 116], ⟨1, 8, 75, 76⟩),
  ([99, 111, 117, 110, 116], ⟨1, 8, 72, 77⟩),
  ([115, 119, 97, 112], ⟨1, 1, 78, 79⟩),
  ([104, 101, 97, 100], ⟨1, 1, 80, 81⟩)]
theorem kmapKey : KeyBy Tryz.prog 9 str := KeyBy.string Tryz.underlying9
theorem kmapUnd : Tryz.prog.underlying 99 = some (.map 9 98) := Tryz.underlying99
def kdZero : Value := .agg #[.int .i64 0, .int .i64 0, .nilFunc, .nilFunc]
theorem kzero (w : World) : (zeroValue 98).run Tryz.prog w = .ok kdZero w := by kernel_rfl
theorem upd_step {w : World} {b : Nat} {l : List (List UInt8 × Kd)} (h : MapIs str kdV w b l) (k : List UInt8) (v : Kd) :
    ∃ W, (Instr.mapUpdate 99 (.map (some b)) (str k) (kdV v)).run Tryz.prog w = .ok () W ∧ MapIs str kdV W b (mupd k v l) ∧ Fr w.heap.size (fun q => q = b) w W ∧ W.heap.size = w.heap.size := by
  obtain ⟨es, c, h1, h2⟩ := MapIs.update kmapKey kmapUnd h k v
  exact ⟨_, h1, h2, Fr.putMap (S := fun q => q = b) (.refl _ _ _) (fun _ => rfl) _ _, by simp [Kf.putMap]⟩

set_option maxRecDepth 100000 in
theorem kinds_any (w : World) : Calls Tryz.prog 51 #[] w fun e w' => ∃ mb, e = .returned (.map (some mb)) ∧ w.heap.size ≤ mb ∧ MapIs str kdV w' mb kindsL ∧ Below w.heap.size w w' := by
  have hmm := @run_makeMap Tryz.prog
  have m0 : MapIs str kdV (w.alloc (.map #[] 0)) w.heap.size [] := MapIs.made w
  have f0 : Below w.heap.size w (w.alloc (.map #[] 0)) := (Below.refl _ w).alloc (Nat.le_refl _) _
  obtain ⟨W0, hW0⟩ : ∃ W, w.alloc (.map #[] 0) = W := ⟨_, rfl⟩
  have hz0 : W0.heap.size = w.heap.size + 1 := by rw [← hW0]; simp
  rw [hW0] at m0 f0
  obtain ⟨W1, h1, m1, f1, z1⟩ := upd_step m0 [119, 114, 105, 116, 101] ⟨0, 0, 68, 69⟩
  obtain ⟨W2, h2, m2, f2, z2⟩ := upd_step m1 [106, 111, 105, 110] ⟨1, 8, 68, 70⟩
  obtain ⟨W3, h3, m3, f3, z3⟩ := upd_step m2 [117, 112, 112, 101, 114] ⟨1, 1, 72, 73⟩
  obtain ⟨W4, h4, m4, f4, z4⟩ := upd_step m3 [108, 105, 110, 101, 115] ⟨1, 1, 68, 74⟩
  obtain ⟨W5, h5, m5, f5, z5⟩ := upd_step m4 [115, 111, 114, 116] ⟨1, 8, 75, 76⟩
  obtain ⟨W6, h6, m6, f6, z6⟩ := upd_step m5 [99, 111, 117, 110, 116] ⟨1, 8, 72, 77⟩
  obtain ⟨W7, h7, m7, f7, z7⟩ := upd_step m6 [115, 119, 97, 112] ⟨1, 1, 78, 79⟩
  obtain ⟨W8, h8, m8, f8, z8⟩ := upd_step m7 [104, 101, 97, 100] ⟨1, 1, 80, 81⟩
  have HM8 : Hid (MapIs str kdV W8 w.heap.size kindsL) := Lib.hid m8
  have HB8 : Hid (Below w.heap.size w W8) := Lib.hid (by
    have st : ∀ {X Y : World}, Below w.heap.size w X → w.heap.size ≤ X.heap.size → Fr X.heap.size (fun q => q = w.heap.size) X Y → Below w.heap.size w Y := fun hX hz hF => hX.trans ((hF.mono (S' := fun q => q = w.heap.size) hz (fun _ _ h => h)).below (fun k hk e => by omega))
    exact st (st (st (st (st (st (st (st f0 (by omega) f1) (by omega) f2) (by omega) f3) (by omega) f4) (by omega) f5) (by omega) f6) (by omega) f7) (by omega) f8)
  simp only [kdV] at h1 h2 h3 h4 h5 h6 h7 h8
  clear m0 m1 m2 m3 m4 m5 m6 m7 m8 f0 f1 f2 f3 f4 f5 f6 f7 f8 z1 z2 z3 z4 z5 z6 z7 z8 hz0
  go_enter Tryz.func51, Tryz.ntmps51
  go_wp2
  go_ret
  exact ⟨_, rfl, Nat.le_refl _, HM8.out, HB8.out⟩

theorem run_kind (a b : Int) (f g : Nat) (w : World) : (Instr.field 98 (.agg #[.int .i64 a, .int .i64 b, .func (.func f) #[] #[], .func (.func g) #[] #[]]) 3).run Tryz.prog w = .ok (.func (.func g) #[] #[]) w := by kernel_rfl

/-- A function value that is entered. -/
def Enters (f : Nat) : Prop := ∀ (args : Array Value) (w : World), (callFunc f args).run Tryz.prog w = .ok (.enter f args) w
/-- A kind's word answers. -/
def WordIs (B : Nat) (w0 : World) (f : Nat) (s : List UInt8) (b : Bool) : Prop := ∀ w, Below B w0 w → Calls Tryz.prog f #[str s] w fun e w' => e = .returned (.bool b) ∧ Below w.heap.size w w'

set_option maxRecDepth 100000 in
theorem check_ok (name word : List UInt8) (n : Nat) (k : Kd) (w : World) (hk : mlook name kindsL = some k) (h1 : k.least ≤ (n : Int)) (h2 : (n : Int) ≤ k.most) (hw : WordIs w.heap.size w k.word word true) (hl : word.length ≤ 100) (he : Enters k.word) :
    Calls Tryz.prog 35 #[str name, str word, .int .i64 (n : Int)] w fun e w' => e = .returned .nilIface ∧ Below w.heap.size w w' := by
  have K0 := Lib.hid (kinds_any w)
  have HK := Lib.hid hk
  have HW := Lib.hid hw
  obtain ⟨least, most, wf, rf⟩ := k
  have hen := he #[str word]
  simp only at hen
  clear he
  simp only at h1 h2
  have hc1 : ((n : Int) < least) = False := eq_false (by omega)
  have hc2 : (most < (n : Int)) = False := eq_false (by omega)
  have hc3 : ((100 : Int) < (word.length : Int)) = False := eq_false (by omega)
  clear hk hw
  go_enter Tryz.func35, Tryz.ntmps35
  go_wp2_with fail
  refine K0.out.mono ?_
  rintro e w1 ⟨mb, rfl, hmb, hM, hb1⟩
  have hlk := MapIs.lookup kmapKey kmapUnd kzero hM name true
  rw [HK.out] at hlk
  simp only [if_true, Option.map_some, Option.getD_some, Option.isSome_some, kdV] at hlk
  have hA : Below w.heap.size w (w1.alloc (.cells #[.int .i64 least, .int .i64 most, .func (.func wf) #[] #[], .func (.func rf) #[] #[]] 98)) := hb1.alloc hb1.size _
  have HA := Lib.hid hA
  have K1 := Lib.hid (HW.out _ hA)
  clear hM hb1 hA
  go_wp2_with fail
  refine K1.out.mono ?_
  rintro e w2 ⟨rfl, hb2⟩
  have HB2 := Lib.hid (HA.out.trans (hb2.mono HA.out.size))
  clear hb2
  go_wp2
  go_ret
  exact ⟨rfl, HB2.out⟩

set_option maxRecDepth 100000 in
theorem run_ok (name word out : List UInt8) (v : Value) (ins : List (List UInt8)) (k : Kd) (w : World) (hr : Reads w v (ins.map str)) (hk : mlook name kindsL = some k) (h1 : k.least ≤ (ins.length : Int)) (h2 : (ins.length : Int) ≤ k.most) (hw : WordIs w.heap.size w k.word word true) (hl : word.length ≤ 100) (he : Enters k.word) (he2 : Enters k.run)
    (hrun : ∀ w1, Below w.heap.size w w1 → Calls Tryz.prog k.run #[str word, v] w1 fun e w' => e = .returned (str out) ∧ Below w1.heap.size w1 w') (ho : out.length ≤ 2000) :
    Calls Tryz.prog 27 #[str name, str word, v] w fun e w' => e = .returned (.tuple #[str out, .nilIface]) ∧ Below w.heap.size w w' := by
  have K0 := Lib.hid (check_ok name word ins.length k w hk h1 h2 hw hl he)
  have HK := Lib.hid hk
  have HR := Lib.hid hrun
  obtain ⟨a, cap, rfl, -, -⟩ := id hr
  have hle := hr.le
  simp only [List.length_map] at *
  obtain ⟨least, most, wf, rf⟩ := k
  have hc : ((2000 : Int) < (out.length : Int)) = False := eq_false (by omega)
  have hen := he2 #[str word, .slice a ins.length cap]
  simp only at hen
  clear he he2
  clear hk hw hr hrun h1 h2
  go_enter Tryz.func27, Tryz.ntmps27
  go_wp2_with fail
  refine K0.out.mono ?_
  rintro e w1 ⟨rfl, hb1⟩
  have HB1 := Lib.hid hb1
  clear hb1
  go_wp2_with fail
  refine (kinds_any w1).mono ?_
  rintro e w2 ⟨mb, rfl, hmb, hM, hb2⟩
  have hlk := MapIs.lookup kmapKey kmapUnd kzero hM name false
  rw [HK.out] at hlk
  simp only [Bool.false_eq_true, if_false, Option.map_some, Option.getD_some, kdV] at hlk
  have HB2 := Lib.hid (HB1.out.trans (hb2.mono HB1.out.size))
  have K1 := Lib.hid (HR.out w2 HB2.out)
  have hfd := run_kind least most wf rf w2
  clear hM hb2
  go_wp2_with fail
  refine K1.out.mono ?_
  rintro e w3 ⟨rfl, hb3⟩
  have HB3 := Lib.hid (HB2.out.trans (hb3.mono HB2.out.size))
  clear hb3
  go_wp2
  go_ret2
  exact ⟨rfl, HB3.out⟩
end Go.Proofs.YtmkpeopebddnjaaGreatDoor
