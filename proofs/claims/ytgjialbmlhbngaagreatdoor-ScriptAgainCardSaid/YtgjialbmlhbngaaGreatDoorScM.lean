/-
  Lines that came in as an argument. The contract of the law ScriptAgain, and its lifting.
-/
import Derived.Test.YtgjialbmlhbngaaGreatDoorMid
import Derived.Test.YtgjialbmlhbngaaGreatDoorScK
import Derived.Test.YtgjialbmlhbngaaGreatDoorCards
import Derived.Test.YtgjialbmlhbngaaGreatDoorTie
import Derived.Test.YtgjialbmlhbngaaGreatDoorScL
import Derived.Test.YtgjialbmlhbngaaGreatDoorScH
import Derived.Test.YtgjialbmlhbngaaGreatDoorPkB
import Derived.Lay
import Derived.Test.YtgjialbmlhbngaaGreatDoorPkW
import Derived.Deep.DeepHandedRow
import Derived.Deep.DeepWitnessRowRef
import Derived.LaidMore
import Derived.ProofKit
import Derived.ChangeMaps5

set_option maxRecDepth 100000
namespace Go.Proofs.YtgjialbmlhbngaaGreatDoor
open Go Go.ChangeShapes Go.WideShapes Go.ChangeAt Go.RowKit Go.Kf
theorem seven_of {α : Type} (l : List α) (h : l.length = 7) : ∃ a b c d e f g, l = [a, b, c, d, e, f, g] := by
  match l, h with
  | [a, b, c, d, e, f, g], _ => exact ⟨a, b, c, d, e, f, g, rfl⟩
abbrev InL (W : World) : Type := {x : Ln // LnIn W x}
instance (W : World) : Inhabited (InL W) := ⟨⟨⟨[], [], .slice none 0 0, [], (⟨[], [], [], []⟩, .slice none 0 0)⟩, ⟨none, 0, rfl, by simp, fun i u hi => (by cases hi)⟩, ⟨none, 0, rfl, by simp, fun i u hi => (by cases hi)⟩⟩⟩
theorem lineOpen {H : Type} (enc : TypeId × Value → H) (W : World) (m : Nat) (cs : List Value) (y : DataW H × List MemPlace) (h : DataW.trod enc Tryz.prog W 0 (fun _ => true) true m 108 cs = some y) : ∃ z : InL W, cs = lnRow z.1 := by
  obtain ⟨y0, y1, y2, y3, n, hl, h0, h1, h2, h3⟩ := trod_struct4 Tryz.underlying108 h
  rw [show Tryz.prog.cellsOf 108 = 7 by kernel_rfl] at hl
  obtain ⟨c0, c1, c2, c3, c4, c5, c6, rfl⟩ := seven_of cs hl
  obtain ⟨o, e0, -⟩ := DataW.trod_string Tryz.underlying9 h0
  obtain ⟨s, e2, -⟩ := DataW.trod_string Tryz.underlying9 h2
  rw [show Tryz.prog.cellsOf 9 = 1 by kernel_rfl] at e0 e2
  simp at e0 e2
  have h1' : DataW.trod enc Tryz.prog W 0 (fun _ => true) true n 33 [c1] = some y1 := by
    have e : ([c0, c1, c2, c3, c4, c5, c6].drop 1).take (Tryz.prog.cellsOf 33) = [c1] := by
      rw [show Tryz.prog.cellsOf 33 = 1 by kernel_rfl]
      rfl
    rw [e] at h1
    exact h1
  have h3' : DataW.trod enc Tryz.prog W 0 (fun _ => true) true n 35 [c3, c4, c5, c6] = some y3 := by
    have e : ([c0, c1, c2, c3, c4, c5, c6].drop 3).take (Tryz.prog.cellsOf 35) = [c3, c4, c5, c6] := by
      rw [show Tryz.prog.cellsOf 35 = 4 by kernel_rfl]
      rfl
    rw [e] at h3
    exact h3
  obtain ⟨l, hrd⟩ := reads_open Tryz.underlying33 Tryz.underlying9 (by kernel_rfl) h1'
  obtain ⟨⟨r, hr⟩, e3⟩ := ruleOpen enc W n _ _ h3'
  simp only [rvRow, List.cons.injEq, and_true] at e3
  obtain ⟨e3, e4, e5, e6⟩ := e3
  exact ⟨⟨⟨o.data.toList, l, c1, s.data.toList, r⟩, hrd, hr.1⟩, by simp [lnRow, e0, e2, e3, e4, e5, e6]⟩
theorem lines_open {H : Type} {enc : TypeId × Value → H} {W : World} {v : Value} {fuel : Nat} {x : DataW H × List MemPlace} (h : DataW.trod enc Tryz.prog W 0 (fun _ => true) true fuel 105 [v] = some x) :
    ∃ X : List Ln, ReadsK 7 W v (X.map lnRow) ∧ ∀ y ∈ X, LnIn W y := by
  obtain ⟨zs, hr⟩ := readsK_open (α := InL W) (s := 7) Tryz.underlying105 (by kernel_rfl) (by decide) h (fun z => lnRow z.1) (lineOpen enc W)
  refine ⟨zs.map Subtype.val, ?_, fun y hy => ?_⟩
  · rw [List.map_map]
    exact hr
  · obtain ⟨z, -, rfl⟩ := List.mem_map.1 hy
    exact z.2
end Go.Proofs.YtgjialbmlhbngaaGreatDoor

namespace Go.Proofs.YtgjialbmlhbngaaGreatDoor.lawScriptAgain
open Go Go.ChangeShapes Go.WideShapes Go.ChangeAt Go.RowKit Go.Kf
theorem own : ownKnob Tryz.prog.godebug = none := by kernel_rfl
theorem laidOut : laidOutB Tryz.prog = true := by kernel_rfl
theorem laidIs (W : World) : laidMetH Tryz.prog Rows.scriptAgainRow.laid W = (laidMet Tryz.prog (("math/bits.deBruijn32tab", Rows.laid_math_bits_deBruijn32tab) :: ("math/bits.deBruijn64tab", Rows.laid_math_bits_deBruijn64tab) :: ("internal/strconv.uint64pow10", Rows.laid_internal_strconv_uint64pow10) :: ("unicode/utf8.acceptRanges", Rows.laid_unicode_utf8_acceptRanges) :: (sentRows ++ [("strconv.ErrRange", Rows.laid_strconv_ErrRange), ("strconv.ErrSyntax", Rows.laid_strconv_ErrSyntax), ("unicode/utf8.first", Rows.laid_unicode_utf8_first)])) W ∧ handlesMet Tryz.prog [("errors.errorType", Rows.laid_errors_errorType)] W) := by kernel_rfl
theorem plainOf : (Rows.scriptAgainRow.laid.filter fun x => x.2.handleName?.isNone) = (("math/bits.deBruijn32tab", Rows.laid_math_bits_deBruijn32tab) :: ("math/bits.deBruijn64tab", Rows.laid_math_bits_deBruijn64tab) :: ("internal/strconv.uint64pow10", Rows.laid_internal_strconv_uint64pow10) :: ("unicode/utf8.acceptRanges", Rows.laid_unicode_utf8_acceptRanges) :: (sentRows ++ [("strconv.ErrRange", Rows.laid_strconv_ErrRange), ("strconv.ErrSyntax", Rows.laid_strconv_ErrSyntax), ("unicode/utf8.first", Rows.laid_unicode_utf8_first)])) := by kernel_rfl
theorem greatOf : ((("math/bits.deBruijn32tab", Rows.laid_math_bits_deBruijn32tab) :: ("math/bits.deBruijn64tab", Rows.laid_math_bits_deBruijn64tab) :: ("internal/strconv.uint64pow10", Rows.laid_internal_strconv_uint64pow10) :: ("unicode/utf8.acceptRanges", Rows.laid_unicode_utf8_acceptRanges) :: (sentRows ++ [("strconv.ErrRange", Rows.laid_strconv_ErrRange), ("strconv.ErrSyntax", Rows.laid_strconv_ErrSyntax), ("unicode/utf8.first", Rows.laid_unicode_utf8_first)])).filter fun x => ["unicode/utf8.first"].contains x.1) = [("unicode/utf8.first", Rows.laid_unicode_utf8_first)] := by kernel_rfl
theorem othersOf : ((("math/bits.deBruijn32tab", Rows.laid_math_bits_deBruijn32tab) :: ("math/bits.deBruijn64tab", Rows.laid_math_bits_deBruijn64tab) :: ("internal/strconv.uint64pow10", Rows.laid_internal_strconv_uint64pow10) :: ("unicode/utf8.acceptRanges", Rows.laid_unicode_utf8_acceptRanges) :: (sentRows ++ [("strconv.ErrRange", Rows.laid_strconv_ErrRange), ("strconv.ErrSyntax", Rows.laid_strconv_ErrSyntax), ("unicode/utf8.first", Rows.laid_unicode_utf8_first)])).filter fun x => !["unicode/utf8.first"].contains x.1) = (("math/bits.deBruijn32tab", Rows.laid_math_bits_deBruijn32tab) :: ("math/bits.deBruijn64tab", Rows.laid_math_bits_deBruijn64tab) :: ("internal/strconv.uint64pow10", Rows.laid_internal_strconv_uint64pow10) :: ("unicode/utf8.acceptRanges", Rows.laid_unicode_utf8_acceptRanges) :: (sentRows ++ [("strconv.ErrRange", Rows.laid_strconv_ErrRange), ("strconv.ErrSyntax", Rows.laid_strconv_ErrSyntax)])) := by kernel_rfl
def sents14 : List (String × List UInt8 × Nat) := sents ++ [
  ("strconv.ErrRange", [118, 97, 108, 117, 101, 32, 111, 117, 116, 32, 111, 102, 32, 114, 97, 110, 103, 101], 18),
  ("strconv.ErrSyntax", [105, 110, 118, 97, 108, 105, 100, 32, 115, 121, 110, 116, 97, 120], 17)]
theorem sents14_named : ∀ s ∈ sents14, Tryz.prog.globalNamed s.1 = some s.2.2 ∧ (Tryz.prog.globals[s.2.2]?).map (·.type) = some 28 := by
  have h : (sents14.all fun s => Tryz.prog.globalNamed s.1 == some s.2.2 && (Tryz.prog.globals[s.2.2]?).map (·.type) == some 28) = true := by kernel_rfl
  intro s hs
  have := List.all_eq_true.1 h s hs
  simpa using this
theorem rows14 (z : String × DataW Unit) : sentRows ++ [("strconv.ErrRange", Rows.laid_strconv_ErrRange), ("strconv.ErrSyntax", Rows.laid_strconv_ErrSyntax), z] = (sents14.map fun s => (s.1, .iface "*errors.errorString" (.ptr (.agg [.lit (.string s.2.1)])))) ++ [z] := by rfl
theorem nErr_of_laid4 {W : World} {x y z u v : String × DataW Unit} (h : laidMet Tryz.prog (x :: y :: z :: u :: (sentRows ++ [("strconv.ErrRange", Rows.laid_strconv_ErrRange), ("strconv.ErrSyntax", Rows.laid_strconv_ErrSyntax), v])) W) : NErr W := by
  rw [rows14] at h
  obtain ⟨q, hv, hnd, hrows⟩ := laidMet_tail (laidMet_tail (laidMet_tail (laidMet_tail h)))
  obtain ⟨az, hlen, hnod, hin, hall⟩ := laid_sentinels Tryz.underlying28 eRow Tryz.underlying380 Tryz.underlying382 rfl rfl Tryz.underlying9 (by kernel_rfl) (by kernel_rfl) [v] sents14 q hv sents14_named hnd hrows
  have hl : az.length = 14 := hlen
  have hat : ∀ k, k < 14 → az[k]? = some (az.getD k ⟨0, 0, none⟩) := fun k hk => by
    rw [List.getD_eq_getElem?_getD, List.getElem?_eq_getElem (by omega)]
    rfl
  exact ⟨⟨_, _, hall 13 _ _ rfl (hat 13 (by decide))⟩, ⟨_, _, hall 12 _ _ rfl (hat 12 (by decide))⟩⟩
theorem contract (H : Type) (enc : TypeId × Value → H) (W : World) (base : Nat) (args : Array Value) (ds gs : List (DataW H)) (before : List MemPlace)
    (hval : ∀ (j : Nat) t v, Tryz.f8.params[j]? = some t → args[j]? = some v → Value.okWide Tryz.prog W .any base t v)
    (hW : DataW.Whole enc Tryz.prog Tryz.f8.params.toList Rows.scriptAgainSpec.vars false W args.toList ds gs before) (hL : laidMetH Tryz.prog Rows.scriptAgainRow.laid W) (hshape : World.ShapedOpen Tryz.prog W) :
    Calls Tryz.prog 8 args W fun e W' => ∃ v, e = .returned v ∧ Rows.scriptAgainSpec.post enc Tryz.prog Tryz.f8 false true false false W args v W' := by
  have hW' := hW
  obtain ⟨p, q, hA0, hV, rfl, hfz, hnd⟩ := hW
  have hA : DataW.TrodAll enc Tryz.prog W 0 (fun _ => true) true Tryz.f8.params.toList args.toList ds p := hA0
  rw [Tryz.params8] at hA hval
  obtain ⟨v0, vs0, d0, ds0, p0, q0, hargs, rfl, rfl, h0, r0⟩ := trodAll_cons hA
  obtain ⟨v1, vs1, d1, ds1, p1, q1, rfl, rfl, rfl, h1, r1⟩ := trodAll_cons r0
  obtain ⟨rfl, rfl, rfl⟩ := trodAll_nil r1
  obtain rfl : args = #[v0, v1] := by cases args; simp_all
  obtain ⟨rfl, rfl⟩ := trodVars_none hV
  clear hA0 hA r0 r1
  have h0k := h0
  have h1k := h1
  have hlt0 : ∀ x ∈ p0, x.block < W.heap.size := fun x hx => hW'.lt x (by simp [hx])
  have hlt1 : ∀ x ∈ p1, x.block < W.heap.size := fun x hx => hW'.lt x (by simp [hx])
  simp only [List.append_nil] at hW'
  obtain ⟨a0, len0, cap0, rfl⟩ := okWide_slice Tryz.underlying105 (hval 0 105 v0 rfl rfl)
  obtain ⟨fuel0, hf0⟩ := h0
  obtain ⟨x0, hx0, hy0⟩ := lines_open hf0
  obtain ⟨x1, rfl, rfl, hx1, hz1⟩ := open_int Tryz.underlying3 (hval 1 3 v1 rfl rfl) h1
  rw [laidIs] at hL
  obtain ⟨S, hS, hX⟩ := errWT_of_laid4 hL.1 hL.2 (List.mem_singleton.2 rfl)
  have hN : NErr W := nErr_of_laid4 hL.1
  have hM : Ml W := Tryz.laysM146.s1_3 W hshape
  have t0 : Tab W := tabIs_of_laid (g := 13) (by kernel_rfl) (by kernel_rfl) Tryz.underlying350 Tryz.underlying276 (by kernel_rfl) (by kernel_rfl) hL.1 2 (by kernel_rfl)
  refine (scriptAgain_all x0 _ x1 W S hx0 hy0 ⟨hM, bErr_of_errW hS, hN, t0, hS, hX⟩).mono fun e W' ⟨he, hb⟩ => ?_
  subst he
  refine ⟨_, rfl, _, _, _, [], p0 ++ (p1 ++ []), [], hW', trodAll_cons_mk (shut_bool Tryz.underlying4 true) trodAll_mk0, (trodAll_cons_mk (Below.trod laidOut (by kernel_rfl) (of_decide_eq_true (by kernel_rfl)) h0k hb hlt0) (trodAll_cons_mk (Below.trod laidOut (by kernel_rfl) (of_decide_eq_true (by kernel_rfl)) h1k hb hlt1) trodAll_mk0)), rfl, hb.frame _, fun h => by cases h⟩
theorem laid_met (os : Os) : laidMetH Tryz.prog Rows.scriptAgainRow.laid (((World.doorLaid Tryz.prog 307 os).layVars Tryz.prog [("unicode/utf8.first", Rows.laid_unicode_utf8_first)]).forCall (fun _ _ => 0) ⟨#[], #[.slice none 0 0, .int .i64 0], []⟩).memory := by
  refine laidMetH_of_parts ?_ (by kernel_rfl)
  rw [plainOf]
  refine laidMet_layVars (w0 := World.doorLaid Tryz.prog 307 os) ["unicode/utf8.first"] blocks6 ?_ ?_ ?_ ?_
  · rw [greatOf]; simp [World.memory, World.forCall, Input.heap]
  · rw [greatOf]; kernel_rfl
  · rw [greatOf]; kernel_rfl
  · rw [othersOf]
    exact LaidIn.of_run blocks6 8 (by kernel_rfl) (by kernel_rfl) (by kernel_rfl) (by kernel_rfl)
theorem reads (os : Os) {H : Type} (enc : TypeId × Value → H) : ∃ places, DataW.whole enc Tryz.prog (((World.doorLaid Tryz.prog 307 os).layVars Tryz.prog [("unicode/utf8.first", Rows.laid_unicode_utf8_first)]).forCall (fun _ _ => 0) ⟨#[], #[.slice none 0 0, .int .i64 0], []⟩).memory Tryz.f8.params.toList Rows.scriptAgainSpec.vars false #[Value.slice none 0 0, .int .i64 0].toList 8 = some ([.nil, .lit (.int .i64 0)], [], places) :=
  ⟨[], by kernel_rfl⟩
theorem lifted (os : Os) (started : os.Started) (H : Type) (enc : TypeId × Value → H) (F : Stop.Interp) :
    ReturnsInHanded {} Tryz.checked os 8 .any ((OpenSpec.ofChange Rows.scriptAgainSpec).preRow enc Tryz.prog Tryz.f8 Rows.scriptAgainRow.domain false Rows.scriptAgainRow.laid) (((OpenSpec.ofChange Rows.scriptAgainSpec).at F).post enc Tryz.prog Tryz.f8 false true false false) := by
  obtain ⟨places, hx⟩ := reads os enc
  refine returnsInHanded_of_row (C := Tryz.checked) (s := OpenSpec.ofChange Rows.scriptAgainSpec) own started (by kernel_rfl) Tryz.func8
    (witness_row_atRef (enc := enc) (C := Tryz.checked) false ((World.doorLaid Tryz.prog 307 os).layVars Tryz.prog [("unicode/utf8.first", Rows.laid_unicode_utf8_first)]) #[.slice none 0 0, .int .i64 0] (World.layVars_os _ _ _) (by kernel_rfl) (by kernel_rfl) (by kernel_rfl)
      (OpenSpec.preRow_of_cond 8 hx (by kernel_rfl) (fun k hk => by cases hk) (by kernel_rfl) (laid_met os))) ?_
  intro W base args ds gs before hval hW _ _ _ hL x4 _
  exact contract H enc W base args ds gs before hval hW hL x4
end Go.Proofs.YtgjialbmlhbngaaGreatDoor.lawScriptAgain
