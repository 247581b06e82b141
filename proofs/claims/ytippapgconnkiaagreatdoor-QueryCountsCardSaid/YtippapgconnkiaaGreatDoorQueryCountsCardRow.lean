import Derived.Test.YtippapgconnkiaaGreatDoorRows
import Derived.SizedLaws
import Derived.WalkKit
import Derived.Test.YtippapgconnkiaaGreatDoorP1
import Derived.Test.YtippapgconnkiaaGreatDoorP6
import Derived.ProofKit
import Derived.OpenShut
import Derived.Test.YtippapgconnkiaaGreatDoorCards
import Derived.Test.YtippapgconnkiaaGreatDoorTie
import Derived.Deep.DeepHandedRow
import Derived.Stop.LaidErr
import Derived.Lib.LaidTab
set_option linter.all false
/- The statement Rows.QueryCountsSaid: for every input the law returns true and leaves its input as it was. No condition. -/
namespace Go.Proofs.YtippapgconnkiaaGreatDoor.queryCounts
open Go.ChangeShapes Go.WideShapes Go.ChangeAt Go.RowKit Go.Sx Go.Proofs.Gong
theorem own : ownKnob Tryz.prog.godebug = none := by kernel_rfl
theorem star : "*" ++ "errors.errorString" = "*errors.errorString" := by decide
theorem gn0 : Tryz.prog.globalNamed "math/bits.deBruijn32tab" = some 2 := by kernel_rfl
theorem gt0 : (Tryz.prog.globals[2]?).map (·.type) = some 355 := by kernel_rfl
theorem ga0 : Tryz.prog.underlying 355 = some (.array 32 5) := by kernel_rfl
theorem ge0 : Tryz.prog.underlying 5 = some (.int .u8) := by kernel_rfl
theorem gd0 : (Rows.laid_math_bits_deBruijn32tab : DataW Unit) = Lib.tabData .u8 [0, 1, 28, 2, 29, 14, 24, 3, 30, 22, 20, 15, 25, 17, 4, 8, 31, 27, 13, 23, 21, 19, 16, 7, 26, 12, 18, 6, 11, 5, 10, 9] := by kernel_rfl
theorem gf0 {W : World} (h : laidMetH Tryz.prog Rows.queryCountsRow.laid W) : Lib.TabIs Tryz.prog W "math/bits.deBruijn32tab" .u8 [0, 1, 28, 2, 29, 14, 24, 3, 30, 22, 20, 15, 25, 17, 4, 8, 31, 27, 13, 23, 21, 19, 16, 7, 26, 12, 18, 6, 11, 5, 10, 9] := by
  have h' : laidMet Tryz.prog [("math/bits.deBruijn32tab", Rows.laid_math_bits_deBruijn32tab), ("math/bits.deBruijn64tab", Rows.laid_math_bits_deBruijn64tab), ("internal/strconv.uint64pow10", Rows.laid_internal_strconv_uint64pow10), ("unicode/utf8.acceptRanges", Rows.laid_unicode_utf8_acceptRanges), ("strconv.ErrRange", Rows.laid_strconv_ErrRange), ("strconv.ErrSyntax", Rows.laid_strconv_ErrSyntax), ("gong/stamp.ahead", Rows.laid_gong_stamp_ahead), ("gong/check.trapFields", Rows.laid_gong_check_trapFields), ("gong/check.logFields", Rows.laid_gong_check_logFields), ("gong/check.parts", Rows.laid_gong_check_parts), ("unicode/utf8.first", Rows.laid_unicode_utf8_first)] W := h
  have h' := h'
  rw [gd0] at h'
  exact Lib.tabIs_of_head gn0 gt0 ga0 ge0 (by kernel_rfl) (by kernel_rfl) h'
theorem gn1 : Tryz.prog.globalNamed "math/bits.deBruijn64tab" = some 3 := by kernel_rfl
theorem gt1 : (Tryz.prog.globals[3]?).map (·.type) = some 356 := by kernel_rfl
theorem ga1 : Tryz.prog.underlying 356 = some (.array 64 5) := by kernel_rfl
theorem ge1 : Tryz.prog.underlying 5 = some (.int .u8) := by kernel_rfl
theorem gd1 : (Rows.laid_math_bits_deBruijn64tab : DataW Unit) = Lib.tabData .u8 [0, 1, 56, 2, 57, 49, 28, 3, 61, 58, 42, 50, 38, 29, 17, 4, 62, 47, 59, 36, 45, 43, 51, 22, 53, 39, 33, 30, 24, 18, 12, 5, 63, 55, 48, 27, 60, 41, 37, 16, 46, 35, 44, 21, 52, 32, 23, 11, 54, 26, 40, 15, 34, 20, 31, 10, 25, 14, 19, 9, 13, 8, 7, 6] := by kernel_rfl
theorem gf1 {W : World} (h : laidMetH Tryz.prog Rows.queryCountsRow.laid W) : Lib.TabIs Tryz.prog W "math/bits.deBruijn64tab" .u8 [0, 1, 56, 2, 57, 49, 28, 3, 61, 58, 42, 50, 38, 29, 17, 4, 62, 47, 59, 36, 45, 43, 51, 22, 53, 39, 33, 30, 24, 18, 12, 5, 63, 55, 48, 27, 60, 41, 37, 16, 46, 35, 44, 21, 52, 32, 23, 11, 54, 26, 40, 15, 34, 20, 31, 10, 25, 14, 19, 9, 13, 8, 7, 6] := by
  have h' : laidMet Tryz.prog [("math/bits.deBruijn32tab", Rows.laid_math_bits_deBruijn32tab), ("math/bits.deBruijn64tab", Rows.laid_math_bits_deBruijn64tab), ("internal/strconv.uint64pow10", Rows.laid_internal_strconv_uint64pow10), ("unicode/utf8.acceptRanges", Rows.laid_unicode_utf8_acceptRanges), ("strconv.ErrRange", Rows.laid_strconv_ErrRange), ("strconv.ErrSyntax", Rows.laid_strconv_ErrSyntax), ("gong/stamp.ahead", Rows.laid_gong_stamp_ahead), ("gong/check.trapFields", Rows.laid_gong_check_trapFields), ("gong/check.logFields", Rows.laid_gong_check_logFields), ("gong/check.parts", Rows.laid_gong_check_parts), ("unicode/utf8.first", Rows.laid_unicode_utf8_first)] W := h
  have h' := h'.tail
  rw [gd1] at h'
  exact Lib.tabIs_of_head gn1 gt1 ga1 ge1 (by kernel_rfl) (by kernel_rfl) h'
theorem gn2 : Tryz.prog.globalNamed "internal/strconv.uint64pow10" = some 0 := by kernel_rfl
theorem gt2 : (Tryz.prog.globals[0]?).map (·.type) = some 252 := by kernel_rfl
theorem ga2 : Tryz.prog.underlying 252 = some (.array 20 178) := by kernel_rfl
theorem ge2 : Tryz.prog.underlying 178 = some (.int .u64) := by kernel_rfl
theorem gd2 : (Rows.laid_internal_strconv_uint64pow10 : DataW Unit) = Lib.tabData .u64 [1, 10, 100, 1000, 10000, 100000, 1000000, 10000000, 100000000, 1000000000, 10000000000, 100000000000, 1000000000000, 10000000000000, 100000000000000, 1000000000000000, 10000000000000000, 100000000000000000, 1000000000000000000, 10000000000000000000] := by kernel_rfl
theorem gf2 {W : World} (h : laidMetH Tryz.prog Rows.queryCountsRow.laid W) : Lib.TabIs Tryz.prog W "internal/strconv.uint64pow10" .u64 [1, 10, 100, 1000, 10000, 100000, 1000000, 10000000, 100000000, 1000000000, 10000000000, 100000000000, 1000000000000, 10000000000000, 100000000000000, 1000000000000000, 10000000000000000, 100000000000000000, 1000000000000000000, 10000000000000000000] := by
  have h' : laidMet Tryz.prog [("math/bits.deBruijn32tab", Rows.laid_math_bits_deBruijn32tab), ("math/bits.deBruijn64tab", Rows.laid_math_bits_deBruijn64tab), ("internal/strconv.uint64pow10", Rows.laid_internal_strconv_uint64pow10), ("unicode/utf8.acceptRanges", Rows.laid_unicode_utf8_acceptRanges), ("strconv.ErrRange", Rows.laid_strconv_ErrRange), ("strconv.ErrSyntax", Rows.laid_strconv_ErrSyntax), ("gong/stamp.ahead", Rows.laid_gong_stamp_ahead), ("gong/check.trapFields", Rows.laid_gong_check_trapFields), ("gong/check.logFields", Rows.laid_gong_check_logFields), ("gong/check.parts", Rows.laid_gong_check_parts), ("unicode/utf8.first", Rows.laid_unicode_utf8_first)] W := h
  have h' := h'.tail.tail
  rw [gd2] at h'
  exact Lib.tabIs_of_head gn2 gt2 ga2 ge2 (by kernel_rfl) (by kernel_rfl) h'
theorem gn3 : Tryz.prog.globalNamed "unicode/utf8.acceptRanges" = some 10 := by kernel_rfl
theorem gt3 : (Tryz.prog.globals[10]?).map (·.type) = some 392 := by kernel_rfl
theorem gn4 : Tryz.prog.globalNamed "strconv.ErrRange" = some 8 := by kernel_rfl
theorem gt4 : (Tryz.prog.globals[8]?).map (·.type) = some 227 := by kernel_rfl
theorem gf4 {W : World} (h : laidMetH Tryz.prog Rows.queryCountsRow.laid W) : ∃ v, W.cell? ⟨8, 0, none⟩ = some (.iface 396 v) := by
  have h' : laidMet Tryz.prog [("math/bits.deBruijn32tab", Rows.laid_math_bits_deBruijn32tab), ("math/bits.deBruijn64tab", Rows.laid_math_bits_deBruijn64tab), ("internal/strconv.uint64pow10", Rows.laid_internal_strconv_uint64pow10), ("unicode/utf8.acceptRanges", Rows.laid_unicode_utf8_acceptRanges), ("strconv.ErrRange", Rows.laid_strconv_ErrRange), ("strconv.ErrSyntax", Rows.laid_strconv_ErrSyntax), ("gong/stamp.ahead", Rows.laid_gong_stamp_ahead), ("gong/check.trapFields", Rows.laid_gong_check_trapFields), ("gong/check.logFields", Rows.laid_gong_check_logFields), ("gong/check.parts", Rows.laid_gong_check_parts), ("unicode/utf8.first", Rows.laid_unicode_utf8_first)] W := h
  have h' := h'.tail.tail.tail.tail
  obtain ⟨a, s, hv, _⟩ := laid_sentinel (ms := #[("Error", 295)]) (f := .mk "s" 9 0 false "" "errors" 0) (nm := "*errors.errorString") (text := [118, 97, 108, 117, 101, 32, 111, 117, 116, 32, 111, 102, 32, 114, 97, 110, 103, 101]) (tp := 396) (te := 398) (ts := 9) h' gn4 gt4 (by kernel_rfl) (fun u hu => typeName_ptr_named (nm := "errors.errorString") (by rw [star]; kernel_rfl) (by kernel_rfl) (by decide) u (by rw [star]; exact hu)) (by kernel_rfl) (by kernel_rfl) rfl rfl (by kernel_rfl) (by kernel_rfl) (by kernel_rfl)
  exact ⟨_, World.var?_cell gn4 hv 0⟩
theorem gn5 : Tryz.prog.globalNamed "strconv.ErrSyntax" = some 7 := by kernel_rfl
theorem gt5 : (Tryz.prog.globals[7]?).map (·.type) = some 227 := by kernel_rfl
theorem gf5 {W : World} (h : laidMetH Tryz.prog Rows.queryCountsRow.laid W) : ∃ v, W.cell? ⟨7, 0, none⟩ = some (.iface 396 v) := by
  have h' : laidMet Tryz.prog [("math/bits.deBruijn32tab", Rows.laid_math_bits_deBruijn32tab), ("math/bits.deBruijn64tab", Rows.laid_math_bits_deBruijn64tab), ("internal/strconv.uint64pow10", Rows.laid_internal_strconv_uint64pow10), ("unicode/utf8.acceptRanges", Rows.laid_unicode_utf8_acceptRanges), ("strconv.ErrRange", Rows.laid_strconv_ErrRange), ("strconv.ErrSyntax", Rows.laid_strconv_ErrSyntax), ("gong/stamp.ahead", Rows.laid_gong_stamp_ahead), ("gong/check.trapFields", Rows.laid_gong_check_trapFields), ("gong/check.logFields", Rows.laid_gong_check_logFields), ("gong/check.parts", Rows.laid_gong_check_parts), ("unicode/utf8.first", Rows.laid_unicode_utf8_first)] W := h
  have h' := h'.tail.tail.tail.tail.tail
  obtain ⟨a, s, hv, _⟩ := laid_sentinel (ms := #[("Error", 295)]) (f := .mk "s" 9 0 false "" "errors" 0) (nm := "*errors.errorString") (text := [105, 110, 118, 97, 108, 105, 100, 32, 115, 121, 110, 116, 97, 120]) (tp := 396) (te := 398) (ts := 9) h' gn5 gt5 (by kernel_rfl) (fun u hu => typeName_ptr_named (nm := "errors.errorString") (by rw [star]; kernel_rfl) (by kernel_rfl) (by decide) u (by rw [star]; exact hu)) (by kernel_rfl) (by kernel_rfl) rfl rfl (by kernel_rfl) (by kernel_rfl) (by kernel_rfl)
  exact ⟨_, World.var?_cell gn5 hv 0⟩
theorem gn6 : Tryz.prog.globalNamed "gong/stamp.ahead" = some 11 := by kernel_rfl
theorem gt6 : (Tryz.prog.globals[11]?).map (·.type) = some 399 := by kernel_rfl
theorem ga6 : Tryz.prog.underlying 399 = some (.array 14 3) := by kernel_rfl
theorem ge6 : Tryz.prog.underlying 3 = some (.int .i64) := by kernel_rfl
theorem gd6 : (Rows.laid_gong_stamp_ahead : DataW Unit) = Lib.tabData .i64 [0, 0, 31, 59, 90, 120, 151, 181, 212, 243, 273, 304, 334, 365] := by kernel_rfl
theorem gf6 {W : World} (h : laidMetH Tryz.prog Rows.queryCountsRow.laid W) : Lib.TabIs Tryz.prog W "gong/stamp.ahead" .i64 [0, 0, 31, 59, 90, 120, 151, 181, 212, 243, 273, 304, 334, 365] := by
  have h' : laidMet Tryz.prog [("math/bits.deBruijn32tab", Rows.laid_math_bits_deBruijn32tab), ("math/bits.deBruijn64tab", Rows.laid_math_bits_deBruijn64tab), ("internal/strconv.uint64pow10", Rows.laid_internal_strconv_uint64pow10), ("unicode/utf8.acceptRanges", Rows.laid_unicode_utf8_acceptRanges), ("strconv.ErrRange", Rows.laid_strconv_ErrRange), ("strconv.ErrSyntax", Rows.laid_strconv_ErrSyntax), ("gong/stamp.ahead", Rows.laid_gong_stamp_ahead), ("gong/check.trapFields", Rows.laid_gong_check_trapFields), ("gong/check.logFields", Rows.laid_gong_check_logFields), ("gong/check.parts", Rows.laid_gong_check_parts), ("unicode/utf8.first", Rows.laid_unicode_utf8_first)] W := h
  have h' := h'.tail.tail.tail.tail.tail.tail
  rw [gd6] at h'
  exact Lib.tabIs_of_head gn6 gt6 ga6 ge6 (by kernel_rfl) (by kernel_rfl) h'
theorem gn7 : Tryz.prog.globalNamed "gong/check.trapFields" = some 4 := by kernel_rfl
theorem gt7 : (Tryz.prog.globals[4]?).map (·.type) = some 358 := by kernel_rfl
theorem gn8 : Tryz.prog.globalNamed "gong/check.logFields" = some 5 := by kernel_rfl
theorem gt8 : (Tryz.prog.globals[5]?).map (·.type) = some 359 := by kernel_rfl
theorem gn9 : Tryz.prog.globalNamed "gong/check.parts" = some 1 := by kernel_rfl
theorem gt9 : (Tryz.prog.globals[1]?).map (·.type) = some 307 := by kernel_rfl
theorem SY : ∀ i : Fin 14, ([0, 0, 31, 59, 90, 120, 151, 181, 212, 243, 273, 304, 334, 365] : List Int).getD i.val 0 = jL i.val := by decide
theorem powAll : ([1, 10, 100, 1000, 10000, 100000, 1000000, 10000000, 100000000, 1000000000, 10000000000, 100000000000, 1000000000000, 10000000000000, 100000000000000, 1000000000000000, 10000000000000000, 100000000000000000, 1000000000000000000, 10000000000000000000] : List Int) = Lib.pow10Tab := by decide
theorem whats {W : World} (h : laidMetH Tryz.prog Rows.queryCountsRow.laid W) (hS : W.ShapedOpen Tryz.prog) : QW W := by
  refine ⟨fun i hi => ?_, ?_, ?_⟩
  · have := (gf6 h).cell gn6 i (by simpa using hi)
    rw [SY ⟨i, hi⟩] at this
    exact this
  · have := gf2 h
    rw [powAll] at this
    exact this
  · exact Dj (t := 3) (zero := #[.int .i64 0]) hS (by decide +kernel) (by kernel_rfl) rfl (by kernel_rfl) (by kernel_rfl) (by kernel_rfl)
theorem laid : laidOutB Tryz.prog = true := by kernel_rfl
set_option maxRecDepth 100000 in
theorem contract (H : Type) (enc : TypeId × Value → H) (W : World) (base : Nat) (args : Array Value) (ds gs : List (DataW H)) (before : List MemPlace)
    (hval0 : ∀ (j : Nat) t v, Tryz.f3.params[j]? = some t → args[j]? = some v → Value.okWide Tryz.prog W .any base t v)
    (hW : DataW.Whole enc Tryz.prog Tryz.f3.params.toList Rows.queryCountsSpec.vars false W args.toList ds gs before)
    (hwt0 : (DataW.weightsEach Tryz.prog (Tryz.f3.params.toList ++ Rows.queryCountsSpec.plain.varTypes Tryz.prog) (ds ++ gs)).all (· ≤ reachBytes) = true) (hL : laidMetH Tryz.prog Rows.queryCountsRow.laid W) (hsh : W.ShapedOpen Tryz.prog) :
    Calls Tryz.prog 3 args W fun e W' => ∃ v, e = .returned v ∧ Rows.queryCountsSpec.post enc Tryz.prog Tryz.f3 false true false false W args v W' := by
  have hval : ∀ (j : Nat) t v, Tryz.f3.params[j]? = some t → args[j]? = some v → Value.okWide Tryz.prog W .any base t v := hval0
  have hW' := hW
  obtain ⟨p, q, hA0, hV, rfl, hfz, hnd⟩ := hW
  have hA : DataW.TrodAll enc Tryz.prog W 0 (fun _ => true) true Tryz.f3.params.toList args.toList ds p := hA0
  have hwt := hwt0
  rw [Tryz.params3] at hA hval hwt
  obtain ⟨v0, vs0, d0, ds0, p0, q0, hargs, rfl, rfl, h0, r0⟩ := trodAll_cons hA
  obtain ⟨v1, vs1, d1, ds1, p1, q1, rfl, rfl, rfl, h1, r1⟩ := trodAll_cons r0
  obtain ⟨v2, vs2, d2, ds2, p2, q2, rfl, rfl, rfl, h2, r2⟩ := trodAll_cons r1
  obtain ⟨rfl, rfl, rfl⟩ := trodAll_nil r2
  obtain rfl : args = #[v0, v1, v2] := by cases args; simp_all
  obtain ⟨rfl, rfl⟩ := trodVars_none hV
  have wt0 : ∀ n ∈ d0.weights Tryz.prog 22, n ≤ 140737488351232 := fun n hn => (of_decide_eq_true (List.all_eq_true.1 hwt n (DataW.weights_mem_each (j := 0) (t := 22) (d := d0) rfl rfl n hn)) : n ≤ reachBytes)
  have ft0 := Ns (n0 := 12) (t := 22) (B := 140737488351232) (ks := [.sl 11 [.int .i64, .str, .str, .str, .int .i64, .str, .int .i64, .int .i64, .int .i64, .bool, .str]]) (by kernel_rfl) h0 wt0
  rw [SN (t := 22) (e := 48) (by kernel_rfl) (hval 0 22 v0 rfl rfl)] at ft0
  obtain ⟨_, _, e0, ⟨n0, cs0, rd0, mx0, fc0⟩, _⟩ := Ic ft0
  obtain ⟨rfl, _⟩ := List.cons.inj e0
  have wt1 : ∀ n ∈ d1.weights Tryz.prog 23, n ≤ 140737488351232 := fun n hn => (of_decide_eq_true (List.all_eq_true.1 hwt n (DataW.weights_mem_each (j := 1) (t := 23) (d := d1) rfl rfl n hn)) : n ≤ reachBytes)
  have ft1 := Ns (n0 := 12) (t := 23) (B := 140737488351232) (ks := [.sl 1 [.int .i64]]) (by kernel_rfl) h1 wt1
  rw [SN (t := 23) (e := 3) (by kernel_rfl) (hval 1 23 v1 rfl rfl)] at ft1
  obtain ⟨_, _, e1, ⟨n1, cs1, rd1, mx1, fc1⟩, _⟩ := Ic ft1
  obtain ⟨rfl, _⟩ := List.cons.inj e1
  obtain ⟨a2, rfl, rfl, rfl, w2⟩ := open_int (show Tryz.prog.underlying 3 = some (.int .i64) by kernel_rfl) (hval 2 3 v2 rfl rfl) h2
  refine (OZ ok3 Tryz.call3 (yV (whats hL hsh) rd0 mx0 fc0 rd1 mx1 fc1 a2 w2)).mono fun e W' ⟨he, hf⟩ => ?_
  subst he
  exact ⟨_, rfl, Rq (tb := 4) laid (by kernel_rfl) hW' rfl rfl (by kernel_rfl) (by kernel_rfl) hf⟩
noncomputable def low : Nat := (World.holding Tryz.prog default ⟨#[], #[], []⟩).heap.size
noncomputable def uQ (os : Os) : World :=
  let w0 := World.holding Tryz.prog os ⟨#[.cells #[.string ⟨#[118, 97, 108, 117, 101, 32, 111, 117, 116, 32, 111, 102, 32, 114, 97, 110, 103, 101]⟩] 398, .cells #[.string ⟨#[105, 110, 118, 97, 108, 105, 100, 32, 115, 121, 110, 116, 97, 120]⟩] 398], #[], []⟩
  { w0 with heap := (((((((((((w0.heap.modify 2 fun
      | .cells _ t frozen => .cells #[.int .u8 0, .int .u8 1, .int .u8 28, .int .u8 2, .int .u8 29, .int .u8 14, .int .u8 24, .int .u8 3, .int .u8 30, .int .u8 22, .int .u8 20, .int .u8 15, .int .u8 25, .int .u8 17, .int .u8 4, .int .u8 8, .int .u8 31, .int .u8 27, .int .u8 13, .int .u8 23, .int .u8 21, .int .u8 19, .int .u8 16, .int .u8 7, .int .u8 26, .int .u8 12, .int .u8 18, .int .u8 6, .int .u8 11, .int .u8 5, .int .u8 10, .int .u8 9] t frozen
      | o => o).modify 3 fun
      | .cells _ t frozen => .cells #[.int .u8 0, .int .u8 1, .int .u8 56, .int .u8 2, .int .u8 57, .int .u8 49, .int .u8 28, .int .u8 3, .int .u8 61, .int .u8 58, .int .u8 42, .int .u8 50, .int .u8 38, .int .u8 29, .int .u8 17, .int .u8 4, .int .u8 62, .int .u8 47, .int .u8 59, .int .u8 36, .int .u8 45, .int .u8 43, .int .u8 51, .int .u8 22, .int .u8 53, .int .u8 39, .int .u8 33, .int .u8 30, .int .u8 24, .int .u8 18, .int .u8 12, .int .u8 5, .int .u8 63, .int .u8 55, .int .u8 48, .int .u8 27, .int .u8 60, .int .u8 41, .int .u8 37, .int .u8 16, .int .u8 46, .int .u8 35, .int .u8 44, .int .u8 21, .int .u8 52, .int .u8 32, .int .u8 23, .int .u8 11, .int .u8 54, .int .u8 26, .int .u8 40, .int .u8 15, .int .u8 34, .int .u8 20, .int .u8 31, .int .u8 10, .int .u8 25, .int .u8 14, .int .u8 19, .int .u8 9, .int .u8 13, .int .u8 8, .int .u8 7, .int .u8 6] t frozen
      | o => o).modify 0 fun
      | .cells _ t frozen => .cells #[.int .u64 1, .int .u64 10, .int .u64 100, .int .u64 1000, .int .u64 10000, .int .u64 100000, .int .u64 1000000, .int .u64 10000000, .int .u64 100000000, .int .u64 1000000000, .int .u64 10000000000, .int .u64 100000000000, .int .u64 1000000000000, .int .u64 10000000000000, .int .u64 100000000000000, .int .u64 1000000000000000, .int .u64 10000000000000000, .int .u64 100000000000000000, .int .u64 1000000000000000000, .int .u64 10000000000000000000] t frozen
      | o => o).modify 10 fun
      | .cells _ t frozen => .cells #[.int .u8 128, .int .u8 191, .int .u8 160, .int .u8 191, .int .u8 128, .int .u8 159, .int .u8 144, .int .u8 191, .int .u8 128, .int .u8 143, .int .u8 0, .int .u8 0, .int .u8 0, .int .u8 0, .int .u8 0, .int .u8 0, .int .u8 0, .int .u8 0, .int .u8 0, .int .u8 0, .int .u8 0, .int .u8 0, .int .u8 0, .int .u8 0, .int .u8 0, .int .u8 0, .int .u8 0, .int .u8 0, .int .u8 0, .int .u8 0, .int .u8 0, .int .u8 0] t frozen
      | o => o).modify 8 fun
      | .cells _ t frozen => .cells #[.iface 396 (.pointer (some ⟨low + 0, 0, none⟩))] t frozen
      | o => o).modify 7 fun
      | .cells _ t frozen => .cells #[.iface 396 (.pointer (some ⟨low + 1, 0, none⟩))] t frozen
      | o => o).modify 11 fun
      | .cells _ t frozen => .cells #[.int .i64 0, .int .i64 0, .int .i64 31, .int .i64 59, .int .i64 90, .int .i64 120, .int .i64 151, .int .i64 181, .int .i64 212, .int .i64 243, .int .i64 273, .int .i64 304, .int .i64 334, .int .i64 365] t frozen
      | o => o).modify 4 fun
      | .cells _ t frozen => .cells #[.string ⟨#[115, 111, 117, 114, 99, 101]⟩, .string ⟨#[99, 111, 109, 109, 117, 110, 105, 116, 121]⟩, .string ⟨#[116, 114, 97, 112]⟩, .string ⟨#[117, 112, 116, 105, 109, 101]⟩, .string ⟨#[114, 101, 113, 117, 101, 115, 116]⟩, .string ⟨#[105, 110, 102, 111, 114, 109]⟩] t frozen
      | o => o).modify 5 fun
      | .cells _ t frozen => .cells #[.string ⟨#[115, 111, 117, 114, 99, 101]⟩, .string ⟨#[102, 97, 99, 105, 108, 105, 116, 121]⟩, .string ⟨#[108, 101, 118, 101, 108]⟩, .string ⟨#[115, 116, 97, 109, 112]⟩, .string ⟨#[104, 111, 115, 116]⟩, .string ⟨#[97, 112, 112]⟩, .string ⟨#[112, 114, 111, 99]⟩, .string ⟨#[105, 100]⟩, .string ⟨#[116, 101, 120, 116]⟩] t frozen
      | o => o).modify 1 fun
      | .cells _ t frozen => .cells #[.string ⟨#[110, 111, 100, 101]⟩, .string ⟨#[99, 108, 97, 115, 115]⟩, .string ⟨#[107, 101, 121]⟩, .string ⟨#[108, 101, 118, 101, 108]⟩, .string ⟨#[116, 101, 120, 116]⟩] t frozen
      | o => o).modify 9 fun
      | .cells _ t frozen => .cells ((Go.Pinned.utf8FirstZ.map fun n : Nat => Value.int .u8 n).toArray) t frozen
      | o => o) }
theorem Rs (os : Os) : laidMet Tryz.prog Rows.queryCountsRow.laid ((uQ os).forCall (fun _ _ => 0) ⟨#[], #[(.slice none 0 0), (.slice none 0 0), (.int .i64 0)], []⟩).memory :=
  laidMet_of_run' 8 (by kernel_rfl) (by kernel_rfl)
theorem reads (os : Os) {H : Type} (enc : TypeId × Value → H) : ∃ places, DataW.whole enc Tryz.prog ((uQ os).forCall (fun _ _ => 0) ⟨#[], #[(.slice none 0 0), (.slice none 0 0), (.int .i64 0)], []⟩).memory Tryz.f3.params.toList Rows.queryCountsSpec.vars false (#[(.slice none 0 0), (.slice none 0 0), (.int .i64 0)] : Array Value).toList 8 = some ([.nil, .nil, .lit (.int .i64 0)], [], places) :=
  ⟨[], by kernel_rfl⟩
set_option maxRecDepth 100000 in
theorem lifted (os : Os) (started : os.Started) (H : Type) (enc : TypeId × Value → H) (F : Stop.Interp) :
    ReturnsInHanded {} Tryz.checked os 3 .any ((OpenSpec.ofChange Rows.queryCountsSpec).preRow enc Tryz.prog Tryz.f3 Rows.queryCountsRow.domain false Rows.queryCountsRow.laid) (((OpenSpec.ofChange Rows.queryCountsSpec).at F).post enc Tryz.prog Tryz.f3 false true false false) := by
  obtain ⟨places, hx⟩ := reads os enc
  refine returnsInHanded_of_row (C := Tryz.checked) (s := (OpenSpec.ofChange Rows.queryCountsSpec)) own started (by kernel_rfl) Tryz.func3
    (witness_row_at (enc := enc) (C := Tryz.checked) false (uQ os) #[(.slice none 0 0), (.slice none 0 0), (.int .i64 0)] rfl (by kernel_rfl) (by kernel_rfl) (by kernel_rfl)
      (OpenSpec.preRow_of_cond 8 hx (by kernel_rfl) (fun k hk => by cases hk) (by kernel_rfl) (Rs os))) ?_
  intro W base args ds gs before hval hW _ hcond hsz hL hsh _
  exact contract H enc W base args ds gs before hval hW hsz hL hsh
theorem j0 : (Rows.queryCountsRow.wf (OpenSpec.ofChange (OpenSpec.ofChange Rows.queryCountsSpec).bare)) = true := by kernel_rfl
theorem j1 : (laidOutB Tryz.prog) = true := by kernel_rfl
theorem j2 : (mapsRowed Tryz.prog) = true := by kernel_rfl
theorem j3 : (Tryz.f3.params.all (Tryz.prog.readableRec ·)) = true := by kernel_rfl
theorem j4 : (namedTie Tryz.prog Rows.queryCountsRow.named (OpenSpec.ofChange Rows.queryCountsSpec).bare.vars) = true := by kernel_rfl
theorem j5 : ((Rows.queryCountsRow.stops == [])) = true := by kernel_rfl
theorem j6 : ((Tryz.prog.stops == [])) = true := by kernel_rfl
theorem j7 : ((Rows.queryCountsRow.knobs == [])) = true := by kernel_rfl
theorem j8 : ((Tryz.prog.stopKnobs == [])) = true := by kernel_rfl
theorem j9 : ((Rows.queryCountsRow.inPlace == Tryz.prog.inPlace 3)) = true := by kernel_rfl
theorem j10 : ((Rows.queryCountsRow.unfollowed == Tryz.prog.unfollowed 3)) = true := by kernel_rfl
theorem j11 : ((Rows.queryCountsRow.recurses == Tryz.prog.recurses 3)) = true := by kernel_rfl
theorem j12 : ((Rows.queryCountsRow.named == Tryz.prog.varsNamed 3)) = true := by kernel_rfl
theorem j13 : ((Rows.queryCountsRow.maps == (Tryz.f3.params.toList ++ (OpenSpec.ofChange Rows.queryCountsSpec).bare.plain.varTypes Tryz.prog).any (Tryz.prog.mapsRec ·))) = true := by kernel_rfl
theorem j14 : ((Rows.queryCountsRow.ifaces == (Tryz.f3.params.toList ++ (OpenSpec.ofChange Rows.queryCountsSpec).bare.plain.varTypes Tryz.prog).any (Tryz.prog.ifacesRec ·))) = true := by kernel_rfl
theorem j15 : ((Rows.queryCountsRow.mapsOut == Tryz.prog.mapsAmong Tryz.f3.resultTypes.toList)) = true := by kernel_rfl
theorem j16 : ((Rows.queryCountsRow.loops == (Tryz.f3.params.toList ++ (OpenSpec.ofChange Rows.queryCountsSpec).bare.plain.varTypes Tryz.prog).any (Tryz.prog.loopsFrom ·))) = true := by kernel_rfl
theorem j17 : ((Rows.queryCountsRow.wideKeys == (Tryz.f3.params.toList ++ (OpenSpec.ofChange Rows.queryCountsSpec).bare.plain.varTypes Tryz.prog ++ Tryz.f3.resultTypes.toList).any (Tryz.prog.wideKeysFrom ·))) = true := by kernel_rfl
theorem j18 : ((OpenSpec.ofChange Rows.queryCountsSpec).bare.vars.all (Tryz.prog.varReadable ·)) = true := by kernel_rfl
theorem j19 : (Tryz.f3.resultTypes.all (fun t => Tryz.prog.readableRec t && decide (t < Tryz.prog.types.size))) = true := by kernel_rfl
theorem j20 : ((Rows.queryCountsRow.ifacesOut == Tryz.f3.resultTypes.toList.any (Tryz.prog.ifacesRec ·))) = true := by kernel_rfl
theorem j21 : ((Rows.queryCountsRow.loopsOut == Tryz.f3.resultTypes.toList.any (Tryz.prog.loopsFrom ·))) = true := by kernel_rfl
theorem j22 : ((Rows.queryCountsRow.plainKeys == Tryz.prog.plainKeys)) = true := by kernel_rfl
theorem j23 : (Rows.queryCountsRow.shortTexts.isNone) = true := by kernel_rfl
theorem j24 : (Tryz.prog.stopsHeard) = true := by kernel_rfl
theorem j25 : (Tryz.prog.mayEnter) = true := by kernel_rfl
theorem j26 : ((Rows.queryCountsRow.lifted == Tryz.prog.liftsFinal)) = true := by kernel_rfl
theorem j27 : ((Tryz.prog.make == some Rows.queryCountsRow.make)) = true := by kernel_rfl
theorem j28 : ((Rows.queryCountsRow.kinds == (if Rows.queryCountsRow.domain.isEmpty then [] else Tryz.f3.params.toList.map fun t => match Tryz.prog.underlying t with | some (.int k) => some k | _ => none))) = true := by kernel_rfl
theorem j29 : ((Rows.queryCountsRow.pinned == Rows.queryCountsRow.pinnedBy)) = true := by kernel_rfl
theorem j30 : ((Rows.queryCountsRow.veiled == (Tryz.f3.params.toList ++ (OpenSpec.ofChange Rows.queryCountsSpec).bare.plain.varTypes Tryz.prog ++ Tryz.f3.resultTypes.toList).any (Tryz.prog.veiledRec ·))) = true := by kernel_rfl
theorem j31 : (Rows.queryCountsRow.veiledFits Tryz.prog Tryz.f3.params.toList (Tryz.f3.params.toList ++ (OpenSpec.ofChange Rows.queryCountsSpec).bare.plain.varTypes Tryz.prog ++ Tryz.f3.resultTypes.toList)) = true := by kernel_rfl
theorem cO {a b : Bool} (h1 : a = true) (h2 : b = true) : (a && b) = true := by rw [h1, h2]; rfl
set_option maxRecDepth 100000 in
theorem closed : joinedFacts Tryz.prog 3 Tryz.f3 (OpenSpec.ofChange Rows.queryCountsSpec).bare Rows.queryCountsRow = true := by
  unfold joinedFacts
  exact cO (cO (cO (cO (cO (cO (cO (cO (cO (cO (cO (cO (cO (cO (cO (cO (cO (cO (cO (cO (cO (cO (cO (cO (cO (cO (cO (cO (cO (cO (cO (j0) j1) j2) j3) j4) j5) j6) j7) j8) j9) j10) j11) j12) j13) j14) j15) j16) j17) j18) j19) j20) j21) j22) j23) j24) j25) j26) j27) j28) j29) j30) j31
theorem named : Tryz.prog.funcNamed Rows.queryCountsRow.func = some 3 := by kernel_rfl
theorem inst : Tryz.f3.isInstance Tryz.prog Rows.queryCountsRow.origin Rows.queryCountsRow.targs := of_decide_eq_true (by kernel_rfl)
theorem wrap : Tryz.f3.isWrapper Tryz.prog Rows.queryCountsRow.wrapper Rows.queryCountsRow.mainSum := by
  unfold Func.isWrapper; first | (rw [if_pos (by decide +kernel)]; kernel_rfl) | (rw [if_neg (by decide +kernel)]; exact ⟨rfl, rfl⟩)
theorem said : Rows.QueryCountsSaid :=
  OpenClaim.holds_of_cond 3 Tryz.f3 rfl rfl rfl rfl rfl rfl rfl ⟨rfl, rfl, rfl, rfl, rfl⟩ rfl rfl rfl rfl rfl named Tryz.func3 closed inst wrap
    (fun os started H enc _ F => by rw [OpenClaim.pre_eq_preRow]; exact lifted os started H enc F)
theorem XA : (Tryz.f3.params.toList.all fun t => !Tryz.prog.wantsStandIn t) = true := by kernel_rfl
theorem XE : true = Tryz.pinned.checked.prog.looks [] := by kernel_rfl
theorem plain (f : FuncId) (fn : Func) (hf : Tryz.pinned.checked.prog.funcNamed "gong/gonglaw30.QueryCounts" = some f) (hfn : Tryz.pinned.checked.prog.funcs[f]? = some fn) :
    true = Tryz.pinned.checked.prog.looks [] ∧ ∀ (j : Nat) t, fn.params[j]? = some t → Tryz.pinned.checked.prog.wantsStandIn t = false := by
  obtain rfl : f = 3 := Option.some.inj ((show Tryz.prog.funcNamed "gong/gonglaw30.QueryCounts" = some 3 by kernel_rfl).symm.trans hf) |>.symm
  obtain rfl : fn = Tryz.f3 := (Option.some.inj (Tryz.func3.symm.trans hfn)).symm
  refine ⟨XE, fun j t ht => ?_⟩
  have h := List.all_eq_true.1 XA t (Array.mem_toList_iff.2 (Array.mem_of_getElem? ht))
  show Tryz.prog.wantsStandIn t = false
  simpa using h
theorem proved : Rows.QueryCountsCardSaid :=
  Claim7.holds_tied_plain_at .later [] _ _ _ _ said (fun _ h => by cases h) (by kernel_rfl) (fun _ h => by cases h) queryCounts_row_tie rfl ⟨rfl, rfl⟩ (by kernel_rfl) rfl plain (by kernel_rfl)
#print axioms proved
end Go.Proofs.YtippapgconnkiaaGreatDoor.queryCounts
